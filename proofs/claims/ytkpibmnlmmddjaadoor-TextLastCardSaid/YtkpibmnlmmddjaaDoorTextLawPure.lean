/- The plain laws of keys as texts: printed and read again; read and printed again; the last character. -/
import Derived.Test.YtkpibmnlmmddjaaDoorTextParsePure
import Derived.Test.YtkpibmnlmmddjaaDoorTextPrint
namespace Go.Proofs.YtkpibmnlmmddjaaDoor

/-- The text of a key. -/
def numOf (K : List Nat) : Nat := big 8 (K ++ [0, 0])
def textOf (K : List Nat) : ByteArray := ⟨((chars (numOf K) 22).map fun c => UInt8.ofNat c.toNat).toArray⟩

theorem numOf_eq (K : List Nat) : numOf K = big 8 K * 2 ^ 16 := by
  have e : K ++ [0, 0] = (K ++ [0]) ++ [0] := by simp
  unfold numOf
  rw [e, big_snoc, big_snoc]
  omega

theorem textOf_size (K : List Nat) : (textOf K).size = 22 := by
  show (textOf K).data.size = 22
  simp [textOf, chars]

theorem textOf_get (K : List Nat) {j : Nat} (h : j < 22) : ((textOf K).data.getD j 0).toNat = charN (grp (numOf K) 144 6 j) := by
  have hg := grp_lt (numOf K) 144 6 j
  have hc := charN_lt (i := grp (numOf K) 144 6 j) (by omega)
  simp [textOf, chars, h]
  omega

theorem byte_ext {s t : ByteArray} (h : s.size = t.size) (hb : ∀ j, j < s.size → (s.data.getD j 0).toNat = (t.data.getD j 0).toNat) : s = t := by
  apply ByteArray.ext
  apply Array.ext h
  intro i h1 h2
  have := hb i h1
  have e1 : s.data.getD i 0 = s.data[i] := by rw [Array.getD, dif_pos h1]; rfl
  have e2 : t.data.getD i 0 = t.data[i] := by rw [Array.getD, dif_pos h2]; rfl
  rw [e1, e2] at this
  exact UInt8.toNat_inj.1 this

theorem right_of_char {s : ByteArray} {j g : Nat} (hg : g < 64) (h : (s.data.getD j 0).toNat = charN g) : wrongAt s j = false ∧ valN s j = g := by
  have := valB_of_char hg
  unfold wrongAt valN
  rw [h, this]
  exact ⟨decide_eq_false (by omega), by omega⟩

/-- A key's text is read as that key. -/
theorem parse_text (K : List Nat) (hl : K.length = 16) (hb : ∀ x ∈ K, x < 2 ^ 8) : parseR (textOf K) = (K, 0, 0) := by
  have hr : ∀ j, j < 22 → wrongAt (textOf K) j = false ∧ valN (textOf K) j = grp (numOf K) 144 6 j := fun j hj =>
    right_of_char (by have := grp_lt (numOf K) 144 6 j; omega) (textOf_get K hj)
  have hN := numOf_eq K
  have hK := big_lt 8 16 K hl hb
  have hM : bigV (textOf K) = big 8 K * 2 ^ 4 := by
    have e : vals (textOf K) = (List.range 22).map fun j => grp (numOf K) 144 6 j := List.map_congr_left fun j hj => (hr j (List.mem_range.1 hj)).2
    unfold bigV
    rw [e, big_grps 6 (numOf K) 144 22 (by omega), hN]
    omega
  rw [parseR_right (textOf_size K) (fun j hj => (hr j hj).1) (by rw [hM]; omega), hM]
  congr 1
  apply List.ext_getElem?
  intro i
  by_cases hi : i < 16
  · have h1 := grp_shift (big 8 K) 4 128 8 i (by omega)
    have h2 := grp_big 8 K hb (n := 16) (j := i) hl hi
    have h3 : (keyOfN (big 8 K * 2 ^ 4))[i]? = some (grp (big 8 K * 2 ^ 4) 132 8 i) := by simp [keyOfN, hi]
    rw [h3, h1, h2, List.getElem?_eq_getElem (by omega)]
    simp [List.getD, show i < K.length by omega]
  · rw [List.getElem?_eq_none (by simp [keyOfN]; omega), List.getElem?_eq_none (by omega)]

theorem parseR_cases (s : ByteArray) : (∃ a, parseR s = (zeros16, 4, a)) ∨ (∃ a, parseR s = (zeros16, 11, a)) ∨
    (s.size = 22 ∧ (∀ j, j < 22 → wrongAt s j = false) ∧ bigV s % 16 = 0 ∧ parseR s = (keyOfN (bigV s), 0, 0)) := by
  by_cases h : s.size = 22
  · cases hf : (List.range 22).find? (wrongAt s) with
    | some i =>
      refine .inr (.inl ⟨(i : Int), ?_⟩)
      unfold parseR
      rw [if_pos h, hf]
    | none =>
      have hj : ∀ j, j < 22 → wrongAt s j = false := fun j hj => by
        have := List.find?_eq_none.1 hf j (List.mem_range.2 hj)
        simpa using this
      by_cases hm : bigV s % 16 = 0
      · exact .inr (.inr ⟨h, hj, hm, parseR_right h hj hm⟩)
      · exact .inr (.inl ⟨21, parseR_last h hj hm⟩)
  · exact .inl ⟨_, parseR_len h⟩

theorem keyOfN_length (M : Nat) : (keyOfN M).length = 16 := by simp [keyOfN]
theorem keyOfN_lt (M : Nat) : ∀ x ∈ keyOfN M, x < 2 ^ 8 := by
  intro x hx
  obtain ⟨q, _, rfl⟩ := List.mem_map.1 hx
  exact grp_lt M 132 8 q

/-- What is read is the text of what it was read as. -/
theorem text_parse {s : ByteArray} (h : s.size = 22) (hj : ∀ j, j < 22 → wrongAt s j = false) (hm : bigV s % 16 = 0) : textOf (keyOfN (bigV s)) = s := by
  have hlt : bigV s < 2 ^ 132 := big_lt 6 22 (vals s) (vals_length s) (vals_lt s)
  have hN : numOf (keyOfN (bigV s)) = bigV s * 2 ^ 12 := by
    rw [numOf_eq]
    have := big_grps 8 (bigV s) 132 16 (by omega)
    have e : big 8 (keyOfN (bigV s)) = bigV s / 2 ^ 4 := by
      unfold keyOfN
      rw [this]
      omega
    rw [e]
    omega
  refine byte_ext ((textOf_size _).trans h.symm) fun j hj' => ?_
  rw [textOf_size] at hj'
  rw [textOf_get _ hj', hN, grp_shift (bigV s) 12 132 6 j (by omega)]
  have hv := grp_big 6 (vals s) (vals_lt s) (n := 22) (j := j) (vals_length s) hj'
  rw [vals_get s hj'] at hv
  have e : grp (bigV s) 132 6 j = valN s j := hv
  rw [e]
  have hr := valB_right (hj j hj')
  rcases char_of_valB (byte_range s j) with h1 | ⟨_, _, h3⟩
  · rw [hr] at h1
    omega
  · rw [hr, Int.toNat_natCast] at h3
    omega

/-- The text of a key with another last character. -/
theorem parse_last (K : List Nat) {s : ByteArray} (h : s.size = 22) (hs : ∀ j, j < 21 → s.data.getD j 0 = (textOf K).data.getD j 0) {v : Nat} (hv : v < 64) (hl : (s.data.getD 21 0).toNat = charN v) :
    (v % 16 = 0 → ∃ k, parseR s = (k, 0, 0)) ∧ (¬ v % 16 = 0 → parseR s = (zeros16, 11, 21)) := by
  have hr : ∀ j, j < 22 → wrongAt s j = false := fun j hj => by
    rcases Nat.lt_or_ge j 21 with h' | h'
    · exact (right_of_char (by have := grp_lt (numOf K) 144 6 j; omega) (by rw [hs j h']; exact textOf_get K (by omega))).1
    · obtain rfl : j = 21 := by omega
      exact (right_of_char hv hl).1
  have hlow := bigV_low s
  rw [(right_of_char hv hl).2] at hlow
  exact ⟨fun hz => ⟨_, parseR_right h hr (by omega)⟩, fun hz => parseR_last h hr (by omega)⟩
end Go.Proofs.YtkpibmnlmmddjaaDoor
