/- What text.Parse and the reference's Parse give, as one function of the string. -/
import Derived.Test.YtkpibmnlmmddjaaDoorTextGrp
import Derived.Test.YtkpibmnlmmddjaaDoorArr
import Derived.Test.YtkpibmnlmmddjaaDoorFault
namespace Go.Proofs.YtkpibmnlmmddjaaDoor

/-- The value of character j, from 0 to 63 (0 for a wrong one). -/
def valN (s : ByteArray) (j : Nat) : Nat := (valB (s.data.getD j 0).toNat).toNat
def wrongAt (s : ByteArray) (j : Nat) : Bool := decide (valB (s.data.getD j 0).toNat < 0)
def vals (s : ByteArray) : List Nat := (List.range 22).map (valN s)
def bigV (s : ByteArray) : Nat := big 6 (vals s)
def zeros16 : List Nat := List.replicate 16 0
/-- The first n bytes of the key, zeros behind them. -/
def keyPart (M n : Nat) : List Nat := (List.range 16).map fun q => if q < n then grp M 132 8 q else 0
def keyOfN (M : Nat) : List Nat := (List.range 16).map fun q => grp M 132 8 q

/-- What Parse gives: the key, the code of the error (0 for none), its offset. -/
def parseR (s : ByteArray) : List Nat × Int × Int :=
  if s.size = 22 then
    match (List.range 22).find? (wrongAt s) with
    | some i => (zeros16, 11, (i : Int))
    | none => if bigV s % 16 = 0 then (keyOfN (bigV s), 0, 0) else (zeros16, 11, 21)
  else (zeros16, 4, (s.size : Int))

def errOf (c a : Int) : Value := if c = 0 then .nilIface else errVal [] true c a
def parseV (s : ByteArray) : Value := .tuple #[arr (parseR s).1, errOf (parseR s).2.1 (parseR s).2.2]
def refParseV (s : ByteArray) : Value := .tuple #[arr (parseR s).1, .int .i64 (parseR s).2.1, .int .i64 (parseR s).2.2]

theorem vals_length (s : ByteArray) : (vals s).length = 22 := by simp [vals]
theorem vals_get (s : ByteArray) {j : Nat} (h : j < 22) : (vals s).getD j 0 = valN s j := by simp [vals, List.getD, h]
theorem zeros16_length : zeros16.length = 16 := rfl
theorem keyPart_length (M n : Nat) : (keyPart M n).length = 16 := by simp [keyPart]
theorem keyPart_zero (M : Nat) : keyPart M 0 = zeros16 := rfl
theorem keyPart_full (M : Nat) : keyPart M 16 = keyOfN M := by
  unfold keyPart keyOfN
  refine List.map_congr_left fun q hq => ?_
  rw [if_pos (List.mem_range.1 hq)]
theorem keyPart_succ (M : Nat) {n : Nat} (h : n < 16) : (keyPart M n).set n (grp M 132 8 n) = keyPart M (n + 1) := by
  apply List.ext_getElem?
  intro i
  by_cases hi : i < 16
  · by_cases he : n = i
    · subst he
      rw [List.getElem?_set_self (by rw [keyPart_length]; exact hi)]
      simp [keyPart, h]
    · rw [List.getElem?_set_ne he]
      have : (i < n) ↔ (i < n + 1) := by omega
      simp [keyPart, hi, this]
  · rw [List.getElem?_eq_none (by simp [keyPart_length]; omega), List.getElem?_eq_none (by simp [keyPart_length]; omega)]

theorem valB_range (c : Int) (hc : 0 ≤ c ∧ c ≤ 255) : -1 ≤ valB c ∧ valB c < 64 := by
  rcases char_of_valB hc with h | h <;> omega
theorem byte_range (s : ByteArray) (j : Nat) : (0 : Int) ≤ ((s.data.getD j 0).toNat : Int) ∧ ((s.data.getD j 0).toNat : Int) ≤ 255 := by
  have := UInt8.toNat_lt (s.data.getD j 0)
  omega
theorem valN_lt (s : ByteArray) (j : Nat) : valN s j < 64 := by
  have := valB_range _ (byte_range s j)
  unfold valN
  omega
theorem vals_lt (s : ByteArray) : ∀ x ∈ vals s, x < 2 ^ 6 := by
  intro x hx
  obtain ⟨j, _, rfl⟩ := List.mem_map.1 hx
  exact valN_lt s j
/-- The value of a right character; of a wrong one. -/
theorem valB_right {s : ByteArray} {j : Nat} (h : wrongAt s j = false) : valB (s.data.getD j 0).toNat = (valN s j : Int) := by
  have h1 : ¬ valB (s.data.getD j 0).toNat < 0 := of_decide_eq_false h
  unfold valN
  omega
theorem valB_wrong {s : ByteArray} {j : Nat} (h : wrongAt s j = true) : valB (s.data.getD j 0).toNat = -1 := by
  have h1 : valB (s.data.getD j 0).toNat < 0 := of_decide_eq_true h
  have := valB_range _ (byte_range s j)
  omega
theorem getD_byte {s : ByteArray} {j : Nat} (h : j < s.size) : s[j].toNat = (s.data.getD j 0).toNat := by
  have h' : j < s.data.size := h
  rw [Array.getD, dif_pos h']
  rfl

theorem find_range_none {p : Nat → Bool} {n : Nat} (h : ∀ j, j < n → p j = false) : (List.range n).find? p = none := by
  rw [List.find?_eq_none]
  intro x hx
  rw [h x (List.mem_range.1 hx)]
  simp
theorem find_range_some {p : Nat → Bool} {n i : Nat} (hi : i < n) (hp : p i = true) (h : ∀ j, j < i → p j = false) : (List.range n).find? p = some i := by
  obtain ⟨d, rfl⟩ : ∃ d, n = i + 1 + d := ⟨n - i - 1, by omega⟩
  rw [List.range_add, List.range_succ, List.find?_append, List.find?_append, find_range_none h]
  simp [hp]

theorem parseR_len {s : ByteArray} (h : ¬ s.size = 22) : parseR s = (zeros16, 4, (s.size : Int)) := by unfold parseR; rw [if_neg h]
theorem parseR_wrong {s : ByteArray} (h : s.size = 22) {i : Nat} (hi : i < 22) (hp : wrongAt s i = true) (hj : ∀ j, j < i → wrongAt s j = false) : parseR s = (zeros16, 11, (i : Int)) := by
  unfold parseR
  rw [if_pos h, find_range_some hi hp hj]
theorem parseR_last {s : ByteArray} (h : s.size = 22) (hj : ∀ j, j < 22 → wrongAt s j = false) (hm : ¬ bigV s % 16 = 0) : parseR s = (zeros16, 11, 21) := by
  unfold parseR
  rw [if_pos h, find_range_none hj]
  simp only
  rw [if_neg hm]
theorem parseR_right {s : ByteArray} (h : s.size = 22) (hj : ∀ j, j < 22 → wrongAt s j = false) (hm : bigV s % 16 = 0) : parseR s = (keyOfN (bigV s), 0, 0) := by
  unfold parseR
  rw [if_pos h, find_range_none hj]
  simp only
  rw [if_pos hm]

/-- The last character's low four bits are the number's. -/
theorem bigV_low (s : ByteArray) : bigV s % 16 = valN s 21 % 16 := by
  have h := big_take_succ 6 (l := vals s) (r := 21) (by rw [vals_length]; omega)
  rw [List.take_of_length_le (by rw [vals_length]; omega), vals_get s (by omega)] at h
  unfold bigV
  rw [h]
  omega
end Go.Proofs.YtkpibmnlmmddjaaDoor
