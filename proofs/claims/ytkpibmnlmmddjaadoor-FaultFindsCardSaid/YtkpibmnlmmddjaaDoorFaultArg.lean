/- A description of an error as the laws take it: its parts as a slice of strings in memory; the reference's Few; the error that a description builds. -/
import Derived.Test.YtkpibmnlmmddjaaDoorFaultAwake
namespace Go.Proofs.YtkpibmnlmmddjaaDoor
open Go.RowKit

/-- The slice value v reads as the strings ss, below block B. -/
def Strs (w : World) (v : Value) (ss : List ByteArray) : Prop :=
  (∃ (q : Option Addr) (cap : Nat), v = .slice q 0 cap ∧ ss = []) ∨ ∃ (b off cap : Nat), v = .slice (some ⟨b, off, none⟩) ss.length cap ∧ ss.length ≤ 9223372036854775807 ∧ ∀ i, i < ss.length → w.cell? ⟨b, off + i, none⟩ = some (.string (ss.getD i ⟨#[]⟩))

theorem Strs.later {w w' : World} {v : Value} {ss : List ByteArray} (h : Strs w v ss) (hb : Below w.heap.size w w') : Strs w' v ss := by
  rcases h with h | ⟨b, off, cap, h1, h2, h3⟩
  · exact .inl h
  · exact .inr ⟨b, off, cap, h1, h2, fun i hi => cell_later hb (h3 i hi)⟩

/-- The description as a value. -/
abbrev descr (nil : Bool) (parts : Value) (c a : Int) (fault : Bool) : Value := .agg #[.bool nil, parts, .int .i64 c, .int .i64 a, .bool fault]

/-- Whether a description is small. -/
def fewB (ss : List ByteArray) (a : Int) : Bool := ss.all (fun p => decide (p.size ≤ 50)) && decide (ss.length ≤ 20) && decide (-1152921504606846976 < a) && decide (a < 1152921504606846976)

theorem fewB_bad {ss : List ByteArray} {a : Int} {k : Nat} (hk : k < ss.length) (hz : ¬ (ss.getD k ⟨#[]⟩).size ≤ 50) : fewB ss a = false := by
  have : ss.all (fun p => decide (p.size ≤ 50)) = false := by
    rw [List.all_eq_false]
    refine ⟨ss.getD k ⟨#[]⟩, ?_, by simpa using hz⟩
    simp [List.getD, hk]
  simp [fewB, this]

theorem fewB_good {ss : List ByteArray} {a : Int} (h : ∀ j, j < ss.length → (ss.getD j ⟨#[]⟩).size ≤ 50) : fewB ss a = (decide (ss.length ≤ 20) && decide (-1152921504606846976 < a) && decide (a < 1152921504606846976)) := by
  have : ss.all (fun p => decide (p.size ≤ 50)) = true := by
    rw [List.all_eq_true]
    intro x hx
    obtain ⟨j, hj, rfl⟩ := List.getElem_of_mem hx
    have := h j hj
    simpa [List.getD, hj] using this
  simp [fewB, this]

theorem fewB_true {ss : List ByteArray} {a : Int} (h : fewB ss a = true) : (∀ j, j < ss.length → (ss.getD j ⟨#[]⟩).size ≤ 50) ∧ ss.length ≤ 20 ∧ -1152921504606846976 < a ∧ a < 1152921504606846976 := by
  refine ⟨fun j hj => ?_, ?_⟩
  · rcases Nat.lt_or_ge 50 (ss.getD j ⟨#[]⟩).size with h' | h'
    · rw [fewB_bad hj (by omega)] at h
      cases h
    · exact h'
  · simp only [fewB, Bool.and_eq_true, decide_eq_true_eq] at h
    omega

set_option maxRecDepth 100000 in
set_option maxHeartbeats 1000000 in
theorem few_any (nil : Bool) (parts : Value) (ss : List ByteArray) (c a : Int) (fault : Bool) (w : World) (hp : Strs w parts ss) :
    Calls Tryd.prog 21 #[descr nil parts c a fault] w fun e w' => e = .returned (.bool (fewB ss a)) ∧ Below w.heap.size w w' := by
  have hw : Below w.heap.size w (w.alloc (.cells #[.bool nil, parts, .int .i64 c, .int .i64 a, .bool fault] 42)) := (Below.refl _ _).alloc (Nat.le_refl _) _
  have hbox := Rw.made w 42 #[.bool nil, parts, .int .i64 c, .int .i64 a, .bool fault]
  have hp2 := hp.later hw
  generalize hW : w.alloc (.cells #[.bool nil, parts, .int .i64 c, .int .i64 a, .bool fault] 42) = W at *
  have HW := Lib.hid hW
  have p1 : W.cell? ⟨w.heap.size, 1, none⟩ = some parts := hbox.cell 1
  have p3 : W.cell? ⟨w.heap.size, 3, none⟩ = some (.int .i64 a) := hbox.cell 3
  clear hbox hp
  rcases hp2 with ⟨q, cap, rfl, rfl⟩ | ⟨b, off, cap, rfl, hm, hcell⟩
  · have hg : fewB [] a = (decide ((0 : Nat) ≤ 20) && decide (-1152921504606846976 < a) && decide (a < 1152921504606846976)) := fewB_good (ss := []) (fun j hj => by simp at hj)
    have HG := Lib.hid hg
    clear hg
    go_enter Tryd.func21, Tryd.ntmps21
    go_wp2
    refine wp_loop_rounds 1 ?_
    rw [rounds_succ]
    go_wp2
    all_goals
      go_ret
      exact ⟨retB (by rw [HG.out, Bool.eq_iff_iff]; simp; try omega), hw⟩
  · have HCL := Lib.hid hcell
    clear hcell
    go_enter Tryd.func21, Tryd.ntmps21
    go_wp2
    go_loop [3] (fun i => ∃ k : Nat, k ≤ ss.length ∧ i = .int .i64 k ∧ ∀ j, j < k → (ss.getD j ⟨#[]⟩).size ≤ 50) (fun i => ss.length - (intOf i).toNat)
    case atStart => exact ⟨0, Nat.zero_le _, rfl, fun j hj => by omega⟩
    case round =>
      obtain ⟨k, hk, rfl, hall⟩ := hrel
      have HA := Lib.hid hall
      clear hall
      by_cases hlt : k < ss.length
      · have hx := HCL.out k hlt
        by_cases hz : (ss.getD k ⟨#[]⟩).size ≤ 50
        · have HZ := Lib.hid hz
          obtain ⟨sk, hsk⟩ : ∃ sk, ss.getD k ⟨#[]⟩ = sk := ⟨_, rfl⟩
          rw [hsk] at hx hz
          clear hsk
          go_wp2
          refine ⟨⟨k + 1, by omega, by go_num, fun j hj => ?_⟩, by simp [intOf]; omega⟩
          rcases Nat.lt_or_ge j k with h' | h'
          · exact HA.out j h'
          · obtain rfl : j = k := by omega
            exact HZ.out
        · have hb := fewB_bad (a := a) hlt hz
          have HB := Lib.hid hb
          clear hb
          generalize ss.getD k ⟨#[]⟩ = sk at *
          go_wp2
          go_ret
          exact ⟨retB HB.out.symm, hw⟩
      · obtain rfl : k = ss.length := by omega
        have hg := fewB_good (a := a) HA.out
        have HG := Lib.hid hg
        clear hg
        go_wp2
        all_goals
          go_ret
          exact ⟨retB (by rw [HG.out, Bool.eq_iff_iff]; simp; try omega), hw⟩

theorem rev_take {ss : List ByteArray} {k : Nat} (hk : k < ss.length) : (ss.take (k + 1)).reverse = ss.getD k ⟨#[]⟩ :: (ss.take k).reverse := by
  rw [List.take_succ_eq_append_getElem hk, List.reverse_append]
  simp [List.getD, hk]

theorem errText_small (c : Int) (hc : -9223372036854775808 ≤ c ∧ c ≤ 9223372036854775807) : ∀ ps : List ByteArray, (∀ p ∈ ps, p.size ≤ 50) → (errText ps c).size ≤ 27 + 52 * ps.length
  | [], _ => by
    have := itoaB_size c hc
    unfold errText
    rw [ByteArray.size_append]
    show 6 + _ ≤ _
    simp
    omega
  | p :: ps, h => by
    have h1 := errText_small c hc ps (fun q hq => h q (by simp [hq]))
    have h2 := h p (by simp)
    rw [errText_le]
    simp only [List.length_cons]
    omega

set_option maxRecDepth 100000 in
set_option maxHeartbeats 1000000 in
theorem build_any (parts : Value) (ss : List ByteArray) (c a : Int) (fault : Bool) (w : World) (hp : Strs w parts ss) :
    Calls Tryd.prog 22 #[descr false parts c a fault] w fun e w' => e = .returned (errVal ss.reverse fault c a) ∧ Below w.heap.size w w' := by
  have hw : Below w.heap.size w (w.alloc (.cells #[.bool false, parts, .int .i64 c, .int .i64 a, .bool fault] 42)) := (Below.refl _ _).alloc (Nat.le_refl _) _
  have hbox := Rw.made w 42 #[.bool false, parts, .int .i64 c, .int .i64 a, .bool fault]
  have hp2 := hp.later hw
  have hz : w.heap.size < (w.alloc (.cells #[.bool false, parts, .int .i64 c, .int .i64 a, .bool fault] 42)).heap.size := by simp
  generalize hW : w.alloc (.cells #[.bool false, parts, .int .i64 c, .int .i64 a, .bool fault] 42) = W at *
  have HW := Lib.hid hW
  have p0 : W.cell? ⟨w.heap.size, 0, none⟩ = some (.bool false) := hbox.cell 0
  have p1 : W.cell? ⟨w.heap.size, 1, none⟩ = some parts := hbox.cell 1
  have p2 : W.cell? ⟨w.heap.size, 2, none⟩ = some (.int .i64 c) := hbox.cell 2
  have p3 : W.cell? ⟨w.heap.size, 3, none⟩ = some (.int .i64 a) := hbox.cell 3
  have p4 : W.cell? ⟨w.heap.size, 4, none⟩ = some (.bool fault) := hbox.cell 4
  clear hbox hp
  rcases hp2 with ⟨q, cap, rfl, rfl⟩ | ⟨b, off, cap, rfl, hm, hcell⟩
  · cases fault
    all_goals
      go_enter Tryd.func22, Tryd.ntmps22
      go_wp2
      refine wp_loop_rounds 1 ?_
      rw [rounds_succ]
      go_wp2
      go_ret
      exact ⟨rfl, hw⟩
  · have HCL := Lib.hid hcell
    clear hcell
    obtain ⟨F, hF⟩ : ∃ F : List ByteArray → Value, ∀ ps, F ps = errVal ps fault c a := ⟨fun ps => errVal ps fault c a, fun _ => rfl⟩
    have hin : ∀ (p : ByteArray) (ps : List ByteArray) (w : World), Calls Tryd.prog 32 #[.string p, F ps] w fun e w' => e = .returned (F (p :: ps)) ∧ Below w.heap.size w w' := fun p ps w => by
      rw [hF, hF]
      exact in_err p ps fault c a w
    have HF := Lib.hid hF
    have HIN := Lib.hid hin
    clear hF hin
    cases fault
    all_goals
      go_enter Tryd.func22, Tryd.ntmps22
      go_wp2
      go_loopw [3, 4] (fun e i wr => ∃ k : Nat, k ≤ ss.length ∧ i = .int .i64 k ∧ e = F (ss.take k).reverse ∧ Below W.heap.size W wr) (fun _ i _ => ss.length - (intOf i).toNat)
      case atStart => exact ⟨0, Nat.zero_le _, rfl, (HF.out []).symm, Below.refl _ _⟩
      case round =>
        obtain ⟨k, hk, rfl, rfl, hB⟩ := hrel
        have q1 := cell_later hB p1
        by_cases hlt : k < ss.length
        · have hx := cell_later hB (HCL.out k hlt)
          have hrt := rev_take hlt
          have HRT := Lib.hid hrt
          clear hrt
          generalize ss.getD k ⟨#[]⟩ = sk at *
          go_wp2_with (go_at_call 32; refine (HIN.out _ _ _).mono ?_; rintro e w1 ⟨rfl, hB1⟩)
          exact ⟨⟨k + 1, by omega, by go_num, by rw [HRT.out], below_then hB hB1 hB.size⟩, by simp [intOf]; omega⟩
        · obtain rfl : k = ss.length := by omega
          go_wp2
          go_ret
          exact ⟨by rw [← HF.out, ← List.take_length (l := ss)]; simp, below_then hw hB (by omega)⟩

theorem build_nil (parts : Value) (c a : Int) (fault : Bool) (w : World) :
    Calls Tryd.prog 22 #[descr true parts c a fault] w fun e w' => e = .returned .nilIface ∧ Below w.heap.size w w' := by
  go_enter Tryd.func22, Tryd.ntmps22
  go_wp2
  go_ret
  exact ⟨rfl, (Below.refl _ _).alloc (Nat.le_refl _) _⟩
end Go.Proofs.YtkpibmnlmmddjaaDoor
