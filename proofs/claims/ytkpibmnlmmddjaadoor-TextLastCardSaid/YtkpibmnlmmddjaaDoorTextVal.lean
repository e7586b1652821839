/- text.Value, text.Character and the reference's Value. -/
import Derived.Test.YtkpibmnlmmddjaaDoorFault
import Derived.Deep.CutBlock
namespace Go.Proofs.YtkpibmnlmmddjaaDoor
open Go.RowKit

/-- The ranges of the alphabet, as the variable text.ranges holds them. -/
def rangesTab : List Int := [65, 26, 0, 97, 26, 26, 48, 10, 52, 43, 1, 62, 47, 1, 63]

structure TEnv (w : World) : Prop where
  err : ErrType w
  rng : ∀ i, i < 15 → w.cell? ⟨0, i, none⟩ = some (.int .i64 (rangesTab.getD i 0))

theorem TEnv.later {w w' : World} (h : TEnv w) (hb : Below w.heap.size w w') : TEnv w' := ⟨h.err.later hb, fun i hi => cell_later hb (h.rng i hi)⟩

def valB (c : Int) : Int := if 65 ≤ c ∧ c < 91 then c - 65 else if 97 ≤ c ∧ c < 123 then c - 71 else if 48 ≤ c ∧ c < 58 then c + 4 else if c = 43 then 62 else if c = 47 then 63 else -1

theorem pick_0 (w : World) : (Instr.index 70 (.agg #[.int .i64 65, .int .i64 26, .int .i64 0, .int .i64 97, .int .i64 26, .int .i64 26, .int .i64 48, .int .i64 10, .int .i64 52, .int .i64 43, .int .i64 1, .int .i64 62, .int .i64 47, .int .i64 1, .int .i64 63]) (.int .i64 0)).run Tryd.prog w = .ok (.agg #[.int .i64 65, .int .i64 26, .int .i64 0]) w := by kernel_rfl
theorem pick_1 (w : World) : (Instr.index 70 (.agg #[.int .i64 65, .int .i64 26, .int .i64 0, .int .i64 97, .int .i64 26, .int .i64 26, .int .i64 48, .int .i64 10, .int .i64 52, .int .i64 43, .int .i64 1, .int .i64 62, .int .i64 47, .int .i64 1, .int .i64 63]) (.int .i64 1)).run Tryd.prog w = .ok (.agg #[.int .i64 97, .int .i64 26, .int .i64 26]) w := by kernel_rfl
theorem pick_2 (w : World) : (Instr.index 70 (.agg #[.int .i64 65, .int .i64 26, .int .i64 0, .int .i64 97, .int .i64 26, .int .i64 26, .int .i64 48, .int .i64 10, .int .i64 52, .int .i64 43, .int .i64 1, .int .i64 62, .int .i64 47, .int .i64 1, .int .i64 63]) (.int .i64 2)).run Tryd.prog w = .ok (.agg #[.int .i64 48, .int .i64 10, .int .i64 52]) w := by kernel_rfl
theorem pick_3 (w : World) : (Instr.index 70 (.agg #[.int .i64 65, .int .i64 26, .int .i64 0, .int .i64 97, .int .i64 26, .int .i64 26, .int .i64 48, .int .i64 10, .int .i64 52, .int .i64 43, .int .i64 1, .int .i64 62, .int .i64 47, .int .i64 1, .int .i64 63]) (.int .i64 3)).run Tryd.prog w = .ok (.agg #[.int .i64 43, .int .i64 1, .int .i64 62]) w := by kernel_rfl
theorem pick_4 (w : World) : (Instr.index 70 (.agg #[.int .i64 65, .int .i64 26, .int .i64 0, .int .i64 97, .int .i64 26, .int .i64 26, .int .i64 48, .int .i64 10, .int .i64 52, .int .i64 43, .int .i64 1, .int .i64 62, .int .i64 47, .int .i64 1, .int .i64 63]) (.int .i64 4)).run Tryd.prog w = .ok (.agg #[.int .i64 47, .int .i64 1, .int .i64 63]) w := by kernel_rfl

theorem retI {k : IntKind} {a b : Int} (h : a = b) : Ending.returned (.int k a) = .returned (.int k b) := by rw [h]

set_option maxRecDepth 100000 in
set_option maxHeartbeats 2000000 in
theorem value_any (c : Int) (hc : 0 ≤ c ∧ c ≤ 255) (w : World) (he : TEnv w) :
    Calls Tryd.prog 17 #[.int .u8 c] w fun e w' => e = .returned (.int .i64 (valB c)) ∧ Below w.heap.size w w' := by
  have r0 : w.cell? ⟨0, 0, none⟩ = some (.int .i64 65) := he.rng 0 (by decide)
  have r1 : w.cell? ⟨0, 1, none⟩ = some (.int .i64 26) := he.rng 1 (by decide)
  have r2 : w.cell? ⟨0, 2, none⟩ = some (.int .i64 0) := he.rng 2 (by decide)
  have r3 : w.cell? ⟨0, 3, none⟩ = some (.int .i64 97) := he.rng 3 (by decide)
  have r4 : w.cell? ⟨0, 4, none⟩ = some (.int .i64 26) := he.rng 4 (by decide)
  have r5 : w.cell? ⟨0, 5, none⟩ = some (.int .i64 26) := he.rng 5 (by decide)
  have r6 : w.cell? ⟨0, 6, none⟩ = some (.int .i64 48) := he.rng 6 (by decide)
  have r7 : w.cell? ⟨0, 7, none⟩ = some (.int .i64 10) := he.rng 7 (by decide)
  have r8 : w.cell? ⟨0, 8, none⟩ = some (.int .i64 52) := he.rng 8 (by decide)
  have r9 : w.cell? ⟨0, 9, none⟩ = some (.int .i64 43) := he.rng 9 (by decide)
  have r10 : w.cell? ⟨0, 10, none⟩ = some (.int .i64 1) := he.rng 10 (by decide)
  have r11 : w.cell? ⟨0, 11, none⟩ = some (.int .i64 62) := he.rng 11 (by decide)
  have r12 : w.cell? ⟨0, 12, none⟩ = some (.int .i64 47) := he.rng 12 (by decide)
  have r13 : w.cell? ⟨0, 13, none⟩ = some (.int .i64 1) := he.rng 13 (by decide)
  have r14 : w.cell? ⟨0, 14, none⟩ = some (.int .i64 63) := he.rng 14 (by decide)
  clear he
  go_enter Tryd.func17, Tryd.ntmps17
  go_wp2_with fail
  obtain ⟨c1, c2⟩ := hc
  go_loopw [7] (fun i wr => ∃ k : Nat, k ≤ 5 ∧ i = .int .i64 k ∧ Below w.heap.size w wr ∧ (0 < k → ¬(65 ≤ c ∧ c < 91)) ∧ (1 < k → ¬(97 ≤ c ∧ c < 123)) ∧ (2 < k → ¬(48 ≤ c ∧ c < 58)) ∧ (3 < k → ¬(43 ≤ c ∧ c < 44)) ∧ (4 < k → ¬(47 ≤ c ∧ c < 48))) (fun i _ => 5 - (intOf i).toNat)
  case atStart => exact ⟨0, by omega, rfl, Below.refl _ _, by omega, by omega, by omega, by omega, by omega⟩
  case round =>
    obtain ⟨k, hk, rfl, hB, n0, n1, n2, n3, n4⟩ := hrel
    have hk5 : k = 0 ∨ k = 1 ∨ k = 2 ∨ k = 3 ∨ k = 4 ∨ k = 5 := by omega
    rcases hk5 with rfl | rfl | rfl | rfl | rfl | rfl
    · clear n0 n1 n2 n3 n4
      have ix := pick_0
      by_cases h : 65 ≤ c ∧ c < 91
      · have hv : valB c = c - 65 := by unfold valB; repeat (first | rw [if_pos (by omega)] | rw [if_neg (by omega)])
        have HV := Lib.hid hv
        clear hv
        obtain ⟨h1, h2⟩ := h
        go_wp2
        go_ret
        exact ⟨retI (by rw [HV.out]; try omega), hB.alloc hB.size _⟩
      · go_wp2
        all_goals exact ⟨⟨1, by omega, by go_num, hB.alloc hB.size _, by omega, by omega, by omega, by omega, by omega⟩, by simp [intOf]⟩
    · have m0 := n0 (by omega)
      clear n0 n1 n2 n3 n4
      have ix := pick_1
      by_cases h : 97 ≤ c ∧ c < 123
      · have hv : valB c = c - 71 := by unfold valB; repeat (first | rw [if_pos (by omega)] | rw [if_neg (by omega)])
        have HV := Lib.hid hv
        clear hv
        obtain ⟨h1, h2⟩ := h
        go_wp2
        go_ret
        exact ⟨retI (by rw [HV.out]; try omega), hB.alloc hB.size _⟩
      · go_wp2
        all_goals exact ⟨⟨2, by omega, by go_num, hB.alloc hB.size _, by omega, by omega, by omega, by omega, by omega⟩, by simp [intOf]⟩
    · have m0 := n0 (by omega)
      have m1 := n1 (by omega)
      clear n0 n1 n2 n3 n4
      have ix := pick_2
      by_cases h : 48 ≤ c ∧ c < 58
      · have hv : valB c = c + 4 := by unfold valB; repeat (first | rw [if_pos (by omega)] | rw [if_neg (by omega)])
        have HV := Lib.hid hv
        clear hv
        obtain ⟨h1, h2⟩ := h
        go_wp2
        go_ret
        exact ⟨retI (by rw [HV.out]; try omega), hB.alloc hB.size _⟩
      · go_wp2
        all_goals exact ⟨⟨3, by omega, by go_num, hB.alloc hB.size _, by omega, by omega, by omega, by omega, by omega⟩, by simp [intOf]⟩
    · have m0 := n0 (by omega)
      have m1 := n1 (by omega)
      have m2 := n2 (by omega)
      clear n0 n1 n2 n3 n4
      have ix := pick_3
      by_cases h : 43 ≤ c ∧ c < 44
      · have hv : valB c = 62 := by unfold valB; repeat (first | rw [if_pos (by omega)] | rw [if_neg (by omega)])
        have HV := Lib.hid hv
        clear hv
        obtain ⟨h1, h2⟩ := h
        go_wp2
        go_ret
        exact ⟨retI (by rw [HV.out]; try omega), hB.alloc hB.size _⟩
      · go_wp2
        all_goals exact ⟨⟨4, by omega, by go_num, hB.alloc hB.size _, by omega, by omega, by omega, by omega, by omega⟩, by simp [intOf]⟩
    · have m0 := n0 (by omega)
      have m1 := n1 (by omega)
      have m2 := n2 (by omega)
      have m3 := n3 (by omega)
      clear n0 n1 n2 n3 n4
      have ix := pick_4
      by_cases h : 47 ≤ c ∧ c < 48
      · have hv : valB c = 63 := by unfold valB; repeat (first | rw [if_pos (by omega)] | rw [if_neg (by omega)])
        have HV := Lib.hid hv
        clear hv
        obtain ⟨h1, h2⟩ := h
        go_wp2
        go_ret
        exact ⟨retI (by rw [HV.out]; try omega), hB.alloc hB.size _⟩
      · go_wp2
        all_goals exact ⟨⟨5, by omega, by go_num, hB.alloc hB.size _, by omega, by omega, by omega, by omega, by omega⟩, by simp [intOf]⟩
    · have m0 := n0 (by omega)
      have m1 := n1 (by omega)
      have m2 := n2 (by omega)
      have m3 := n3 (by omega)
      have m4 := n4 (by omega)
      clear n0 n1 n2 n3 n4
      have hv : valB c = -1 := by unfold valB; repeat (first | rw [if_pos (by omega)] | rw [if_neg (by omega)])
      have HV := Lib.hid hv
      clear hv
      go_wp2
      go_ret
      exact ⟨retI (by rw [HV.out]), hB⟩
end Go.Proofs.YtkpibmnlmmddjaaDoor
