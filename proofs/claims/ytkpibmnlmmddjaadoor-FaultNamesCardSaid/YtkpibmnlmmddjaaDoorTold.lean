/- The reference's Told: what fault.Text says of a described error. -/
import Derived.Test.YtkpibmnlmmddjaaDoorRefText
namespace Go.Proofs.YtkpibmnlmmddjaaDoor
open Go.RowKit

set_option maxRecDepth 100000 in
set_option maxHeartbeats 2000000 in
theorem told_nil (parts : Value) (c a : Int) (fault : Bool) (w : World) :
    Calls Tryd.prog 30 #[descr true parts c a fault] w fun e w' => e = .returned (.string ⟨#[111, 107]⟩) ∧ Below w.heap.size w w' := by
  go_enter Tryd.func30, Tryd.ntmps30
  go_wp2
  go_ret
  exact ⟨rfl, (Below.refl _ _).alloc (Nat.le_refl _) _⟩

set_option maxRecDepth 100000 in
set_option maxHeartbeats 2000000 in
theorem told_err (parts : Value) (c a : Int) (fault : Bool) (w : World) (ha : -9223372036854775808 ≤ a ∧ a ≤ 9223372036854775807) :
    Calls Tryd.prog 30 #[descr false parts c a fault] w fun e w' => e = .returned (.string (toldText fault c a)) ∧ Below w.heap.size w w' := by
  have hw : Below w.heap.size w (w.alloc (.cells #[.bool false, parts, .int .i64 c, .int .i64 a, .bool fault] 42)) := (Below.refl _ _).alloc (Nat.le_refl _) _
  have hbox := Rw.made w 42 #[.bool false, parts, .int .i64 c, .int .i64 a, .bool fault]
  have hz : w.heap.size ≤ (w.alloc (.cells #[.bool false, parts, .int .i64 c, .int .i64 a, .bool fault] 42)).heap.size := by simp
  cases fault
  · go_enter Tryd.func30, Tryd.ntmps30
    go_wp2_with fail
    refine (refName_any _ _).mono ?_
    rintro e w1 ⟨rfl, hB1⟩
    go_wp2_with fail
    go_ret
    exact ⟨rfl, below_then hw hB1 hw.size⟩
  · generalize hW : w.alloc (.cells #[.bool false, parts, .int .i64 c, .int .i64 a, .bool true] 42) = W at *
    have HW := Lib.hid hW
    have p0 : W.cell? ⟨w.heap.size, 0, none⟩ = some (.bool false) := hbox.cell 0
    have p2 : W.cell? ⟨w.heap.size, 2, none⟩ = some (.int .i64 c) := hbox.cell 2
    have p3 : W.cell? ⟨w.heap.size, 3, none⟩ = some (.int .i64 a) := hbox.cell 3
    have p4 : W.cell? ⟨w.heap.size, 4, none⟩ = some (.bool true) := hbox.cell 4
    have c2 : ∀ d os, (Go.Sort.grow (redrawn W d) os).cell? ⟨w.heap.size, 2, none⟩ = some (.int .i64 c) := cell_regrown p2
    have c3 : ∀ d os, (Go.Sort.grow (redrawn W d) os).cell? ⟨w.heap.size, 3, none⟩ = some (.int .i64 a) := cell_regrown p3
    have hN : ∀ d os, Calls Tryd.prog 28 #[.int .i64 c] (Go.Sort.grow (redrawn W d) os) fun e w'' => e = .returned (.string (nameOf c)) ∧ ∃ q : Regrown, w'' = Go.Sort.grow (redrawn W q.d) q.os :=
      fun d os => Calls.regrown_of (refName_any _ _)
    have hD : ∀ d os, Calls Tryd.prog 39 #[.int .i64 a] (Go.Sort.grow (redrawn W d) os) fun e w'' => e = .returned (.string (itoaB a)) ∧ ∃ q : Regrown, w'' = Go.Sort.grow (redrawn W q.d) q.os :=
      fun d os => Calls.regrown_of (decimal_k _ a _ (Nat.le_refl _) ha.1 ha.2)
    have zn := nameOf_size c
    have zi := itoaB_size a ha
    have hTT : toldText true c a = nameOf c ++ ⟨#[32]⟩ ++ itoaB a := rfl
    rw [hTT]
    have z1 : ¬ 9223372036854775807 < (nameOf c).size + 1 := by omega
    have z2 : ¬ 9223372036854775807 < (nameOf c).size + 1 + (itoaB a).size := by omega
    clear hTT hbox
    go_enter Tryd.func30, Tryd.ntmps30
    go_wp2_with fail
    refine wp_region_quiet_below (by kernel_rfl) (by kernel_rfl) ?_
    repeat (quiet_step (first | exact hN _ _ | exact hD _ _))
    refine wpQuiet_nil ?_
    intro _ hw'
    obtain ⟨⟨dq, osq⟩, hw''⟩ := hw'
    subst hw''
    go_wp2
    go_ret
    exact ⟨rfl, below_then hw (below_regrown W dq osq) hz⟩
end Go.Proofs.YtkpibmnlmmddjaaDoor
