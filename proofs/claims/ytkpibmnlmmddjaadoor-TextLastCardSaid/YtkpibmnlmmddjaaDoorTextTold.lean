/- The law's told, at an error that is none and at a fault. -/
import Derived.Test.YtkpibmnlmmddjaaDoorTextChar
namespace Go.Proofs.YtkpibmnlmmddjaaDoor
open Go.RowKit

theorem ltold_none (x : Int) (w : World) : Calls Tryd.prog 16 #[.nilIface, .int .i64 0, .int .i64 x] w fun e w' => e = .returned (.bool true) ∧ Below w.heap.size w w' := by
  go_enter Tryd.func16, Tryd.ntmps16
  go_wp2
  go_ret
  exact ⟨rfl, Below.refl _ _⟩

theorem ltold_fault (c a : Int) (hc : c ≠ 0) (w : World) (he : ErrType w) : Calls Tryd.prog 16 #[.iface 72 (.agg #[.int .i64 c, .int .i64 a]), .int .i64 c, .int .i64 a] w fun e w' => e = .returned (.bool true) ∧ Below w.heap.size w w' := by
  go_enter Tryd.func16, Tryd.ntmps16
  go_wp2_with fail
  refine (code_err [] true c a _ he).mono ?_
  rintro e w1 ⟨rfl, hB1⟩
  go_wp2_with fail
  refine (at_err [] true c a _ (he.later hB1)).mono ?_
  rintro e w2 ⟨rfl, hB2⟩
  go_wp2_with fail
  go_ret
  exact ⟨rfl, below_then hB1 hB2 hB1.size⟩
end Go.Proofs.YtkpibmnlmmddjaaDoor
