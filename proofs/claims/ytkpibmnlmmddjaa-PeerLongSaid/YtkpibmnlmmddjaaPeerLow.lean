/- The walks of the small functions on strings and runes: cmp.isNaN and cmp.Compare of strings; whether a rune may be in an address. -/
import Derived.Test.YtkpibmnlmmddjaaPeerPure
import Derived.Test.YtkpibmnlmmddjaaShelf
import Derived.Test.YtkpibmnlmmddjaaKit
import Derived.WalkKit
import Derived.WalkLawsBesides
import Derived.WalkSpells
import Derived.Outline
namespace Go.Proofs.Ytkpibmnlmmddjaa
open Go.RowKit

theorem isNaN_any (a : ByteArray) (w : World) : Calls Try.prog 21 #[.string a] w fun e w' => e = .returned (.bool false) ∧ w = w' := by
  go_enter Try.func21, Try.ntmps21
  go_wp2
  go_ret
  exact ⟨by simp, rfl⟩

/-- What cmp.Compare answers at two strings. -/
def cmpS (a b : ByteArray) : Int := if Op.bytesLess a.toList b.toList then -1 else if (!Op.bytesLess a.toList b.toList && !(a.toList == b.toList)) then 1 else 0

set_option maxHeartbeats 400000 in
theorem compare_any (a b : ByteArray) (w : World) : Calls Try.prog 17 #[.string a, .string b] w fun e w' => e = .returned (.int .i64 (cmpS a b)) ∧ w = w' := by
  unfold cmpS
  cases h1 : Op.bytesLess a.toList b.toList <;> cases h2 : (a.toList == b.toList)
  all_goals
    go_enter Try.func17, Try.ntmps17
    go_wp2_with (go_at_call 21; refine (isNaN_any _ _).mono ?_; rintro e w' ⟨rfl, rfl⟩)
    go_ret
    exact ⟨by simp, rfl⟩

theorem peerCompare_any (a b : ByteArray) (w : World) : Calls Try.prog 7 #[.string a, .string b] w fun e w' => e = .returned (.int .i64 (cmpS a b)) ∧ w = w' := by
  go_enter Try.func7, Try.ntmps7
  go_wp2_with (go_at_call 17; refine (compare_any _ _ _).mono ?_; rintro e w' ⟨rfl, rfl⟩)
  go_ret
  exact ⟨rfl, rfl⟩

end Go.Proofs.Ytkpibmnlmmddjaa
