/- The fault laws' fixed examples. -/
import Derived.Test.YtkpibmnlmmddjaaDoorFaultMore
namespace Go.Proofs.YtkpibmnlmmddjaaDoor
open Go.RowKit

set_option maxRecDepth 100000 in
set_option maxHeartbeats 1000000 in
theorem awake02 (w : World) (he : Env w) : Calls Tryd.prog 20 #[] w fun e w' => e = .returned (.bool true) ∧ Below w.heap.size w w' := by
  have t1 : errText [⟨#[115, 101, 115, 115, 105, 111, 110]⟩] 3 = ⟨#[115, 101, 115, 115, 105, 111, 110, 58, 32, 101, 114, 114, 111, 114, 32, 51]⟩ := by decide +kernel
  have t2 : toldText true 3 8 = ⟨#[97, 117, 116, 104, 32, 56]⟩ := by decide +kernel
  have t3 : nameOf 12 = ⟨#[101, 109, 112, 116, 121]⟩ := by decide +kernel
  have HT1 := Lib.hid t1
  have HT2 := Lib.hid t2
  have HT3 := Lib.hid t3
  clear t1 t2 t3
  have hE := fun (w1 : World) (h1 : Env w1) => innerError ⟨#[115, 101, 115, 115, 105, 111, 110]⟩ [] true 3 8 w1 h1 (errorOf true 3 8 (by omega) [] (by decide +kernel)) (by decide +kernel)
  have mE := mErrorI
  go_enter Tryd.func20, Tryd.ntmps20
  go_wp2_with fail
  refine (new_fault 3 8 _).mono ?_
  rintro e w1 ⟨rfl, hB1⟩
  go_wp2_with fail
  refine (in_err ⟨#[115, 101, 115, 115, 105, 111, 110]⟩ [] true 3 8 _).mono ?_
  rintro e w2 ⟨rfl, hB2⟩
  have hC2 := below_then hB1 hB2 hB1.size
  clear hB1 hB2
  have he2 := he.later hC2
  rw [show errVal [⟨#[115, 101, 115, 115, 105, 111, 110]⟩] true 3 8 = .iface 81 (.agg #[.string ⟨#[115, 101, 115, 115, 105, 111, 110]⟩, errVal [] true 3 8]) from rfl]
  go_wp2_with fail
  refine (code_nil _).mono ?_
  rintro e w3 ⟨rfl, hB3⟩
  have hC3 := below_then hC2 hB3 hC2.size
  have he3 := he2.later hB3
  clear hB3 hC2 he2
  go_wp2_with fail
  refine (hE _ he3).mono ?_
  rintro e w4 ⟨rfl, hB4⟩
  have hC4 := below_then hC3 hB4 hC3.size
  have he4 := he3.later hB4
  clear hB4 hC3 he3 hE
  rw [HT1.out]
  go_wp2_with fail
  refine (text_err [⟨#[115, 101, 115, 115, 105, 111, 110]⟩] true 3 8 _ (by omega) he4).mono ?_
  rintro e w5 ⟨rfl, hB5⟩
  have hC5 := below_then hC4 hB5 hC4.size
  have he5 := he4.later hB5
  clear hB5 hC4 he4
  rw [HT2.out]
  go_wp2_with fail
  refine (in_nil _ _).mono ?_
  rintro e w6 ⟨rfl, hB6⟩
  have hC6 := below_then hC5 hB6 hC5.size
  have he6 := he5.later hB6
  clear hB6 hC5 he5
  go_wp2_with fail
  refine (shift_nil _ _).mono ?_
  rintro e w7 ⟨rfl, hB7⟩
  have hC7 := below_then hC6 hB7 hC6.size
  have he7 := he6.later hB7
  clear hB7 hC6 he6
  go_wp2_with fail
  refine (name_any 12 _ he7).mono ?_
  rintro e w8 ⟨rfl, hB8⟩
  have hC8 := below_then hC7 hB8 hC7.size
  have he8 := he7.later hB8
  clear hB8 hC7 he7
  rw [HT3.out]
  go_wp2_with fail
  refine (text_nil _).mono ?_
  rintro e w9 ⟨rfl, hB9⟩
  go_wp2_with fail
  go_ret
  exact ⟨rfl, below_then hC8 hB9 hC8.size⟩
end Go.Proofs.YtkpibmnlmmddjaaDoor
