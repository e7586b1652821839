/- The walk of the peer laws' fixed examples. -/
import Derived.Test.YtkpibmnlmmddjaaPeerNew
namespace Go.Proofs.Ytkpibmnlmmddjaa
open Go.RowKit Go.Maps

abbrev a1 : ByteArray := ⟨#[97, 58, 49]⟩
theorem orNone_a1 : orNone a1 = a1 := by
  unfold orNone
  rw [if_pos (by decide +kernel)]

theorem orNone_e : orNone ⟨#[]⟩ = ⟨#[]⟩ := by
  unfold orNone
  rw [if_neg (by decide +kernel)]
  rfl

theorem key_isKey : WideAt.IsKeyLit (.string (keyBytes [.string [98, 58, 50]])) := lawKey.key keyB2

set_option maxRecDepth 100000 in
set_option maxHeartbeats 2000000 in
theorem awake_any (w : World) : Calls Try.prog 6 #[] w fun e w' => e = .returned (.bool true) ∧ Below w.heap.size w w' := by
  have hr1 : rightS ⟨#[97, 45, 49, 46, 98, 58, 50]⟩ = true := by decide +kernel
  have hr2 : rightS ⟨#[97, 32, 98]⟩ = false := by decide +kernel
  have hcm : cmpS ⟨#[97]⟩ ⟨#[98]⟩ = -1 := by decide +kernel
  have hrb : rightS b2 = true := by decide +kernel
  have k1 : ∀ x : Int, ((DataW.map [] : DataW Unit).put (.string (keyBytes [.string [98, 58, 50]])) (.lit (.int .i64 x))).atKey (.string (keyBytes [.string [98, 58, 50]])) (.lit (.int .i64 0)) = .lit (.int .i64 x) := fun x => atKey_put_same isMap_empty key_isKey _ _
  have k2 : ∀ x y : Int, (((DataW.map [] : DataW Unit).put (.string (keyBytes [.string [98, 58, 50]])) (.lit (.int .i64 y))).put (.string (keyBytes [.string [98, 58, 50]])) (.lit (.int .i64 x))).atKey (.string (keyBytes [.string [98, 58, 50]])) (.lit (.int .i64 0)) = .lit (.int .i64 x) := fun x y => atKey_put_same (isMap_empty.put _ _) key_isKey _ _
  have K1 := Lib.hid k1
  have K2 := Lib.hid k2
  have HB := Lib.hid hrb
  clear k1 k2 hrb
  go_enter Try.func6, Try.ntmps6
  go_wp2_with fail
  refine (new_any _ _).mono ?_
  rintro e w1 ⟨pb, mb, rfl, hp1, g1, g2, hB1⟩
  rw [orNone_a1] at hp1
  go_wp2_with fail
  refine (fixed_any _ _).mono ?_
  rintro e w2 ⟨pb', mb', rfl, _, _, _, hB2⟩
  have hp2 := hp1.later hB2
  have hC2 := below_then hB1 hB2 hB1.size
  clear hp1 hB1 hB2
  go_wp2_with fail
  refine (move_first b2 _ w.heap.size pb mb _ _ _ _ hp2 g1 g2 HB.out (by omega) (by omega) (by omega) (by decide +kernel) _ keyB2 0 rfl (by omega) (by omega)).mono ?_
  rintro e w3 ⟨rfl, hp3, hB3⟩
  have hC3 := hC2.trans hB3
  clear hp2 hB3 hC2
  go_wp2_with fail
  refine (move_again b2 _ w.heap.size pb mb _ _ _ _ hp3 g1 g2 HB.out (by omega) (by omega) (by omega) (by decide +kernel) _ keyB2 1 (K1.out _) (by omega) (by omega)).mono ?_
  rintro e w4 ⟨rfl, hp4, hB4⟩
  have hC4 := hC3.trans hB4
  clear hp3 hB4 hC3
  go_wp2_with fail
  refine (address_any _ _ _ _ _ _ _ _ hp4).mono ?_
  rintro e w5 ⟨rfl, hB5⟩
  have hp5 := hp4.later hB5
  have hC5 := below_then hC4 hB5 hC4.size
  clear hp4 hB5 hC4
  go_wp2_with fail
  refine (new_any _ _).mono ?_
  rintro e w6 ⟨pb2, mb2, rfl, hq6, _, _, hB6⟩
  rw [orNone_e] at hq6
  have hp6 := hp5.later hB6
  have hC6 := below_then hC5 hB6 hC5.size
  clear hp5 hB6 hC5
  go_wp2_with fail
  refine (address_any _ _ _ _ _ _ _ _ hq6).mono ?_
  rintro e w7 ⟨rfl, hB7⟩
  have hp7 := hp6.later hB7
  have hC7 := below_then hC6 hB7 hC6.size
  clear hp6 hB7 hC6 hq6
  go_wp2_with fail
  refine (moves_any _ _ _ _ _ _ _ _ hp7).mono ?_
  rintro e w8 ⟨rfl, rfl⟩
  go_wp2_with fail
  refine (met_any b2 _ _ _ _ _ _ _ _ hp7 _ keyB2 2 (K2.out _ _)).mono ?_
  rintro e w9 ⟨rfl, hB9⟩
  have hC9 := below_then hC7 hB9 hC7.size
  clear hB9 hC7 hp7
  go_wp2_with fail
  refine (peerRight_any _ _).mono ?_
  rintro e w10 ⟨rfl, hB10⟩
  have hC10 := below_then hC9 hB10 hC9.size
  clear hB10 hC9
  go_wp2_with fail
  refine (peerRight_any _ _).mono ?_
  rintro e w11 ⟨rfl, hB11⟩
  have hC11 := below_then hC10 hB11 hC10.size
  clear hB11 hC10
  go_wp2_with fail
  refine (peerCompare_any _ _ _).mono ?_
  rintro e w12 ⟨rfl, rfl⟩
  go_wp2_with fail
  go_ret
  exact ⟨rfl, hC11⟩
end Go.Proofs.Ytkpibmnlmmddjaa
