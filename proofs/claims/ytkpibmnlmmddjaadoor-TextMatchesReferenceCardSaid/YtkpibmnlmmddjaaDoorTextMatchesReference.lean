/- TextMatchesReference: for every key the law returns true: its text is the reference's, has 22 characters and is read as that key. -/
import Derived.Test.YtkpibmnlmmddjaaDoorTextAwake
namespace Go.Proofs.YtkpibmnlmmddjaaDoor.TextMatchesReference
open Go.RowKit

set_option maxRecDepth 100000 in
set_option maxHeartbeats 2000000 in
theorem walk (K : List Nat) (Y : List Value) (kY : Key K Y) (w : World) (he : TEnv w) : Calls Tryd.prog 3 #[.agg Y.toArray] w fun e w' => e = .returned (.bool true) ∧ Below w.heap.size w w' := by
  have hu := Tryd.underlying22
  have hpr := fun w => kY.print w
  have hrp := fun w => kY.refPrint w
  have hpa := fun w he => kY.parse0 (s := textOf K) (by rw [textOf_size]; omega) (parse_text K kY.len kY.byte) w he
  have hsz := textOf_size K
  generalize textOf K = T at *
  have hsz' : (T.size : Int) = 22 := by omega
  have heq := fun w => kY.eql w
  have HPR := Lib.hid hpr
  have HRP := Lib.hid hrp
  have HPA := Lib.hid hpa
  have HE := Lib.hid he
  have hr0 := kY.stored w
  have hb0 : Below w.heap.size w (w.alloc (.cells Y.toArray 22)) := (Below.refl _ _).alloc (Nat.le_refl _) _
  have hs0 : w.heap.size < (w.alloc (.cells Y.toArray 22)).heap.size := by simp
  clear hpr hrp hpa hsz he
  go_enter Tryd.func3, Tryd.ntmps3
  go_wp2_with fail
  generalize World.alloc w _ = w0 at *
  refine (awake14 _ (HE.out.later hb0)).mono ?_
  rintro e w1 ⟨rfl, hB1⟩
  have hr1 := range_later hr0 hs0 hB1
  have hb1 := below_then hb0 hB1 hb0.size
  have hs1 : w.heap.size < w1.heap.size := by have := hB1.size; omega
  clear hr0 hb0 hs0 hB1
  go_wp2_with (refine wpList_load_mid (by rfl) _ (.tmp 1) (by rfl) w.heap.size 0 (by rfl) Y _ hr1 hu rfl kY.info' ?_)
  refine (HPR.out _).mono ?_
  rintro e w2 ⟨rfl, hB2⟩
  have hr2 := range_later hr1 hs1 hB2
  have hb2 := below_then hb1 hB2 hb1.size
  have hs2 : w.heap.size < w2.heap.size := by have := hB2.size; omega
  clear hr1 hb1 hs1 hB2
  go_wp2_with fail
  refine (HPA.out _ (HE.out.later hb2)).mono ?_
  rintro e w3 ⟨rfl, hB3⟩
  have hr3 := World.rangeAt_alloc (range_later hr2 hs2 hB3) (.cells Y.toArray 22)
  have hb3 : Below w.heap.size w (w3.alloc (.cells Y.toArray 22)) := (below_then hb2 hB3 hb2.size).alloc (below_then hb2 hB3 hb2.size).size _
  have hs3 : w.heap.size < w3.heap.size := by have := hB3.size; omega
  have hs3' : w3.heap.size < (w3.alloc (.cells Y.toArray 22)).heap.size := by simp
  have hq3 := kY.stored w3
  have HQ3 := Lib.hid hq3
  have HR3 := Lib.hid hr3
  have HB3 := Lib.hid hb3
  have HS3 := Lib.hid hs3'
  clear hr2 hb2 hs2 hB3 hq3 hb3 hs3'
  go_wp2_with (first | (refine wpList_store_new (by rfl) _ (.tmp 4) (.tmp 13) (by rfl) _ Y.toArray (by rfl) (by rfl) kY.info (by rw [kY.size]; rfl) kY.one ?_) | (refine wpList_load_mid (by rfl) _ (.tmp 1) (by rfl) w.heap.size 0 (by rfl) Y _ HR3.out hu rfl kY.info' ?_))
  refine (HRP.out _).mono ?_
  rintro e w4 ⟨rfl, hB4⟩
  have hr4 := range_later HR3.out (by have := HS3.out; omega) hB4
  have hq4 := range_later HQ3.out HS3.out hB4
  have hb4 := below_then HB3.out hB4 HB3.out.size
  have HB4 := Lib.hid hb4
  clear hb4 hB4 hr3
  go_wp2_with (first | (refine wpList_load_g _ (.tmp 4) (by rfl) (by rfl) w3.heap.size 0 (by rfl) Y _ hq4 hu rfl kY.info' ?_) | (refine wpList_load_g _ (.tmp 1) (by rfl) (by rfl) w.heap.size 0 (by rfl) Y _ hr4 hu rfl kY.info' ?_))
  go_ret
  exact ⟨rfl, HB4.out⟩
end Go.Proofs.YtkpibmnlmmddjaaDoor.TextMatchesReference
