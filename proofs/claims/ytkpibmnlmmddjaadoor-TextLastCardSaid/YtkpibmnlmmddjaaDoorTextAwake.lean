/- The law's awake: true. -/
import Derived.Test.YtkpibmnlmmddjaaDoorTextCalls
namespace Go.Proofs.YtkpibmnlmmddjaaDoor
open Go.RowKit

abbrev sAAA : ByteArray := ⟨#[65, 65, 65, 65, 65, 65, 65, 65, 65, 65, 65, 65, 65, 65, 65, 65, 65, 65, 65, 65, 65, 65]⟩
abbrev sAQ : ByteArray := ⟨#[65, 81, 65, 65, 65, 65, 65, 65, 65, 65, 65, 65, 65, 65, 65, 65, 65, 65, 65, 65, 65, 65]⟩
abbrev sA : ByteArray := ⟨#[65]⟩
def one16 : List Nat := [1, 0, 0, 0, 0, 0, 0, 0, 0, 0, 0, 0, 0, 0, 0, 0]
theorem text_zero : textOf zeros16 = sAAA := by decide +kernel
theorem parse_one : parseR sAQ = (one16, 0, 0) := by decide +kernel
theorem parse_a : parseR sA = (zeros16, 4, 1) := by decide +kernel
theorem keyOne : Key one16 (cells8 one16) := ⟨rfl, rfl, by decide⟩

theorem range_later {w w' : World} {b : Nat} {Y : List Value} (h : w.rangeAt b 0 Y) (hb : b < w.heap.size) (hB : Below w.heap.size w w') : w'.rangeAt b 0 Y := fun j v hv => (hB.cell hb).trans (h j v hv)

set_option maxRecDepth 100000 in
set_option maxHeartbeats 2000000 in
theorem awake14 (w : World) (he : TEnv w) : Calls Tryd.prog 11 #[] w fun e w' => e = .returned (.bool true) ∧ Below w.heap.size w w' := by
  obtain ⟨Y, hY⟩ : ∃ Y, Y = cells8 one16 := ⟨_, rfl⟩
  obtain ⟨Z, hZ⟩ : ∃ Z, Z = cells8 zeros16 := ⟨_, rfl⟩
  have kY : Key one16 Y := by rw [hY]; exact keyOne
  have kZ : Key zeros16 Z := by rw [hZ]; exact keyZero
  have hprint : ∀ w, Calls Tryd.prog 12 #[.agg #[.int .u8 0, .int .u8 0, .int .u8 0, .int .u8 0, .int .u8 0, .int .u8 0, .int .u8 0, .int .u8 0, .int .u8 0, .int .u8 0, .int .u8 0, .int .u8 0, .int .u8 0, .int .u8 0, .int .u8 0, .int .u8 0]] w fun e w' => e = .returned (.string sAAA) ∧ Below w.heap.size w w' := fun w => by
    rw [← text_zero]
    exact keyZero.print w
  have hone : Value.agg #[.int .u8 1, .int .u8 0, .int .u8 0, .int .u8 0, .int .u8 0, .int .u8 0, .int .u8 0, .int .u8 0, .int .u8 0, .int .u8 0, .int .u8 0, .int .u8 0, .int .u8 0, .int .u8 0, .int .u8 0, .int .u8 0] = .agg Y.toArray := by rw [hY]; rfl
  have HP := Lib.hid hprint
  have HONE := Lib.hid hone
  have HY := Lib.hid hY
  have HZ := Lib.hid hZ
  have HE := Lib.hid he
  have hu := Tryd.underlying22
  clear hprint hone hY hZ he
  go_enter Tryd.func11, Tryd.ntmps11
  go_wp2_with fail
  refine (HP.out _).mono ?_
  rintro e w1 ⟨rfl, hB1⟩
  have he1 := HE.out.later hB1
  have HE1 := Lib.hid he1
  clear he1
  go_wp2_with fail
  refine (kY.parse0 (s := sAQ) (by decide) parse_one _ HE1.out).mono ?_
  rintro e w2 ⟨rfl, hB2⟩
  have HC2 := Lib.hid (below_then hB1 hB2 hB1.size)
  clear hB1 hB2
  go_wp2_with (refine wpList_store_new (by rfl) _ (.tmp 2) (.tmp 12) (by rfl) _ Y.toArray (by rfl) (by rfl) kY.info (by rw [kY.size]; rfl) kY.one ?_)
  have hb3 : Below w.heap.size w (w2.alloc (.cells Y.toArray 22)) := HC2.out.alloc HC2.out.size _
  have he3 := HE.out.later hb3
  have hr3 := kY.stored w2
  have hs3 : w2.heap.size < (w2.alloc (.cells Y.toArray 22)).heap.size := by simp
  generalize World.alloc w2 _ = w3 at *
  have HB3 := Lib.hid hb3
  have HE3 := Lib.hid he3
  have HR3 := Lib.hid hr3
  clear hb3 he3 hr3
  refine (kZ.parse (s := sA) (c := 4) (a := 1) (by decide) (by decide) parse_a _ HE3.out).mono ?_
  rintro e w4 ⟨rfl, hB4⟩
  have hb4 := below_then HB3.out hB4 HB3.out.size
  have hr4 : w4.rangeAt w2.heap.size 0 Y := range_later HR3.out hs3 hB4
  have hs4 : w2.heap.size < w4.heap.size := by have := hB4.size; omega
  have HB4 := Lib.hid hb4
  have HR4 := Lib.hid hr4
  clear hb4 hr4 hB4 hs3
  have hchar : ∀ w, Calls Tryd.prog 18 #[.int .i64 63] w fun e w' => e = .returned (.tuple #[.int .u8 47, .bool true]) ∧ w = w' := fun w => char_any 63 w
  have HCH := Lib.hid hchar
  clear hchar
  go_wp2_with (refine wpList_store_new (by rfl) _ (.tmp 4) (.tmp 16) (by rfl) _ Z.toArray (by rfl) (by rfl) kZ.info (by rw [kZ.size]; rfl) kZ.one ?_)
  have hb5 : Below w.heap.size w (w4.alloc (.cells Z.toArray 22)) := HB4.out.alloc HB4.out.size _
  have hr5 := World.rangeAt_alloc HR4.out (.cells Z.toArray 22)
  generalize World.alloc w4 _ = w5 at *
  have he5 := HE.out.later hb5
  have hvp : ∀ w, TEnv w → Calls Tryd.prog 17 #[.int .u8 43] w fun e w' => e = .returned (.int .i64 62) ∧ Below w.heap.size w w' := fun w h => value_any 43 (by omega) w h
  have hve : ∀ w, TEnv w → Calls Tryd.prog 17 #[.int .u8 61] w fun e w' => e = .returned (.int .i64 (-1)) ∧ Below w.heap.size w w' := fun w h => value_any 61 (by omega) w h
  have heq : ∀ w, (binOp .eql 22 (.agg Y.toArray) (.agg #[.int .u8 1, .int .u8 0, .int .u8 0, .int .u8 0, .int .u8 0, .int .u8 0, .int .u8 0, .int .u8 0, .int .u8 0, .int .u8 0, .int .u8 0, .int .u8 0, .int .u8 0, .int .u8 0, .int .u8 0, .int .u8 0])).run Tryd.prog w = .ok (.bool true) w := fun w => by
    rw [HONE.out]
    exact kY.eql w
  have HVP := Lib.hid hvp
  have HVE := Lib.hid hve
  have HB5 := Lib.hid hb5
  have HE5 := Lib.hid he5
  clear hvp hve hb5 he5
  refine (HCH.out _).mono ?_
  rintro e w6 ⟨rfl, rfl⟩
  go_wp2_with (refine wpList_load_g _ (.tmp 2) (by rfl) (by rfl) w2.heap.size 0 (by rfl) Y _ hr5 hu rfl kY.info' ?_)
  refine (ltold_fault 4 1 (by decide) _ HE5.out.err).mono ?_
  rintro e w7 ⟨rfl, hB7⟩
  have HE7 := Lib.hid (HE5.out.later (by first | exact hB7 | exact hB7.mono (Nat.le_refl _)))
  have HB7 := Lib.hid (below_then HB5.out hB7 HB5.out.size)
  clear hB7 hr5
  go_wp2_with fail
  refine (HVP.out _ HE7.out).mono ?_
  rintro e w8 ⟨rfl, hB8⟩
  have HE8 := Lib.hid (HE7.out.later hB8)
  have HB8 := Lib.hid (below_then HB7.out hB8 HB7.out.size)
  clear hB8
  go_wp2_with fail
  refine (HVE.out _ HE8.out).mono ?_
  rintro e w9 ⟨rfl, hB9⟩
  have HB9 := Lib.hid (below_then HB8.out hB9 HB8.out.size)
  clear hB9
  go_wp2_with fail
  go_ret
  exact ⟨rfl, HB9.out⟩
end Go.Proofs.YtkpibmnlmmddjaaDoor
