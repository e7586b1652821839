/- TextParses: for every string the law returns true: the key is the reference's, and so is the error; what is read is printed again. -/
import Derived.Test.YtkpibmnlmmddjaaDoorTextAwake
namespace Go.Proofs.YtkpibmnlmmddjaaDoor.TextParses
open Go.RowKit

set_option maxRecDepth 100000 in
set_option maxHeartbeats 2000000 in
theorem walk_long (s : ByteArray) (hs : 300 < s.size) (w : World) (he : TEnv w) : Calls Tryd.prog 4 #[.string s] w fun e w' => e = .returned (.bool true) ∧ Below w.heap.size w w' := by
  have hlen : decide (300 < (s.size : Int)) = true := decide_eq_true (by omega)
  have HE := Lib.hid he
  clear he
  go_enter Tryd.func4, Tryd.ntmps4
  go_wp2_with fail
  refine (awake14 _ HE.out).mono ?_
  rintro e w1 ⟨rfl, hB1⟩
  have HB1 := Lib.hid hB1
  clear hB1
  go_wp2_with fail
  refine (awake14 _ (HE.out.later HB1.out)).mono ?_
  rintro e w2 ⟨rfl, hB2⟩
  have HB2 := Lib.hid (below_then HB1.out hB2 HB1.out.size)
  clear hB2
  go_wp2_with fail
  go_ret
  exact ⟨rfl, HB2.out⟩

set_option maxRecDepth 100000 in
set_option maxHeartbeats 2000000 in
theorem walk_fault (s : ByteArray) (hs : s.size ≤ 300) (K : List Nat) (Y : List Value) (kY : Key K Y) (c a : Int) (hc : 0 < c) (hp : parseR s = (K, c, a)) (w : World) (he : TEnv w) :
    Calls Tryd.prog 4 #[.string s] w fun e w' => e = .returned (.bool true) ∧ Below w.heap.size w w' := by
  have hlen : decide (300 < (s.size : Int)) = false := decide_eq_false (by omega)
  have hu := Tryd.underlying22
  have HE := Lib.hid he
  have hpa := fun w he => kY.parse (s := s) hs (show ¬ c = 0 by omega) hp w he
  have hrp := fun w => kY.refParse (s := s) hs hp w
  have hne := fun w => kY.neq w
  have hc0 : (c != 0) = true := by simp; omega
  have HPA := Lib.hid hpa
  have HRP := Lib.hid hrp
  clear he hpa hrp hp
  go_enter Tryd.func4, Tryd.ntmps4
  go_wp2_with fail
  refine (awake14 _ HE.out).mono ?_
  rintro e w1 ⟨rfl, hB1⟩
  have HB1 := Lib.hid hB1
  clear hB1
  go_wp2_with fail
  refine (HPA.out _ (HE.out.later HB1.out)).mono ?_
  rintro e w2 ⟨rfl, hB2⟩
  have hb2 := below_then HB1.out hB2 HB1.out.size
  have hb3 : Below w.heap.size w (w2.alloc (.cells Y.toArray 22)) := hb2.alloc hb2.size _
  have hr3 := kY.stored w2
  have hs3 : w2.heap.size < (w2.alloc (.cells Y.toArray 22)).heap.size := by simp
  have HB3 := Lib.hid hb3
  have HR3 := Lib.hid hr3
  have HS3 := Lib.hid hs3
  clear hB2 hb2 hb3 hr3 hs3
  go_wp2_with (refine wpList_store_new (by rfl) _ (.tmp 3) (.tmp 19) (by rfl) _ Y.toArray (by rfl) (by rfl) kY.info (by rw [kY.size]; rfl) kY.one ?_)
  refine (HRP.out _).mono ?_
  rintro e w4 ⟨rfl, hB4⟩
  have hb4 := below_then HB3.out hB4 HB3.out.size
  have hr4 := range_later HR3.out HS3.out hB4
  have hs4 : w2.heap.size < w4.heap.size := by have := hB4.size; have := HS3.out; omega
  have hb5 : Below w.heap.size w (w4.alloc (.cells Y.toArray 22)) := hb4.alloc hb4.size _
  have hr5 := World.rangeAt_alloc hr4 (.cells Y.toArray 22)
  have hq5 := kY.stored w4
  have HB5 := Lib.hid hb5
  have HR5 := Lib.hid hr5
  have HQ5 := Lib.hid hq5
  clear hB4 hb4 hr4 hb5 hr5 hq5
  go_wp2_with (first | (refine wpList_store_new (by rfl) _ (.tmp 5) (.tmp 24) (by rfl) _ Y.toArray (by rfl) (by rfl) kY.info (by rw [kY.size]; rfl) kY.one ?_) | (refine wpList_load_mid (by rfl) _ (.tmp 3) (by rfl) w2.heap.size 0 (by rfl) Y _ HR5.out hu rfl kY.info' ?_) | (refine wpList_load_mid (by rfl) _ (.tmp 5) (by rfl) w4.heap.size 0 (by rfl) Y _ HQ5.out hu rfl kY.info' ?_))
  refine (ltold_fault c a (by omega) _ (HE.out.later HB5.out).err).mono ?_
  rintro e w6 ⟨rfl, hB6⟩
  have HB6 := Lib.hid (below_then HB5.out (by first | exact hB6 | simpa using hB6) HB5.out.size)
  clear hB6
  go_wp2_with fail
  go_ret
  exact ⟨rfl, HB6.out⟩

set_option maxRecDepth 100000 in
set_option maxHeartbeats 2000000 in
theorem walk_right (s : ByteArray) (hs : s.size ≤ 300) (K : List Nat) (Y : List Value) (kY : Key K Y) (hp : parseR s = (K, 0, 0)) (ht : textOf K = s) (w : World) (he : TEnv w) :
    Calls Tryd.prog 4 #[.string s] w fun e w' => e = .returned (.bool true) ∧ Below w.heap.size w w' := by
  have hlen : decide (300 < (s.size : Int)) = false := decide_eq_false (by omega)
  have hu := Tryd.underlying22
  have HE := Lib.hid he
  have hpa := fun w he => kY.parse0 (s := s) hs hp w he
  have hrp := fun w => kY.refParse (s := s) hs hp w
  have hpr := fun w => kY.print w
  rw [ht] at hpr
  have hne := fun w => kY.neq w
  have HPA := Lib.hid hpa
  have HRP := Lib.hid hrp
  have HPR := Lib.hid hpr
  clear he hpa hrp hpr hp ht
  go_enter Tryd.func4, Tryd.ntmps4
  go_wp2_with fail
  refine (awake14 _ HE.out).mono ?_
  rintro e w1 ⟨rfl, hB1⟩
  have HB1 := Lib.hid hB1
  clear hB1
  go_wp2_with fail
  refine (HPA.out _ (HE.out.later HB1.out)).mono ?_
  rintro e w2 ⟨rfl, hB2⟩
  have hb2 := below_then HB1.out hB2 HB1.out.size
  have hb3 : Below w.heap.size w (w2.alloc (.cells Y.toArray 22)) := hb2.alloc hb2.size _
  have hr3 := kY.stored w2
  have hs3 : w2.heap.size < (w2.alloc (.cells Y.toArray 22)).heap.size := by simp
  have HB3 := Lib.hid hb3
  have HR3 := Lib.hid hr3
  have HS3 := Lib.hid hs3
  clear hB2 hb2 hb3 hr3 hs3
  go_wp2_with (refine wpList_store_new (by rfl) _ (.tmp 3) (.tmp 19) (by rfl) _ Y.toArray (by rfl) (by rfl) kY.info (by rw [kY.size]; rfl) kY.one ?_)
  refine (HRP.out _).mono ?_
  rintro e w4 ⟨rfl, hB4⟩
  have hb4 := below_then HB3.out hB4 HB3.out.size
  have hr4 := range_later HR3.out HS3.out hB4
  have hs4 : w2.heap.size < w4.heap.size := by have := hB4.size; have := HS3.out; omega
  have hb5 : Below w.heap.size w (w4.alloc (.cells Y.toArray 22)) := hb4.alloc hb4.size _
  have hr5 := World.rangeAt_alloc hr4 (.cells Y.toArray 22)
  have hq5 := kY.stored w4
  have hs5 : w2.heap.size < (w4.alloc (.cells Y.toArray 22)).heap.size := by simp; omega
  have HB5 := Lib.hid hb5
  have HR5 := Lib.hid hr5
  have HQ5 := Lib.hid hq5
  have HS5 := Lib.hid hs5
  clear hB4 hb4 hr4 hb5 hr5 hq5 hs5
  go_wp2_with (first | (refine wpList_store_new (by rfl) _ (.tmp 5) (.tmp 24) (by rfl) _ Y.toArray (by rfl) (by rfl) kY.info (by rw [kY.size]; rfl) kY.one ?_) | (refine wpList_load_mid (by rfl) _ (.tmp 3) (by rfl) w2.heap.size 0 (by rfl) Y _ HR5.out hu rfl kY.info' ?_) | (refine wpList_load_mid (by rfl) _ (.tmp 5) (by rfl) w4.heap.size 0 (by rfl) Y _ HQ5.out hu rfl kY.info' ?_))
  refine (ltold_none 0 _).mono ?_
  rintro e w6 ⟨rfl, hB6⟩
  have hr6 := range_later HR5.out HS5.out (by first | exact hB6 | simpa using hB6)
  have HB6 := Lib.hid (below_then HB5.out (by first | exact hB6 | simpa using hB6) HB5.out.size)
  clear hB6
  go_wp2_with (refine wpList_load_g _ (.tmp 3) (by rfl) (by rfl) w2.heap.size 0 (by rfl) Y _ hr6 hu rfl kY.info' ?_)
  refine (HPR.out _).mono ?_
  rintro e w7 ⟨rfl, hB7⟩
  have HB7 := Lib.hid (below_then HB6.out hB7 HB6.out.size)
  clear hB7
  go_wp2_with fail
  go_ret
  exact ⟨rfl, HB7.out⟩

theorem walk (s : ByteArray) (w : World) (he : TEnv w) : Calls Tryd.prog 4 #[.string s] w fun e w' => e = .returned (.bool true) ∧ Below w.heap.size w w' := by
  by_cases hs : s.size ≤ 300
  · rcases parseR_cases s with ⟨a, h⟩ | ⟨a, h⟩ | ⟨h1, h2, h3, h4⟩
    · exact walk_fault s hs _ _ keyZero 4 a (by omega) h w he
    · exact walk_fault s hs _ _ keyZero 11 a (by omega) h w he
    · exact walk_right s hs _ _ ⟨rfl, keyOfN_length _, keyOfN_lt _⟩ h4 (text_parse h1 h2 h3) w he
  · exact walk_long s (by omega) w he
end Go.Proofs.YtkpibmnlmmddjaaDoor.TextParses
