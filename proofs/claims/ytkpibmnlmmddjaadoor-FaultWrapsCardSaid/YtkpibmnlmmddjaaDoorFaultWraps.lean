/- FaultWraps: for every description of an error and every string the law returns true: the library finds the code in a wrapped error, and what was wrapped is the next error of its chain. -/
import Derived.Test.YtkpibmnlmmddjaaDoorRefText
import Derived.Test.YtkpibmnlmmddjaaDoorIs
import Derived.Deep.RegionHeld3
namespace Go.Proofs.YtkpibmnlmmddjaaDoor.FaultWraps
open Go.RowKit

/-- What is held of a world while the region of the law's last line is walked. -/
structure At (w0 : World) (b : Nat) (cs : Array Value) (parts : Value) (ss : List ByteArray) (w : World) : Prop where
  env : Env w
  strs : Strs w parts ss
  below : Below w0.heap.size w0 w
  box : Rw w b 42 cs

theorem At.later {w0 : World} {b : Nat} {cs : Array Value} {parts : Value} {ss : List ByteArray} {w w' : World} (h : At w0 b cs parts ss w) (hb : Below w.heap.size w w') : At w0 b cs parts ss w' :=
  ⟨h.env.later hb, h.strs.later hb, below_then h.below hb h.below.size, h.box.later hb⟩

theorem wrap_other (c : Int) : (c == wrap64 (c + 1)) = false := by
  have h : ¬ c = (c + 1 + 9223372036854775808) % 18446744073709551616 - 9223372036854775808 := by omega
  refine beq_eq_false_iff_ne.2 ?_
  unfold wrap64
  exact h

set_option maxRecDepth 100000 in
set_option maxHeartbeats 4000000 in
theorem walk (nil : Bool) (parts : Value) (ss : List ByteArray) (c a : Int) (fault : Bool) (s : ByteArray) (w : World) (hp : Strs w parts ss) (he : Env w) (hc : -9223372036854775808 ≤ c ∧ c ≤ 9223372036854775807) (hs : s.size ≤ maxLen)  :
    Calls Tryd.prog 10 #[descr nil parts c a fault, .string s] w fun e w' => e = .returned (.bool true) ∧ Below w.heap.size w w' := by
  have hw : Below w.heap.size w (w.alloc (.cells #[.bool nil, parts, .int .i64 c, .int .i64 a, .bool fault] 42)) := (Below.refl _ _).alloc (Nat.le_refl _) _
  have hbox := Rw.made w 42 #[.bool nil, parts, .int .i64 c, .int .i64 a, .bool fault]
  have hp2 := hp.later hw
  have he2 := he.later hw
  generalize hW : w.alloc (.cells #[.bool nil, parts, .int .i64 c, .int .i64 a, .bool fault] 42) = W at *
  have HW := Lib.hid hW
  have hF : ∀ (w1 : World), Strs w1 parts ss → Calls Tryd.prog 21 #[descr nil parts c a fault] w1 fun e w' => e = .returned (.bool (fewB ss a)) ∧ Below w1.heap.size w1 w' := fun w1 h1 => few_any nil parts ss c a fault w1 h1
  have HF := Lib.hid hF
  clear hF hp he
  cases hfw : fewB ss a
  · go_enter Tryd.func10, Tryd.ntmps10
    go_wp2_with fail
    refine (awake02 _ he2).mono ?_
    rintro e w1 ⟨rfl, hB1⟩
    have hC1 := below_then hw hB1 hw.size
    have hbox1 := hbox.later hB1
    have q0 : w1.cell? ⟨w.heap.size, 0, none⟩ = some (.bool nil) := hbox1.cell 0
    have q1 : w1.cell? ⟨w.heap.size, 1, none⟩ = some parts := hbox1.cell 1
    have q2 : w1.cell? ⟨w.heap.size, 2, none⟩ = some (.int .i64 c) := hbox1.cell 2
    have q3 : w1.cell? ⟨w.heap.size, 3, none⟩ = some (.int .i64 a) := hbox1.cell 3
    have q4 : w1.cell? ⟨w.heap.size, 4, none⟩ = some (.bool fault) := hbox1.cell 4
    go_wp2_with fail
    refine (HF.out _ (hp2.later hB1)).mono ?_
    rintro e w2 ⟨rfl, hB2⟩
    have hC2 := below_then hC1 hB2 hC1.size
    go_wp2_with fail
    refine (awake02 _ ((he2.later hB1).later hB2)).mono ?_
    rintro e w3 ⟨rfl, hB3⟩
    go_wp2_with fail
    go_ret
    exact ⟨rfl, below_then hC2 hB3 hC2.size⟩
  · have HFW := Lib.hid hfw
    obtain ⟨_, _, a1, a2⟩ := fewB_true hfw
    go_enter Tryd.func10, Tryd.ntmps10
    go_wp2_with fail
    refine (awake02 _ he2).mono ?_
    rintro e w1 ⟨rfl, hB1⟩
    have hC1 := below_then hw hB1 hw.size
    have hbox1 := hbox.later hB1
    have he3 := he2.later hB1
    have hp3 := hp2.later hB1
    have q0 : w1.cell? ⟨w.heap.size, 0, none⟩ = some (.bool nil) := hbox1.cell 0
    have q1 : w1.cell? ⟨w.heap.size, 1, none⟩ = some parts := hbox1.cell 1
    have q2 : w1.cell? ⟨w.heap.size, 2, none⟩ = some (.int .i64 c) := hbox1.cell 2
    have q3 : w1.cell? ⟨w.heap.size, 3, none⟩ = some (.int .i64 a) := hbox1.cell 3
    have q4 : w1.cell? ⟨w.heap.size, 4, none⟩ = some (.bool fault) := hbox1.cell 4
    clear hB1 hbox he2 hp2
    go_wp2_with fail
    refine (HF.out _ hp3).mono ?_
    rintro e w2 ⟨rfl, hB2⟩
    have hA2 : At w w.heap.size #[.bool nil, parts, .int .i64 c, .int .i64 a, .bool fault] parts ss w2 := ⟨he3.later hB2, hp3.later hB2, below_then hC1 hB2 hC1.size, hbox1.later hB2⟩
    clear hB2 hbox1 he3 hp3 q0 q1 q2 q3 q4 hC1 HFW HF hW HW hw
    cases nil with
    | true =>
      have t0 : w2.cell? ⟨w.heap.size, 0, none⟩ = some (.bool true) := hA2.box.cell 0
      go_wp2_with fail
      refine (awake02 _ hA2.env).mono ?_
      rintro e w3 ⟨rfl, hB3⟩
      go_wp2_with fail
      go_ret
      exact ⟨rfl, below_then hA2.below hB3 hA2.below.size⟩
    | false =>
      have t0 : w2.cell? ⟨w.heap.size, 0, none⟩ = some (.bool false) := hA2.box.cell 0
      by_cases hz : s.size ≤ 50
      · have t1 : w2.cell? ⟨w.heap.size, 1, none⟩ = some parts := hA2.box.cell 1
        have t2 : w2.cell? ⟨w.heap.size, 2, none⟩ = some (.int .i64 c) := hA2.box.cell 2
        have t3 : w2.cell? ⟨w.heap.size, 3, none⟩ = some (.int .i64 a) := hA2.box.cell 3
        have t4 : w2.cell? ⟨w.heap.size, 4, none⟩ = some (.bool fault) := hA2.box.cell 4
        obtain ⟨T, v0, fE, hTv, hM, hEn, hCall⟩ := errorOf fault c a hc ss.reverse (by
          have h := errText_small c hc ss.reverse (fun p hp => by
            rw [List.mem_reverse] at hp
            obtain ⟨j, hj, rfl⟩ := List.getElem_of_mem hp
            have := (fewB_true hfw).1 j hj
            simpa [List.getD, hj] using this)
          have h2 := (fewB_true hfw).2.1
          rw [List.length_reverse] at h
          omega)
        have hCL : ∀ w1 : World, At w w.heap.size #[.bool false, parts, .int .i64 c, .int .i64 a, .bool fault] parts ss w1 → Calls Tryd.prog fE #[v0] w1 fun e w' => e = .returned (.string (errText ss.reverse c)) ∧ Below w1.heap.size w1 w' := fun w1 h => hCall w1 h.env
        have hA9 : errVal (s :: ss.reverse) fault c a = .iface 81 (.agg #[.string s, .iface T v0]) := by rw [← hTv]; rfl
        have hBD : ∀ w1 : World, At w w.heap.size #[.bool false, parts, .int .i64 c, .int .i64 a, .bool fault] parts ss w1 → Calls Tryd.prog 22 #[descr false parts c a fault] w1 fun e w' => e = .returned (.iface T v0) ∧ Below w1.heap.size w1 w' := fun w1 h => by rw [← hTv]; exact build_any parts ss c a fault w1 h.strs
        have hIN : ∀ w1 : World, Calls Tryd.prog 32 #[.string s, .iface T v0] w1 fun e w' => e = .returned (.iface 81 (.agg #[.string s, .iface T v0])) ∧ Below w1.heap.size w1 w' := fun w1 => by rw [← hA9, ← hTv]; exact in_err s ss.reverse fault c a w1
        have hUW : ∀ w1 : World, Calls Tryd.prog 33 #[.iface 81 (.agg #[.string s, .iface T v0])] w1 fun e w' => e = .returned (.iface T v0) ∧ Below w1.heap.size w1 w' := fun w1 => by rw [← hA9, ← hTv]; exact Unwrap_in s ss.reverse fault c a w1
        have hI1 : ∀ w1 : World, Calls Tryd.prog 34 #[.iface 81 (.agg #[.string s, .iface T v0]), .iface 45 (.int .i64 c)] w1 fun e w' => e = .returned (.bool true) ∧ Below w1.heap.size w1 w' := fun w1 => by
          rw [← hA9]
          have := Is_code (s :: ss.reverse) fault c a c w1
          simpa using this
        have hI2 : ∀ w1 : World, Calls Tryd.prog 34 #[.iface 81 (.agg #[.string s, .iface T v0]), .iface 45 (.int .i64 (wrap64 (c + 1)))] w1 fun e w' => e = .returned (.bool false) ∧ Below w1.heap.size w1 w' := fun w1 => by
          rw [← hA9]
          have h9 := Is_code (s :: ss.reverse) fault c a (wrap64 (c + 1)) w1
          rw [wrap_other c] at h9
          exact h9
        have HM := Lib.hid hM
        have HCALL := Lib.hid hCL
        have HBD := Lib.hid hBD
        have HIN := Lib.hid hIN
        have HUW := Lib.hid hUW
        have HI1 := Lib.hid hI1
        have HI2 := Lib.hid hI2
        clear hM hCall hCL hBD hIN hUW hI1 hI2 hA9 hTv
        generalize errText ss.reverse c = tx at *
        go_wp2_with fail
        refine (HBD.out _ hA2).mono ?_
        rintro e w3 ⟨rfl, hB3⟩
        have hA3 : At w w.heap.size #[.bool false, parts, .int .i64 c, .int .i64 a, .bool fault] parts ss w3 := At.later hA2 hB3
        clear hB3 hA2 t0 t1 t2 t3 t4
        go_wp2_with fail
        refine (HIN.out _).mono ?_
        rintro e w4 ⟨rfl, hB4⟩
        have hA4 : At w w.heap.size #[.bool false, parts, .int .i64 c, .int .i64 a, .bool fault] parts ss w4 := At.later hA3 hB4
        clear hB4 hA3
        have hcells : ∀ w' : World, At w w.heap.size #[.bool false, parts, .int .i64 c, .int .i64 a, .bool fault] parts ss w' → w'.cell? ⟨w.heap.size, 0, none⟩ = some (.bool false) ∧ w'.cell? ⟨w.heap.size, 1, none⟩ = some parts ∧ w'.cell? ⟨w.heap.size, 2, none⟩ = some (.int .i64 c) ∧ w'.cell? ⟨w.heap.size, 3, none⟩ = some (.int .i64 a) ∧ w'.cell? ⟨w.heap.size, 4, none⟩ = some (.bool fault) := fun w' h => ⟨h.box.cell 0, h.box.cell 1, h.box.cell 2, h.box.cell 3, h.box.cell 4⟩
        have HCELLS := Lib.hid hcells
        clear hcells
        go_wp2_with fail
        refine (HUW.out _).mono ?_
        rintro e w5 ⟨rfl, hB5⟩
        have hA5 : At w w.heap.size #[.bool false, parts, .int .i64 c, .int .i64 a, .bool fault] parts ss w5 := At.later hA4 hB5
        clear hB5 hA4
        have hM := HM.out
        go_wp2_with fail
        refine (HCALL.out _ hA5).mono ?_
        rintro e w6 ⟨rfl, hB6⟩
        have hA6 : At w w.heap.size #[.bool false, parts, .int .i64 c, .int .i64 a, .bool fault] parts ss w6 := At.later hA5 hB6
        have t6 : w6.cell? ⟨w.heap.size, 2, none⟩ = some (.int .i64 c) := hA6.box.cell 2
        clear hB6 hA5
        go_wp2_with fail
        refine (HCALL.out _ hA6).mono ?_
        rintro e w7 ⟨rfl, hB7⟩
        have hA7 : At w w.heap.size #[.bool false, parts, .int .i64 c, .int .i64 a, .bool fault] parts ss w7 := At.later hA6 hB7
        have t7 : w7.cell? ⟨w.heap.size, 2, none⟩ = some (.int .i64 c) := hA7.box.cell 2
        clear hB7 hA6
        go_wp2_with fail
        refine (HI1.out _).mono ?_
        rintro e w8 ⟨rfl, hB8⟩
        have hA8 : At w w.heap.size #[.bool false, parts, .int .i64 c, .int .i64 a, .bool fault] parts ss w8 := At.later hA7 hB8
        have t8 : w8.cell? ⟨w.heap.size, 2, none⟩ = some (.int .i64 c) := hA8.box.cell 2
        clear hB8 hA7
        go_wp2_with fail
        refine (HI2.out _).mono ?_
        rintro e w9 ⟨rfl, hB9⟩
        have hA9 : At w w.heap.size #[.bool false, parts, .int .i64 c, .int .i64 a, .bool fault] parts ss w9 := At.later hA8 hB9
        have t9 : w9.cell? ⟨w.heap.size, 2, none⟩ = some (.int .i64 c) := hA9.box.cell 2
        clear hB9 hA8
        go_wp2_with fail
        go_ret
        exact ⟨rfl, hA9.below⟩
      · go_wp2_with fail
        refine (awake02 _ hA2.env).mono ?_
        rintro e w3 ⟨rfl, hB3⟩
        go_wp2_with fail
        go_ret
        exact ⟨rfl, below_then hA2.below hB3 hA2.below.size⟩
end Go.Proofs.YtkpibmnlmmddjaaDoor.FaultWraps
