/- FaultShifts: for every description of an error and every n, the law returns true: an error that is moved has the same code, and the sum of both numbers as its offset. The card ties the listed variables to the program's text. -/
import Derived.Test.YtkpibmnlmmddjaaDoorFaultArg
namespace Go.Proofs.YtkpibmnlmmddjaaDoor.FaultShifts
open Go.RowKit

set_option maxRecDepth 100000 in
set_option maxHeartbeats 2000000 in
theorem walk (nil : Bool) (parts : Value) (ss : List ByteArray) (c a : Int) (fault : Bool) (n : Int) (w : World) (hp : Strs w parts ss) (he : Env w) (hn : -2147483648 ≤ n ∧ n ≤ 2147483647) :
    Calls Tryd.prog 8 #[descr nil parts c a fault, .int .i32 n] w fun e w' => e = .returned (.bool true) ∧ Below w.heap.size w w' := by
  have hw : Below w.heap.size w (w.alloc (.cells #[.bool nil, parts, .int .i64 c, .int .i64 a, .bool fault] 42)) := (Below.refl _ _).alloc (Nat.le_refl _) _
  have hbox := Rw.made w 42 #[.bool nil, parts, .int .i64 c, .int .i64 a, .bool fault]
  have hp2 := hp.later hw
  have he2 := he.later hw
  generalize hW : w.alloc (.cells #[.bool nil, parts, .int .i64 c, .int .i64 a, .bool fault] 42) = W at *
  have HW := Lib.hid hW
  have hF : ∀ (w1 : World), Strs w1 parts ss → Calls Tryd.prog 21 #[descr nil parts c a fault] w1 fun e w' => e = .returned (.bool (fewB ss a)) ∧ Below w1.heap.size w1 w' := fun w1 h1 => few_any nil parts ss c a fault w1 h1
  have HF := Lib.hid hF
  clear hF hp he
  cases hfw : fewB ss a
  · go_enter Tryd.func8, Tryd.ntmps8
    go_wp2_with fail
    refine (awake02 _ he2).mono ?_
    rintro e w1 ⟨rfl, hB1⟩
    have hC1 := below_then hw hB1 hw.size
    have hbox1 := hbox.later hB1
    have q0 : w1.cell? ⟨w.heap.size, 0, none⟩ = some (.bool nil) := hbox1.cell 0
    have q1 : w1.cell? ⟨w.heap.size, 1, none⟩ = some parts := hbox1.cell 1
    have q2 : w1.cell? ⟨w.heap.size, 2, none⟩ = some (.int .i64 c) := hbox1.cell 2
    have q3 : w1.cell? ⟨w.heap.size, 3, none⟩ = some (.int .i64 a) := hbox1.cell 3
    have q4 : w1.cell? ⟨w.heap.size, 4, none⟩ = some (.bool fault) := hbox1.cell 4
    go_wp2_with fail
    refine (HF.out _ (hp2.later hB1)).mono ?_
    rintro e w2 ⟨rfl, hB2⟩
    have hC2 := below_then hC1 hB2 hC1.size
    go_wp2_with fail
    refine (awake02 _ ((he2.later hB1).later hB2)).mono ?_
    rintro e w3 ⟨rfl, hB3⟩
    go_wp2_with fail
    go_ret
    exact ⟨rfl, below_then hC2 hB3 hC2.size⟩
  · have HFW := Lib.hid hfw
    obtain ⟨_, _, a1, a2⟩ := fewB_true hfw
    obtain ⟨n1, n2⟩ := hn
    go_enter Tryd.func8, Tryd.ntmps8
    go_wp2_with fail
    refine (awake02 _ he2).mono ?_
    rintro e w1 ⟨rfl, hB1⟩
    have hC1 := below_then hw hB1 hw.size
    have hbox1 := hbox.later hB1
    have he3 := he2.later hB1
    have hp3 := hp2.later hB1
    have q0 : w1.cell? ⟨w.heap.size, 0, none⟩ = some (.bool nil) := hbox1.cell 0
    have q1 : w1.cell? ⟨w.heap.size, 1, none⟩ = some parts := hbox1.cell 1
    have q2 : w1.cell? ⟨w.heap.size, 2, none⟩ = some (.int .i64 c) := hbox1.cell 2
    have q3 : w1.cell? ⟨w.heap.size, 3, none⟩ = some (.int .i64 a) := hbox1.cell 3
    have q4 : w1.cell? ⟨w.heap.size, 4, none⟩ = some (.bool fault) := hbox1.cell 4
    clear hB1 hbox he2 hp2
    go_wp2_with fail
    refine (HF.out _ hp3).mono ?_
    rintro e w2 ⟨rfl, hB2⟩
    have hC2 := below_then hC1 hB2 hC1.size
    have hbox2 := hbox1.later hB2
    have he4 := he3.later hB2
    have hp4 := hp3.later hB2
    have r0 := cell_later hB2 q0
    have r1 := cell_later hB2 q1
    have r2 := cell_later hB2 q2
    have r3 := cell_later hB2 q3
    have r4 := cell_later hB2 q4
    clear hB2 hbox1 he3 hp3 q0 q1 q2 q3 q4 hC1
    cases nil with
    | true =>
      go_wp2_with fail
      refine (build_nil _ _ _ _ _).mono ?_
      rintro e w3 ⟨rfl, hB3⟩
      have hC3 := below_then hC2 hB3 hC2.size
      have s0 := cell_later hB3 r0
      go_wp2_with fail
      refine (shift_nil _ _).mono ?_
      rintro e w4 ⟨rfl, hB4⟩
      have t0 := cell_later hB4 s0
      go_wp2_with fail
      go_ret
      exact ⟨rfl, below_then hC3 hB4 hC3.size⟩
    | false =>
      have hS : ∀ (w1 : World), Env w1 → Calls Tryd.prog 26 #[errVal ss.reverse fault c a, .int .i64 n] w1 fun e w' => e = .returned (.iface 72 (.agg #[.int .i64 c, .int .i64 ((if fault then a else 0) + n)])) ∧ Below w1.heap.size w1 w' :=
        fun w1 h1 => shift_err ss.reverse fault c a n w1 h1.err ⟨n1, n2⟩ ⟨by omega, by omega⟩
      have hC : ∀ (x : Int) (w1 : World), Env w1 → Calls Tryd.prog 23 #[.iface 72 (.agg #[.int .i64 c, .int .i64 x])] w1 fun e w' => e = .returned (.tuple #[.int .i64 c, .bool true]) ∧ Below w1.heap.size w1 w' := fun x w1 h1 => code_err [] true c x w1 h1.err
      have hA : ∀ (x : Int) (w1 : World), Env w1 → Calls Tryd.prog 24 #[.iface 72 (.agg #[.int .i64 c, .int .i64 x])] w1 fun e w' => e = .returned (.tuple #[.int .i64 x, .bool true]) ∧ Below w1.heap.size w1 w' := fun x w1 h1 => at_err [] true c x w1 h1.err
      have HS := Lib.hid hS
      have HC := Lib.hid hC
      have HA := Lib.hid hA
      clear hS hC hA
      cases fault
      all_goals
        simp only [if_true, Bool.false_eq_true, if_false] at HS
        go_wp2_with fail
        refine (build_any _ ss _ _ _ _ hp4).mono ?_
        rintro e w3 ⟨rfl, hB3⟩
        have hC3 := below_then hC2 hB3 hC2.size
        have he5 := he4.later hB3
        have hbox3 := hbox2.later hB3
        clear hB3 he4 hp4 hbox2 r0 r1 r2 r3 r4 hC2
        go_wp2_with fail
        refine (HS.out _ he5).mono ?_
        rintro e w4 ⟨rfl, hB4⟩
        have hC4 := below_then hC3 hB4 hC3.size
        have he6 := he5.later hB4
        have hbox4 := hbox3.later hB4
        have t0 : w4.cell? ⟨w.heap.size, 0, none⟩ = some (.bool false) := hbox4.cell 0
        clear hB4 he5 hbox3 hC3
        go_wp2_with fail
        refine (HC.out _ _ he6).mono ?_
        rintro e w5 ⟨rfl, hB5⟩
        have hC5 := below_then hC4 hB5 hC4.size
        have he7 := he6.later hB5
        have hbox5 := hbox4.later hB5
        clear hB5 he6 hbox4 t0 hC4
        go_wp2_with fail
        refine (HA.out _ _ he7).mono ?_
        rintro e w6 ⟨rfl, hB6⟩
        have hC6 := below_then hC5 hB6 hC5.size
        have hbox6 := hbox5.later hB6
        have t2 : w6.cell? ⟨w.heap.size, 2, none⟩ = some (.int .i64 c) := hbox6.cell 2
        have t3 : w6.cell? ⟨w.heap.size, 3, none⟩ = some (.int .i64 a) := hbox6.cell 3
        have t4 := hbox6.cell 4
        simp only [List.getElem?_toArray] at t4
        clear hB6 hbox5 hbox6 hC5
        go_wp2_with fail
        go_ret
        first | exact ⟨rfl, hC6⟩ | exact ⟨retB (by simp [Int.add_comm]), hC6⟩
end Go.Proofs.YtkpibmnlmmddjaaDoor.FaultShifts
