/- FaultFinds: for every description of an error the law returns true: the error has the text, the code and the offset that it is made of. -/
import Derived.Test.YtkpibmnlmmddjaaDoorRefText
namespace Go.Proofs.YtkpibmnlmmddjaaDoor.FaultFinds
open Go.RowKit

set_option maxRecDepth 100000 in
set_option maxHeartbeats 6000000 in
theorem walk (nil : Bool) (parts : Value) (ss : List ByteArray) (c a : Int) (fault : Bool) (w : World) (hp : Strs w parts ss) (he : Env w) (hc : -9223372036854775808 ≤ c ∧ c ≤ 9223372036854775807) :
    Calls Tryd.prog 7 #[descr nil parts c a fault] w fun e w' => e = .returned (.bool true) ∧ Below w.heap.size w w' := by
  have hw : Below w.heap.size w (w.alloc (.cells #[.bool nil, parts, .int .i64 c, .int .i64 a, .bool fault] 42)) := (Below.refl _ _).alloc (Nat.le_refl _) _
  have hbox := Rw.made w 42 #[.bool nil, parts, .int .i64 c, .int .i64 a, .bool fault]
  have hp2 := hp.later hw
  have he2 := he.later hw
  generalize hW : w.alloc (.cells #[.bool nil, parts, .int .i64 c, .int .i64 a, .bool fault] 42) = W at *
  have HW := Lib.hid hW
  have hF : ∀ (w1 : World), Strs w1 parts ss → Calls Tryd.prog 21 #[descr nil parts c a fault] w1 fun e w' => e = .returned (.bool (fewB ss a)) ∧ Below w1.heap.size w1 w' := fun w1 h1 => few_any nil parts ss c a fault w1 h1
  have HF := Lib.hid hF
  clear hF hp he
  cases hfw : fewB ss a
  · go_enter Tryd.func7, Tryd.ntmps7
    go_wp2_with fail
    refine (awake02 _ he2).mono ?_
    rintro e w1 ⟨rfl, hB1⟩
    have hC1 := below_then hw hB1 hw.size
    have hbox1 := hbox.later hB1
    have q0 : w1.cell? ⟨w.heap.size, 0, none⟩ = some (.bool nil) := hbox1.cell 0
    have q1 : w1.cell? ⟨w.heap.size, 1, none⟩ = some parts := hbox1.cell 1
    have q2 : w1.cell? ⟨w.heap.size, 2, none⟩ = some (.int .i64 c) := hbox1.cell 2
    have q3 : w1.cell? ⟨w.heap.size, 3, none⟩ = some (.int .i64 a) := hbox1.cell 3
    have q4 : w1.cell? ⟨w.heap.size, 4, none⟩ = some (.bool fault) := hbox1.cell 4
    go_wp2_with fail
    refine (HF.out _ (hp2.later hB1)).mono ?_
    rintro e w2 ⟨rfl, hB2⟩
    have hC2 := below_then hC1 hB2 hC1.size
    go_wp2_with fail
    refine (awake02 _ ((he2.later hB1).later hB2)).mono ?_
    rintro e w3 ⟨rfl, hB3⟩
    go_wp2_with fail
    go_ret
    exact ⟨rfl, below_then hC2 hB3 hC2.size⟩
  · have HFW := Lib.hid hfw
    obtain ⟨_, _, a1, a2⟩ := fewB_true hfw
    have hT : ∀ (w1 : World), Strs w1 parts ss → Calls Tryd.prog 25 #[descr nil parts c a fault] w1 fun e w' => e = .returned (.string (errText ss.reverse c)) ∧ Below w1.heap.size w1 w' := fun w1 h1 => refText_any nil parts ss c a fault w1 h1 hfw hc
    have HT := Lib.hid hT
    clear hT
    go_enter Tryd.func7, Tryd.ntmps7
    go_wp2_with fail
    refine (awake02 _ he2).mono ?_
    rintro e w1 ⟨rfl, hB1⟩
    have hC1 := below_then hw hB1 hw.size
    have hbox1 := hbox.later hB1
    have he3 := he2.later hB1
    have hp3 := hp2.later hB1
    have q0 : w1.cell? ⟨w.heap.size, 0, none⟩ = some (.bool nil) := hbox1.cell 0
    have q1 : w1.cell? ⟨w.heap.size, 1, none⟩ = some parts := hbox1.cell 1
    have q2 : w1.cell? ⟨w.heap.size, 2, none⟩ = some (.int .i64 c) := hbox1.cell 2
    have q3 : w1.cell? ⟨w.heap.size, 3, none⟩ = some (.int .i64 a) := hbox1.cell 3
    have q4 : w1.cell? ⟨w.heap.size, 4, none⟩ = some (.bool fault) := hbox1.cell 4
    clear hB1 hbox he2 hp2
    go_wp2_with fail
    refine (HF.out _ hp3).mono ?_
    rintro e w2 ⟨rfl, hB2⟩
    have hC2 := below_then hC1 hB2 hC1.size
    have hbox2 := hbox1.later hB2
    have he4 := he3.later hB2
    have hp4 := hp3.later hB2
    have r0 := cell_later hB2 q0
    have r1 := cell_later hB2 q1
    have r2 := cell_later hB2 q2
    have r3 := cell_later hB2 q3
    have r4 := cell_later hB2 q4
    clear hB2 hbox1 he3 hp3 q0 q1 q2 q3 q4 hC1
    cases nil with
    | true =>
      go_wp2_with fail
      refine (build_nil _ _ _ _ _).mono ?_
      rintro e w3 ⟨rfl, hB3⟩
      have hC3 := below_then hC2 hB3 hC2.size
      have s0 := cell_later hB3 r0
      go_wp2_with fail
      refine (code_nil _).mono ?_
      rintro e w4 ⟨rfl, hB4⟩
      have hC4 := below_then hC3 hB4 hC3.size
      have t0 := cell_later hB4 s0
      go_wp2_with fail
      refine (at_nil _).mono ?_
      rintro e w5 ⟨rfl, hB5⟩
      have hC5 := below_then hC4 hB5 hC4.size
      have u0 := cell_later hB5 t0
      go_wp2_with fail
      go_ret
      exact ⟨rfl, hC5⟩
    | false =>
      go_wp2_with fail
      refine (build_any _ ss _ _ _ _ hp4).mono ?_
      rintro e w3 ⟨rfl, hB3⟩
      have hC3 := below_then hC2 hB3 hC2.size
      have he5 := he4.later hB3
      have hp5 := hp4.later hB3
      have hbox3 := hbox2.later hB3
      clear hB3 he4 hp4 hbox2 r0 r1 r2 r3 r4 hC2
      obtain ⟨T, v0, fE, hTv, hM, hEn, hCall⟩ := errorOf fault c a hc ss.reverse (by
        have h := errText_small c hc ss.reverse (fun p hp => by
          rw [List.mem_reverse] at hp
          obtain ⟨j, hj, rfl⟩ := List.getElem_of_mem hp
          have := (fewB_true HFW.out).1 j hj
          simpa [List.getD, hj] using this)
        have h2 := (fewB_true HFW.out).2.1
        rw [List.length_reverse] at h
        omega)
      have hC : ∀ (w1 : World), Env w1 → Calls Tryd.prog 23 #[.iface T v0] w1 fun e w' => e = .returned (.tuple #[.int .i64 c, .bool true]) ∧ Below w1.heap.size w1 w' := fun w1 h1 => by rw [← hTv]; exact code_err ss.reverse fault c a w1 h1.err
      have hA : ∀ (w1 : World), Env w1 → Calls Tryd.prog 24 #[.iface T v0] w1 fun e w' => e = .returned (.tuple #[.int .i64 (if fault then a else 0), .bool fault]) ∧ Below w1.heap.size w1 w' := fun w1 h1 => by rw [← hTv]; exact at_err ss.reverse fault c a w1 h1.err
      have HC := Lib.hid hC
      have HA := Lib.hid hA
      have HM := Lib.hid hM
      have HEN := Lib.hid hEn
      have HCALL := Lib.hid hCall
      rw [hTv]
      clear hC hA hTv hM hEn hCall
      cases fault
      all_goals
        simp only [if_true, Bool.false_eq_true, if_false] at HA
        go_wp2_with fail
        refine (HC.out _ he5).mono ?_
        rintro e w4 ⟨rfl, hB4⟩
        have hC4 := below_then hC3 hB4 hC3.size
        have he6 := he5.later hB4
        have hp6 := hp5.later hB4
        have hbox4 := hbox3.later hB4
        clear hB4 he5 hp5 hbox3 hC3
        go_wp2_with fail
        refine (HA.out _ he6).mono ?_
        rintro e w5 ⟨rfl, hB5⟩
        have hC5 := below_then hC4 hB5 hC4.size
        have he7 := he6.later hB5
        have hp7 := hp6.later hB5
        have hbox5 := hbox4.later hB5
        have t0 : w5.cell? ⟨w.heap.size, 0, none⟩ = some (.bool false) := hbox5.cell 0
        clear hB5 he6 hp6 hbox4 hC4
        go_wp2_with fail
        have hE : ∀ d os, Calls Tryd.prog fE #[v0] (Go.Sort.grow (redrawn w5 d) os) fun e w'' => e = .returned (.string (errText ss.reverse c)) ∧ ∃ q : Regrown, w'' = Go.Sort.grow (redrawn w5 q.d) q.os :=
          fun d os => Calls.regrown_of (HCALL.out _ (he7.later (below_regrown _ d os)))
        have hT : ∀ d os, Calls Tryd.prog 25 #[.agg #[.bool false, parts, .int .i64 c, .int .i64 a, .bool _]] (Go.Sort.grow (redrawn w5 d) os) fun e w'' => e = .returned (.string (errText ss.reverse c)) ∧ ∃ q : Regrown, w'' = Go.Sort.grow (redrawn w5 q.d) q.os :=
          fun d os => Calls.regrown_of (HT.out _ (hp7.later (below_regrown _ d os)))
        have hM := HM.out
        have hEn := HEN.out
        have s0 : w5.cell? ⟨w.heap.size, 0, none⟩ = some (.bool false) := hbox5.cell 0
        have s1 : w5.cell? ⟨w.heap.size, 1, none⟩ = some parts := hbox5.cell 1
        have s2 : w5.cell? ⟨w.heap.size, 2, none⟩ = some (.int .i64 c) := hbox5.cell 2
        have s3 : w5.cell? ⟨w.heap.size, 3, none⟩ = some (.int .i64 a) := hbox5.cell 3
        have s4 := hbox5.cell 4
        simp only [List.getElem?_toArray] at s4
        have hlt : w.heap.size < w5.heap.size := hbox5.lt
        have c0 : ∀ d os, (Go.Sort.grow (redrawn w5 d) os).cell? ⟨w.heap.size, 0, none⟩ = some (.bool false) := cell_regrown s0
        have c1 : ∀ d os, (Go.Sort.grow (redrawn w5 d) os).cell? ⟨w.heap.size, 1, none⟩ = some parts := cell_regrown s1
        have c2 : ∀ d os, (Go.Sort.grow (redrawn w5 d) os).cell? ⟨w.heap.size, 2, none⟩ = some (.int .i64 c) := cell_regrown s2
        have c3 : ∀ d os, (Go.Sort.grow (redrawn w5 d) os).cell? ⟨w.heap.size, 3, none⟩ = some (.int .i64 a) := cell_regrown s3
        have c4 : ∀ d os, (Go.Sort.grow (redrawn w5 d) os).cell? ⟨w.heap.size, 4, none⟩ = some (.bool _) := cell_regrown s4
        clear s0 s1 s2 s3 s4 t0 hfw hc HF HA HC HM HEN HCALL HT hW HW hp7 he7 hbox5 HFW hlt hw a1 a2
        generalize errText ss.reverse c = tx at *
        refine wp_region_quiet_below (by kernel_rfl) (by kernel_rfl) ?_
        repeat (quiet_step (first | exact hE _ _ | exact hT _ _))
        refine wpQuiet_nil ?_
        intro _ hw'
        obtain ⟨⟨dq, osq⟩, hw''⟩ := hw'
        subst hw''
        go_wp2
        go_ret
        exact ⟨rfl, below_then hC5 (below_regrown w5 dq osq) hC5.size⟩
end Go.Proofs.YtkpibmnlmmddjaaDoor.FaultFinds
