/- The reference's Decimal: the decimal numeral of every int; and the names of the codes. -/
import Derived.Test.YtkpibmnlmmddjaaDoorErrText
import Derived.IntWalk
namespace Go.Proofs.YtkpibmnlmmddjaaDoor
open Go.RowKit

def decB (u : Nat) : ByteArray := ⟨(Lib.decDigits u).toArray⟩

theorem ext_data {a b : ByteArray} (h : a.data.toList = b.data.toList) : a = b := by
  cases a; cases b
  congr 1
  exact Array.ext' h

theorem decB_small (u : Nat) (h : u < 10) : decB u = ⟨#[UInt8.ofNat (48 + u)]⟩ := by
  unfold decB
  rw [Lib.decDigits_one h]

theorem decB_big (u : Nat) (h : ¬ u < 10) : decB u = decB (u / 10) ++ decB (u % 10) := by
  rw [decB_small (u % 10) (by omega)]
  apply ext_data
  rw [ByteArray.data_append, Array.toList_append]
  unfold decB
  rw [Lib.decDigits, dif_neg h]

theorem itoaB_pos (n : Nat) : itoaB (n : Int) = decB n := by
  unfold itoaB decB Lib.itoa
  rw [if_neg (by omega)]
  rfl

theorem itoaB_neg (n : Nat) (h : 1 ≤ n) : itoaB (-(n : Int)) = ⟨#[45]⟩ ++ decB n := by
  apply ext_data
  rw [ByteArray.data_append, Array.toList_append]
  unfold itoaB decB Lib.itoa
  rw [if_pos (by omega)]
  simp

abbrev tenDigits : ByteArray := ⟨#[48, 49, 50, 51, 52, 53, 54, 55, 56, 57]⟩

theorem digit_cut (d : Nat) (h : d < 10) : tenDigits.extract d (d + 1) = decB d := by
  have : ∀ d : Fin 10, tenDigits.extract d.val (d.val + 1) = ⟨#[UInt8.ofNat (48 + d.val)]⟩ := by decide +kernel
  rw [decB_small d h]
  exact this ⟨d, h⟩

set_option maxRecDepth 100000 in
set_option maxHeartbeats 400000 in
theorem decimal_k (k : Nat) : ∀ (n : Int) (w : World), n.natAbs + (-n).toNat ≤ k → -9223372036854775808 ≤ n → n ≤ 9223372036854775807 →
    Calls Tryd.prog 39 #[.int .i64 n] w fun e w' => e = .returned (.string (itoaB n)) ∧ Below w.heap.size w w' := by
  induction k with
  | zero =>
    intro n w hk _ _
    have h0 : n = 0 := by omega
    subst h0
    have e : tenDigits.extract 0 1 = itoaB 0 := (digit_cut 0 (by omega)).trans (itoaB_pos 0).symm
    have E := Lib.hid e
    clear e
    go_enter Tryd.func39, Tryd.ntmps39
    go_wp2_with fail
    go_ret
    exact ⟨by rw [← E.out]; rfl, Below.refl _ _⟩
  | succ k ih =>
    intro n w hk hlo hhi
    by_cases h1 : n < -9
    · obtain ⟨m, rfl⟩ : ∃ m : Nat, n = -(m : Int) := ⟨n.natAbs, by omega⟩
      have IH := Lib.hid ih
      clear ih
      go_enter Tryd.func39, Tryd.ntmps39
      go_wp2_with fail
      refine (IH.out _ _ (by omega) (by omega) (by omega)).mono ?_
      rintro e w1 ⟨rfl, hB1⟩
      go_wp2_with fail
      refine (IH.out _ _ (by omega) (by omega) (by omega)).mono ?_
      rintro e w2 ⟨rfl, hB2⟩
      have hC := below_then hB1 hB2 hB1.size
      have z1 := itoaB_size (-((m : Int) / 10)) (by omega)
      have z2 := itoaB_size ((m : Int) % 10) (by omega)
      go_wp2_with fail
      go_ret
      refine ⟨?_, hC⟩
      have e1 : itoaB (-((m : Int) / 10)) ++ itoaB ((m : Int) % 10) = itoaB (-(m : Int)) := by
        rw [show (m : Int) / 10 = ((m / 10 : Nat) : Int) from rfl, show (m : Int) % 10 = ((m % 10 : Nat) : Int) from rfl, itoaB_neg _ (by omega), itoaB_neg m (by omega), itoaB_pos, decB_big m (by omega), ByteArray.append_assoc]
      rw [← e1]
      rfl
    · by_cases h2 : n < 0
      · obtain ⟨m, rfl⟩ : ∃ m : Nat, n = -(m : Int) := ⟨n.natAbs, by omega⟩
        have IH := Lib.hid ih
        clear ih
        go_enter Tryd.func39, Tryd.ntmps39
        go_wp2_with fail
        refine (IH.out _ _ (by omega) (by omega) (by omega)).mono ?_
        rintro e w1 ⟨rfl, hB1⟩
        have z1 := itoaB_size (m : Int) (by omega)
        go_wp2_with fail
        go_ret
        exact ⟨by rw [itoaB_neg m (by omega), ← itoaB_pos]; rfl, hB1⟩
      · obtain ⟨m, rfl⟩ : ∃ m : Nat, n = (m : Int) := ⟨n.toNat, by omega⟩
        by_cases h3 : m < 10
        · have e : tenDigits.extract m (m + 1) = itoaB m := (digit_cut m h3).trans (itoaB_pos m).symm
          have E := Lib.hid e
          clear e ih
          go_enter Tryd.func39, Tryd.ntmps39
          go_wp2_with fail
          go_ret
          exact ⟨by rw [← E.out]; rfl, Below.refl _ _⟩
        · have e : tenDigits.extract (m % 10) (m % 10 + 1) = decB (m % 10) := digit_cut (m % 10) (by omega)
          have E := Lib.hid e
          have z1 := itoaB_size ((m : Int) / 10) (by omega)
          have hI : ∀ d os, Calls Tryd.prog 39 #[.int .i64 ((m : Int) / 10)] (Go.Sort.grow (redrawn w d) os) fun e w'' => e = .returned (.string (itoaB ((m : Int) / 10))) ∧ ∃ q : Regrown, w'' = Go.Sort.grow (redrawn w q.d) q.os :=
            fun d os => Calls.regrown_of (ih ((m : Int) / 10) _ (by omega) (by omega) (by omega))
          clear e ih
          have b0 : 0 ≤ (m : Int) % 10 := by omega
          have b1 : (m : Int) % 10 < 10 := by omega
          have b2 : 0 ≤ (m : Int) % 10 + 1 := by omega
          have b3 : (m : Int) % 10 + 1 ≤ 10 := by omega
          have t1 : ((m : Int) % 10).toNat = m % 10 := by omega
          have t2 : ((m : Int) % 10 + 1).toNat = m % 10 + 1 := by omega
          have w0 : (m : Int).tmod 10 = (m : Int) % 10 := Int.tmod_eq_emod_of_nonneg (by omega)
          have w1 : IntKind.i64.wrap ((m : Int) / 10) = (m : Int) / 10 := IntWalk.i64_in _ (by omega)
          have w2 : IntKind.i64.wrap ((m : Int) % 10 + 1) = (m : Int) % 10 + 1 := IntWalk.i64_in _ (by omega)
          have hsl : ∀ W : World, (Instr.slice 9 (.string ⟨#[48, 49, 50, 51, 52, 53, 54, 55, 56, 57]⟩) (some (.int .i64 ((m : Int) % 10))) (some (.int .i64 ((m : Int) % 10 + 1))) none).run Tryd.prog W = .ok (.string (decB (m % 10))) W := fun W => by
            rw [run_slice_string W 9 ⟨#[48, 49, 50, 51, 52, 53, 54, 55, 56, 57]⟩ .i64 .i64 _ _ Tryd.underlying9 b0 (by omega) (by show _ ≤ (10 : Int); omega), t1, t2, digit_cut _ (by omega)]
          have zd : (decB (m % 10)).size ≤ 1 := by rw [decB_small _ (by omega)]; exact Nat.le_refl 1
          have zq : ¬ 9223372036854775807 < (itoaB ((m : Int) / 10)).size + (decB (m % 10)).size := by omega
          go_enter Tryd.func39, Tryd.ntmps39
          go_wp2_with fail
          refine wp_region_quiet_below (by kernel_rfl) (by kernel_rfl) ?_
          repeat (quiet_step (exact hI _ _))
          refine wpQuiet_nil ?_
          intro _ hw'
          obtain ⟨⟨dq, osq⟩, hw''⟩ := hw'
          subst hw''
          go_wp2
          go_ret
          refine ⟨?_, below_regrown w dq osq⟩
          have e2 : itoaB ((m : Int) / 10) ++ decB (m % 10) = itoaB (m : Int) := by rw [show (m : Int) / 10 = ((m / 10 : Nat) : Int) from rfl, itoaB_pos, itoaB_pos, ← decB_big m h3]
          rw [← e2]
          rfl
end Go.Proofs.YtkpibmnlmmddjaaDoor
