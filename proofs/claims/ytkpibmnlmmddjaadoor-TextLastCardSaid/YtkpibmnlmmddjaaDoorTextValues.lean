/- TextValues: for every byte and every number the law returns true: values are the reference's, and characters lead back to them. -/
import Derived.Test.YtkpibmnlmmddjaaDoorTextAwake
namespace Go.Proofs.YtkpibmnlmmddjaaDoor.TextValues
open Go.RowKit

theorem valB_cases (c : Int) (hc : 0 ≤ c ∧ c ≤ 255) : valB c = -1 ∨ ∃ n : Nat, n < 64 ∧ valB c = n ∧ (charN n : Int) = c := by
  rcases char_of_valB hc with h | ⟨h1, h2, h3⟩
  · exact .inl h
  · exact .inr ⟨(valB c).toNat, by omega, by omega, h3⟩

theorem char_yes (v : Nat) (h : v < 64) (w : World) : Calls Tryd.prog 18 #[.int .i64 (v : Int)] w fun e w' => e = .returned (.tuple #[.int .u8 (charN v), .bool true]) ∧ w = w' := by
  have := char_any (v : Int) w
  rw [if_pos (by omega), Int.toNat_natCast] at this
  exact this
theorem char_no (v : Int) (h : ¬ (0 ≤ v ∧ v < 64)) (w : World) : Calls Tryd.prog 18 #[.int .i64 v] w fun e w' => e = .returned (.tuple #[.int .u8 0, .bool false]) ∧ w = w' := by
  have := char_any v w
  rw [if_neg h] at this
  exact this
theorem value_of (n : Nat) (h : n < 64) (w : World) (he : TEnv w) : Calls Tryd.prog 17 #[.int .u8 (charN n : Int)] w fun e w' => e = .returned (.int .i64 (n : Int)) ∧ Below w.heap.size w w' := by
  have hc := charN_lt h
  have := value_any (charN n : Int) (by omega) w he
  rw [valB_of_char h] at this
  exact this

set_option maxRecDepth 100000 in
set_option maxHeartbeats 2000000 in
/-- A right byte, and a number of a character. -/
theorem walk_yy (n : Nat) (hn : n < 64) (v : Nat) (hv : v < 64) (w : World) (he : TEnv w) : Calls Tryd.prog 5 #[.int .u8 (charN n : Int), .int .i64 (v : Int)] w fun e w' => e = .returned (.bool true) ∧ Below w.heap.size w w' := by
  have hv64 : (v : Int) < 64 := by omega
  have hn64 : (n : Int) < 64 := by omega
  have HE := Lib.hid he
  have hrv := fun w => refValue_any (charN n : Int) (by have := charN_lt hn; omega) w
  rw [valB_of_char hn] at hrv
  have HRV := Lib.hid hrv
  clear he hrv
  go_enter Tryd.func5, Tryd.ntmps5
  go_wp2_with fail
  refine (awake14 _ HE.out).mono ?_
  rintro e w1 ⟨rfl, hB1⟩
  have HB1 := Lib.hid hB1
  clear hB1
  go_wp2_with fail
  refine (value_of n hn _ (HE.out.later HB1.out)).mono ?_
  rintro e w2 ⟨rfl, hB2⟩
  have HB2 := Lib.hid (below_then HB1.out hB2 HB1.out.size)
  clear hB2
  go_wp2_with fail
  refine (char_yes v hv _).mono ?_
  rintro e w3 ⟨rfl, rfl⟩
  go_wp2_with fail
  refine (HRV.out _).mono ?_
  rintro e w3 ⟨rfl, rfl⟩
  go_wp2_with fail
  refine (char_yes n hn _).mono ?_
  rintro e w3 ⟨rfl, rfl⟩
  go_wp2_with fail
  refine (value_of v hv _ (HE.out.later HB2.out)).mono ?_
  rintro e w3 ⟨rfl, hB3⟩
  have HB3 := Lib.hid (below_then HB2.out hB3 HB2.out.size)
  clear hB3
  go_wp2_with fail
  go_ret
  exact ⟨rfl, HB3.out⟩

set_option maxRecDepth 100000 in
set_option maxHeartbeats 2000000 in
/-- A right byte, and another number. -/
theorem walk_yn (n : Nat) (hn : n < 64) (v : Int) (hv : ¬ (0 ≤ v ∧ v < 64)) (w : World) (he : TEnv w) : Calls Tryd.prog 5 #[.int .u8 (charN n : Int), .int .i64 v] w fun e w' => e = .returned (.bool true) ∧ Below w.heap.size w w' := by
  have HE := Lib.hid he
  have hrv := fun w => refValue_any (charN n : Int) (by have := charN_lt hn; omega) w
  rw [valB_of_char hn] at hrv
  have HRV := Lib.hid hrv
  have hch := fun w => char_no v hv w
  have HCH := Lib.hid hch
  clear he hrv hch
  rcases Int.lt_or_le v 0 with h0 | h0
  all_goals
    have h1 : v < 0 ∨ 64 ≤ v := by omega
    clear h1
    try (have h64 : 64 ≤ v := by omega)
    clear hv
    go_enter Tryd.func5, Tryd.ntmps5
    go_wp2_with fail
    refine (awake14 _ HE.out).mono ?_
    rintro e w1 ⟨rfl, hB1⟩
    have HB1 := Lib.hid hB1
    clear hB1
    go_wp2_with fail
    refine (value_of n hn _ (HE.out.later HB1.out)).mono ?_
    rintro e w2 ⟨rfl, hB2⟩
    have HB2 := Lib.hid (below_then HB1.out hB2 HB1.out.size)
    clear hB2
    go_wp2_with fail
    refine (HCH.out _).mono ?_
    rintro e w3 ⟨rfl, rfl⟩
    go_wp2_with fail
    refine (HRV.out _).mono ?_
    rintro e w3 ⟨rfl, rfl⟩
    go_wp2_with fail
    refine (char_yes n hn _).mono ?_
    rintro e w3 ⟨rfl, rfl⟩
    go_wp2_with fail
    go_ret
    exact ⟨rfl, HB2.out⟩

set_option maxRecDepth 100000 in
set_option maxHeartbeats 2000000 in
/-- A wrong byte, and a number of a character. -/
theorem walk_ny (c : Int) (hc : 0 ≤ c ∧ c ≤ 255) (hcv : valB c = -1) (v : Nat) (hv : v < 64) (w : World) (he : TEnv w) : Calls Tryd.prog 5 #[.int .u8 c, .int .i64 (v : Int)] w fun e w' => e = .returned (.bool true) ∧ Below w.heap.size w w' := by
  have hv64 : (v : Int) < 64 := by omega
  have HE := Lib.hid he
  have hrv := fun w => refValue_any c hc w
  have hva := fun w he => value_any c hc w he
  rw [hcv] at hrv hva
  have HRV := Lib.hid hrv
  have HVA := Lib.hid hva
  clear he hrv hva hcv
  go_enter Tryd.func5, Tryd.ntmps5
  go_wp2_with fail
  refine (awake14 _ HE.out).mono ?_
  rintro e w1 ⟨rfl, hB1⟩
  have HB1 := Lib.hid hB1
  clear hB1
  go_wp2_with fail
  refine (HVA.out _ (HE.out.later HB1.out)).mono ?_
  rintro e w2 ⟨rfl, hB2⟩
  have HB2 := Lib.hid (below_then HB1.out hB2 HB1.out.size)
  clear hB2
  go_wp2_with fail
  refine (char_yes v hv _).mono ?_
  rintro e w3 ⟨rfl, rfl⟩
  go_wp2_with fail
  refine (HRV.out _).mono ?_
  rintro e w3 ⟨rfl, rfl⟩
  go_wp2_with fail
  refine (value_of v hv _ (HE.out.later HB2.out)).mono ?_
  rintro e w3 ⟨rfl, hB3⟩
  have HB3 := Lib.hid (below_then HB2.out hB3 HB2.out.size)
  clear hB3
  go_wp2_with fail
  go_ret
  exact ⟨rfl, HB3.out⟩

set_option maxRecDepth 100000 in
set_option maxHeartbeats 2000000 in
/-- A wrong byte, and another number. -/
theorem walk_nn (c : Int) (hc : 0 ≤ c ∧ c ≤ 255) (hcv : valB c = -1) (v : Int) (hv : ¬ (0 ≤ v ∧ v < 64)) (w : World) (he : TEnv w) : Calls Tryd.prog 5 #[.int .u8 c, .int .i64 v] w fun e w' => e = .returned (.bool true) ∧ Below w.heap.size w w' := by
  have HE := Lib.hid he
  have hrv := fun w => refValue_any c hc w
  have hva := fun w he => value_any c hc w he
  rw [hcv] at hrv hva
  have HRV := Lib.hid hrv
  have HVA := Lib.hid hva
  have hch := fun w => char_no v hv w
  have HCH := Lib.hid hch
  clear he hrv hva hcv hch
  rcases Int.lt_or_le v 0 with h0 | h0
  all_goals
    try (have h64 : 64 ≤ v := by omega)
    clear hv
    go_enter Tryd.func5, Tryd.ntmps5
    go_wp2_with fail
    refine (awake14 _ HE.out).mono ?_
    rintro e w1 ⟨rfl, hB1⟩
    have HB1 := Lib.hid hB1
    clear hB1
    go_wp2_with fail
    refine (HVA.out _ (HE.out.later HB1.out)).mono ?_
    rintro e w2 ⟨rfl, hB2⟩
    have HB2 := Lib.hid (below_then HB1.out hB2 HB1.out.size)
    clear hB2
    go_wp2_with fail
    refine (HCH.out _).mono ?_
    rintro e w3 ⟨rfl, rfl⟩
    go_wp2_with fail
    refine (HRV.out _).mono ?_
    rintro e w3 ⟨rfl, rfl⟩
    go_wp2_with fail
    go_ret
    exact ⟨rfl, HB2.out⟩

theorem walk (c : Int) (hc : 0 ≤ c ∧ c ≤ 255) (v : Int) (w : World) (he : TEnv w) : Calls Tryd.prog 5 #[.int .u8 c, .int .i64 v] w fun e w' => e = .returned (.bool true) ∧ Below w.heap.size w w' := by
  rcases valB_cases c hc with h | ⟨n, hn, _, rfl⟩
  · by_cases hv : 0 ≤ v ∧ v < 64
    · obtain ⟨k, rfl⟩ : ∃ k : Nat, v = k := ⟨v.toNat, by omega⟩
      exact walk_ny c hc h k (by omega) w he
    · exact walk_nn c hc h v hv w he
  · by_cases hv : 0 ≤ v ∧ v < 64
    · obtain ⟨k, rfl⟩ : ∃ k : Nat, v = k := ⟨v.toNat, by omega⟩
      exact walk_yy n hn k (by omega) w he
    · exact walk_yn n hn v hv w he
end Go.Proofs.YtkpibmnlmmddjaaDoor.TextValues
