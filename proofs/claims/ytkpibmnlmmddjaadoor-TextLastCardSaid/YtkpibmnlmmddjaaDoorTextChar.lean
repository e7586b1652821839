/- text.Character and the reference's Value. -/
import Derived.Test.YtkpibmnlmmddjaaDoorTextVal
namespace Go.Proofs.YtkpibmnlmmddjaaDoor
open Go.RowKit

abbrev alphabet : ByteArray := ⟨#[65, 66, 67, 68, 69, 70, 71, 72, 73, 74, 75, 76, 77, 78, 79, 80, 81, 82, 83, 84, 85, 86, 87, 88, 89, 90, 97, 98, 99, 100, 101, 102, 103, 104, 105, 106, 107, 108, 109, 110, 111, 112, 113, 114, 115, 116, 117, 118, 119, 120, 121, 122, 48, 49, 50, 51, 52, 53, 54, 55, 56, 57, 43, 47]⟩
theorem alphabet_size : alphabet.size = 64 := by decide +kernel

/-- The character of a value from 0 to 63. -/
def charN (i : Nat) : Nat := (alphabet.data.getD i 0).toNat

theorem val_charN : ∀ i : Fin 64, valB (charN i.val) = i.val ∧ charN i.val < 128 := by decide +kernel
theorem char_valB : ∀ c : Fin 256, valB c.val = -1 ∨ (0 ≤ valB c.val ∧ valB c.val < 64 ∧ charN (valB c.val).toNat = c.val) := by decide +kernel

theorem valB_of_char {i : Nat} (hi : i < 64) : valB (charN i) = i := (val_charN ⟨i, hi⟩).1
theorem charN_lt {i : Nat} (hi : i < 64) : charN i < 128 := (val_charN ⟨i, hi⟩).2
theorem char_of_valB {c : Int} (hc : 0 ≤ c ∧ c ≤ 255) : valB c = -1 ∨ (0 ≤ valB c ∧ valB c < 64 ∧ (charN (valB c).toNat : Int) = c) := by
  obtain ⟨n, rfl⟩ : ∃ n : Nat, c = n := ⟨c.toNat, by omega⟩
  have := char_valB ⟨n, by omega⟩
  simp only at this
  omega

theorem pick_alpha (v : Int) (h : 0 ≤ v ∧ v < 64) (w : World) : (Instr.index 9 (.string alphabet) (.int .i64 v)).run Tryd.prog w = .ok (.int .u8 (charN v.toNat)) w := by
  have hs : (0 ≤ v ∧ v < alphabet.size) := by rw [alphabet_size]; exact h
  rw [run_index_string w 9 alphabet .i64 v Tryd.underlying9, dif_pos hs]
  have hlt : v.toNat < alphabet.data.size := by have := hs.2; have e : alphabet.size = alphabet.data.size := rfl; omega
  have e : alphabet[v.toNat]'(by have := hs.2; omega) = alphabet.data.getD v.toNat 0 := by
    rw [Array.getD, dif_pos hlt]
    rfl
  rw [e]
  rfl

set_option maxRecDepth 100000 in
set_option maxHeartbeats 1000000 in
theorem char_any (v : Int) (w : World) :
    Calls Tryd.prog 18 #[.int .i64 v] w fun e w' => e = .returned (if 0 ≤ v ∧ v < 64 then .tuple #[.int .u8 (charN v.toNat), .bool true] else .tuple #[.int .u8 0, .bool false]) ∧ w = w' := by
  by_cases h : 0 ≤ v ∧ v < 64
  · rw [if_pos h]
    have hp := pick_alpha v h
    obtain ⟨h1, h2⟩ := h
    go_enter Tryd.func18, Tryd.ntmps18
    go_wp2
    go_ret2
    exact ⟨rfl, rfl⟩
  · rw [if_neg h]
    rcases Int.lt_or_le v 0 with h1 | h1
    · go_enter Tryd.func18, Tryd.ntmps18
      go_wp2
      all_goals
        go_ret2
        exact ⟨rfl, rfl⟩
    · have h2 : 64 ≤ v := by omega
      go_enter Tryd.func18, Tryd.ntmps18
      go_wp2
      all_goals
        go_ret2
        exact ⟨rfl, rfl⟩

set_option maxRecDepth 100000 in
set_option maxHeartbeats 1000000 in
theorem refValue_any (c : Int) (hc : 0 ≤ c ∧ c ≤ 255) (w : World) :
    Calls Tryd.prog 19 #[.int .u8 c] w fun e w' => e = .returned (.int .i64 (valB c)) ∧ w = w' := by
  have hcv := char_of_valB hc
  have HCV := Lib.hid hcv
  clear hcv
  go_enter Tryd.func19, Tryd.ntmps19
  go_wp2
  go_loop [4] (fun i => ∃ k : Nat, k ≤ 64 ∧ i = .int .i64 k ∧ ∀ j, j < k → (charN j : Int) ≠ c) (fun i => 64 - (intOf i).toNat)
  case atStart => exact ⟨0, by omega, rfl, fun j hj => by omega⟩
  case round =>
    obtain ⟨k, hk, rfl, hall⟩ := hrel
    have HA := Lib.hid hall
    clear hall
    by_cases hlt : k < 64
    · have hp := pick_alpha (k : Int) (by omega)
      rw [Int.toNat_natCast] at hp
      by_cases he : (charN k : Int) = c
      · have hv := valB_of_char hlt
        rw [he] at hv
        have HV := Lib.hid hv
        clear hv
        go_wp2
        go_ret
        exact ⟨retI HV.out.symm, rfl⟩
      · have HE := Lib.hid he
        go_wp2
        refine ⟨⟨k + 1, by omega, by go_num, fun j hj => ?_⟩, by simp [intOf]; omega⟩
        rcases Nat.lt_or_ge j k with h' | h'
        · exact HA.out j h'
        · obtain rfl : j = k := by omega
          exact HE.out
    · obtain rfl : k = 64 := by omega
      have hv : valB c = -1 := by
        rcases HCV.out with h | ⟨h1, h2, h3⟩
        · exact h
        · exact absurd h3 (HA.out _ (by omega))
      have HV := Lib.hid hv
      clear hv
      go_wp2
      go_ret
      exact ⟨retI HV.out.symm, rfl⟩
end Go.Proofs.YtkpibmnlmmddjaaDoor
