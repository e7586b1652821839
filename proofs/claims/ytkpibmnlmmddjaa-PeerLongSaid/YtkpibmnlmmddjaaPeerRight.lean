/- The walks of peer.right, of its negation, of peer.Right, and of the reference's Right and Less. -/
import Derived.Test.YtkpibmnlmmddjaaPeerRune
import Derived.Lib.Hide
namespace Go.Proofs.Ytkpibmnlmmddjaa
open Go.RowKit


set_option maxRecDepth 100000 in
theorem right_any (x : Nat) (w : World) (h : x ≤ 1114111) : Calls Try.prog 19 #[.int .i32 (x : Int)] w fun e w' => e = .returned (.bool (addrR x)) ∧ Below w.heap.size w w' := by
  have hs : addrR x = (decide (97 ≤ x ∧ x ≤ 122) || decide (65 ≤ x ∧ x ≤ 90) || decide (48 ≤ x ∧ x ≤ 57) || (decide (x = 46) || decide (x = 58) || decide (x = 45))) := by
    unfold addrR
    simp only [Bool.or_assoc]
  generalize hq : addrR x = q at hs ⊢
  generalize hp : (decide (x = 46) || decide (x = 58) || decide (x = 45)) = p at hs
  have hc := containsRune_any x w h
  rw [hp] at hc
  have HS := Lib.hid hs
  clear hs hp hq
  go_enter Try.func19, Try.ntmps19
  go_wp2_with (go_at_call 22; refine hc.mono ?_; rintro e w' ⟨rfl, hB⟩)
  all_goals
    go_ret
    refine ⟨?_, by first | assumption | exact Below.refl _ _⟩
    refine retB ?_
    rw [HS.out, Bool.eq_iff_iff]
    cases p <;> simp <;> try omega

theorem wrong_any (x : Nat) (w : World) (h : x ≤ 1114111) : Calls Try.prog 18 #[.int .i32 (x : Int)] w fun e w' => e = .returned (.bool (!addrR x)) ∧ Below w.heap.size w w' := by
  go_enter Try.func18, Try.ntmps18
  go_wp2_with (go_at_call 19; refine (right_any _ _ h).mono ?_; rintro e w' ⟨rfl, hB⟩)
  go_ret
  exact ⟨rfl, hB⟩

theorem wrong_grows (w : World) : PredGrows Try.prog 18 #[] (fun r => !addrR r) w := fun W x hx _ => wrong_any x W hx

theorem contains_any (s : ByteArray) (w : World) : Calls Try.prog 20 #[.string s, .func (.func 18) #[] #[]] w fun e w' => e = .returned (.bool (!allAddr s)) ∧ Below w.heap.size w w' := by
  have h := Try.strings_ContainsFunc_grows 18 #[] (enters_of Try.func18 (by kernel_rfl) rfl) (fun r => !addrR r) s w (wrong_grows w)
  rw [idx_addr] at h
  exact h

set_option maxHeartbeats 400000 in
theorem peerRight_any (s : ByteArray) (w : World) : Calls Try.prog 8 #[.string s] w fun e w' => e = .returned (.bool (rightS s)) ∧ Below w.heap.size w w' := by
  go_enter Try.func8, Try.ntmps8
  go_wp2_with (go_at_call 20; refine (contains_any _ _).mono ?_; rintro e w' ⟨rfl, hB⟩)
  · have h0 : s.size = 0 := by
      rename_i hn
      rw [ByteArray.toList_eq] at hn
      have := congrArg List.length hn
      simpa using this
    go_ret
    exact ⟨retB (by simp [rightS, h0]), Below.refl _ _⟩
  · have h0 : s.toList.isEmpty = false ∧ 1 ≤ s.size := by
      have hn : ¬ s.toList = [] := by assumption
      rw [ByteArray.toList_eq] at hn ⊢
      refine ⟨by simpa using hn, ?_⟩
      rcases Nat.eq_zero_or_pos s.size with h | h
      · exact absurd (List.eq_nil_of_length_eq_zero (by simpa using h)) hn
      · exact h
    have h1 : s.size ≤ 100 := by omega
    go_ret
    exact ⟨retB (by simp [rightS, h0, h1]), hB⟩
  · have h1 : ¬ s.size ≤ 100 := by omega
    go_ret
    exact ⟨retB (by simp [rightS, h1]), Below.refl _ _⟩

theorem rightS_bad {s : ByteArray} {k : Nat} (h : k < s.size) (hb : addrR (s[k]).toNat = false) : rightS s = false := by
  unfold rightS
  cases ha : allAddr s
  · simp
  · have := (allAddr_iff s).1 ha k h
    rw [hb] at this
    cases this

theorem addrR_iff (x : Nat) : addrR x = true ↔ (97 ≤ x ∧ x ≤ 122 ∨ 65 ≤ x ∧ x ≤ 90 ∨ 48 ≤ x ∧ x ≤ 57 ∨ x = 46 ∨ x = 58 ∨ x = 45) := by
  unfold addrR
  simp only [Bool.or_eq_true, decide_eq_true_eq, or_assoc]

theorem addrR_no (x : Nat) (h : ¬ (97 ≤ x ∧ x ≤ 122 ∨ 65 ≤ x ∧ x ≤ 90 ∨ 48 ≤ x ∧ x ≤ 57 ∨ x = 46 ∨ x = 58 ∨ x = 45)) : addrR x = false := by
  cases hx : addrR x
  · rfl
  · exact absurd ((addrR_iff x).1 hx) h

set_option maxHeartbeats 2000000 in
theorem refRight_any (s : ByteArray) (w : World) (hs : s.size ≤ maxLen) : Calls Try.prog 9 #[.string s] w fun e w' => e = .returned (.bool (rightS s)) ∧ w = w' := by
  unfold maxLen at hs
  go_enter Try.func9, Try.ntmps9
  go_wp2
  go_loop [3] (fun i => ∃ k : Nat, k ≤ s.size ∧ i = .int .i64 k ∧ ∀ (j : Nat) (h : j < s.size), j < k → addrR (s[j]).toNat = true) (fun i => s.size - (intOf i).toNat)
  case atStart => exact ⟨0, Nat.zero_le _, rfl, fun j _ hj => by omega⟩
  case round =>
    obtain ⟨k, hk, rfl, hall⟩ := hrel
    have HA := Lib.hid hall
    clear hall
    by_cases hlt : k < s.size
    · have hb : (s[k]).toNat < 256 := (s[k]).toNat_lt
      go_wp2
      all_goals
        first
        | (go_ret
           refine ⟨retB (rightS_bad hlt (addrR_no _ ?_)).symm, rfl⟩
           simp only [Bool.not_eq_true', Bool.not_eq_false', decide_eq_true_eq, decide_eq_false_iff_not, bne_iff_ne, bne_eq_false_iff_eq, ne_eq] at *
           omega)
        | (refine ⟨⟨k + 1, by omega, by go_num, fun j h hj => ?_⟩, by simp [intOf]; omega⟩
           rcases Nat.lt_or_ge j k with h' | h'
           · exact HA.out j h h'
           · obtain rfl : j = k := by omega
             refine (addrR_iff _).2 ?_
             simp only [Bool.not_eq_true', Bool.not_eq_false', decide_eq_true_eq, decide_eq_false_iff_not, bne_iff_ne, bne_eq_false_iff_eq, ne_eq] at *
             omega)
    · have ha : allAddr s = true := (allAddr_iff s).2 fun j h => HA.out j h (by omega)
      go_wp2
      · go_ret
        exact ⟨retB (by have h1 : 1 ≤ s.size := by omega
                        rw [Bool.eq_iff_iff]
                        simp [rightS, ha, h1]
                        omega), rfl⟩
      · go_ret
        exact ⟨retB (by have h1 : ¬ 1 ≤ s.size := by omega
                        simp [rightS, h1]), rfl⟩

end Go.Proofs.Ytkpibmnlmmddjaa
