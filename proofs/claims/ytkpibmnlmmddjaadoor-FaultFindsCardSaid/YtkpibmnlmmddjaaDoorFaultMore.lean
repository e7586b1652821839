/- The names of codes, by the program and by the reference; the text of an error; the fault laws' fixed examples. -/
import Derived.Test.YtkpibmnlmmddjaaDoorDecimal
namespace Go.Proofs.YtkpibmnlmmddjaaDoor
open Go.RowKit

theorem decimal_any (n : Int) (w : World) (hn : -9223372036854775808 ≤ n ∧ n ≤ 9223372036854775807) :
    Calls Tryd.prog 39 #[.int .i64 n] w fun e w' => e = .returned (.string (itoaB n)) ∧ Below w.heap.size w w' := decimal_k _ n w (Nat.le_refl _) hn.1 hn.2

/-- The name of a code. -/
def nameOf (c : Int) : ByteArray := if c < 1 ∨ 12 < c then ⟨#[]⟩ else nameAt c.toNat

theorem name_any (c : Int) (w : World) (he : Env w) : Calls Tryd.prog 27 #[.int .i64 c] w fun e w' => e = .returned (.string (nameOf c)) ∧ Below w.heap.size w w' := by
  have hN := he.names
  clear he
  by_cases h1 : c < 0
  · have e : nameOf c = ⟨#[]⟩ := by unfold nameOf; rw [if_pos (by omega)]
    rw [e]
    clear e hN
    go_enter Tryd.func27, Tryd.ntmps27
    go_wp2
    go_ret
    exact ⟨rfl, Below.refl _ _⟩
  · by_cases h2 : 13 ≤ c
    · have e : nameOf c = ⟨#[]⟩ := by unfold nameOf; rw [if_pos (by omega)]
      rw [e]
      clear e hN
      go_enter Tryd.func27, Tryd.ntmps27
      go_wp2
      go_ret
      exact ⟨rfl, Below.refl _ _⟩
    · obtain ⟨k, rfl⟩ : ∃ k : Nat, c = (k : Int) := ⟨c.toNat, by omega⟩
      have hc := hN k (by omega)
      have e : nameOf k = nameAt k := by
        unfold nameOf
        by_cases h0 : k = 0
        · subst h0
          rfl
        · rw [if_neg (by omega)]
          rfl
      rw [e]
      clear e hN
      have b1 : (k : Int) < 13 := by omega
      go_enter Tryd.func27, Tryd.ntmps27
      go_wp2
      go_ret
      exact ⟨rfl, Below.refl _ _⟩

set_option maxHeartbeats 1000000 in
theorem refName_any (c : Int) (w : World) : Calls Tryd.prog 28 #[.int .i64 c] w fun e w' => e = .returned (.string (nameOf c)) ∧ Below w.heap.size w w' := by
  by_cases h1 : c < 1
  · have e : nameOf c = ⟨#[]⟩ := by unfold nameOf; rw [if_pos (by omega)]
    rw [e]
    clear e
    go_enter Tryd.func28, Tryd.ntmps28
    go_wp2
    go_ret
    exact ⟨rfl, Below.refl _ _⟩
  · by_cases h2 : 12 < c
    · have e : nameOf c = ⟨#[]⟩ := by unfold nameOf; rw [if_pos (by omega)]
      rw [e]
      clear e
      go_enter Tryd.func28, Tryd.ntmps28
      go_wp2
      go_ret
      exact ⟨rfl, Below.refl _ _⟩
    · have h : c = 1 ∨ c = 2 ∨ c = 3 ∨ c = 4 ∨ c = 5 ∨ c = 6 ∨ c = 7 ∨ c = 8 ∨ c = 9 ∨ c = 10 ∨ c = 11 ∨ c = 12 := by omega
      rcases h with rfl | rfl | rfl | rfl | rfl | rfl | rfl | rfl | rfl | rfl | rfl | rfl
      all_goals
        go_enter Tryd.func28, Tryd.ntmps28
        go_wp2
        go_ret
        exact ⟨rfl, (Below.refl _ _).alloc (Nat.le_refl _) _⟩

theorem nameOf_size (c : Int) : (nameOf c).size ≤ 9 := by
  unfold nameOf
  split
  · exact Nat.zero_le _
  · unfold nameAt
    split <;> decide

/-- What fault.Text says of an error. -/
def toldText (fault : Bool) (c a : Int) : ByteArray := if fault then nameOf c ++ ⟨#[32]⟩ ++ itoaB a else nameOf c

theorem text_nil (w : World) : Calls Tryd.prog 29 #[.nilIface] w fun e w' => e = .returned (.string ⟨#[111, 107]⟩) ∧ Below w.heap.size w w' := by
  go_enter Tryd.func29, Tryd.ntmps29
  go_wp2_with fail
  refine (code_nil _).mono ?_
  rintro e w1 ⟨rfl, hB1⟩
  go_wp2_with fail
  refine (at_nil _).mono ?_
  rintro e w2 ⟨rfl, hB2⟩
  go_wp2_with fail
  go_ret
  exact ⟨rfl, below_then hB1 hB2 hB1.size⟩

set_option maxHeartbeats 400000 in
theorem text_err (ps : List ByteArray) (fault : Bool) (c a : Int) (w : World) (ha : -9223372036854775808 ≤ a ∧ a ≤ 9223372036854775807) (he : Env w) :
    Calls Tryd.prog 29 #[errVal ps fault c a] w fun e w' => e = .returned (.string (toldText fault c a)) ∧ Below w.heap.size w w' := by
  obtain ⟨T, v0, hTv⟩ := errVal_iface ps fault c a
  have CC := code_err ps fault c a w he.err
  have CA := fun (w1 : World) (h1 : Env w1) => at_err ps fault c a w1 h1.err
  rw [hTv] at CC
  simp only [hTv] at CA
  rw [hTv]
  clear hTv
  have HC := Lib.hid CC
  have HA := Lib.hid CA
  clear CC CA
  go_enter Tryd.func29, Tryd.ntmps29
  go_wp2_with fail
  refine (HC.out).mono ?_
  rintro e w1 ⟨rfl, hB1⟩
  have he1 := he.later hB1
  go_wp2_with fail
  refine (HA.out _ he1).mono ?_
  rintro e w2 ⟨rfl, hB2⟩
  have he2 := he1.later hB2
  have hC2 := below_then hB1 hB2 hB1.size
  clear hB1 hB2 he he1
  cases fault with
  | true =>
    go_wp2_with fail
    refine (name_any _ _ he2).mono ?_
    rintro e w3 ⟨rfl, hB3⟩
    have hC3 := below_then hC2 hB3 hC2.size
    have he3 := he2.later hB3
    clear hC2 hB3 he2
    have zn := nameOf_size c
    have zi := itoaB_size a ha
    go_wp2_with fail
    refine (itoa_any _ _ ha he3).mono ?_
    rintro e w4 ⟨rfl, hB4⟩
    go_wp2_with fail
    go_ret
    exact ⟨rfl, below_then hC3 hB4 hC3.size⟩
  | false =>
    go_wp2_with fail
    refine (name_any _ _ he2).mono ?_
    rintro e w3 ⟨rfl, hB3⟩
    go_wp2_with fail
    go_ret
    exact ⟨rfl, below_then hC2 hB3 hC2.size⟩
end Go.Proofs.YtkpibmnlmmddjaaDoor
