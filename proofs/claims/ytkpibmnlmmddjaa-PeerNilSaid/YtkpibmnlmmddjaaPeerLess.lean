/- The walk of the reference's Less: the order of strings byte by byte. -/
import Derived.Test.YtkpibmnlmmddjaaPeerRight
namespace Go.Proofs.Ytkpibmnlmmddjaa
open Go.RowKit

theorem less_cons (x y : UInt8) (l m : List UInt8) : Op.bytesLess (x :: l) (y :: m) = (decide (x < y) || (x == y && Op.bytesLess l m)) := rfl

theorem less_drop (a b : ByteArray) : ∀ (k : Nat), (∀ (j : Nat) (ha : j < a.size) (hb : j < b.size), j < k → a[j] = b[j]) → k ≤ a.size → k ≤ b.size →
    Op.bytesLess a.data.toList b.data.toList = Op.bytesLess (a.data.toList.drop k) (b.data.toList.drop k)
  | 0, _, _, _ => by simp
  | k + 1, h, ha, hb => by
    rw [less_drop a b k (fun j h1 h2 h3 => h j h1 h2 (by omega)) (by omega) (by omega)]
    have e := h k (by omega) (by omega) (by omega)
    have ea : a.data.toList.drop k = a[k] :: a.data.toList.drop (k + 1) := List.drop_eq_getElem_cons (by show k < a.data.toList.length; simp; omega)
    have eb : b.data.toList.drop k = b[k] :: b.data.toList.drop (k + 1) := List.drop_eq_getElem_cons (by show k < b.data.toList.length; simp; omega)
    rw [ea, eb, less_cons, e]
    simp

theorem less_here (a b : ByteArray) (k : Nat) (ha : k < a.size) (hb : k < b.size) (h : ∀ (j : Nat) (ha : j < a.size) (hb : j < b.size), j < k → a[j] = b[j]) (hne : (a[k]).toNat ≠ (b[k]).toNat) :
    Op.bytesLess a.toList b.toList = decide ((a[k]).toNat < (b[k]).toNat) := by
  rw [ByteArray.toList_eq, ByteArray.toList_eq, less_drop a b k h (by omega) (by omega)]
  have ea : a.data.toList.drop k = a[k] :: a.data.toList.drop (k + 1) := List.drop_eq_getElem_cons (by simpa using ha)
  have eb : b.data.toList.drop k = b[k] :: b.data.toList.drop (k + 1) := List.drop_eq_getElem_cons (by simpa using hb)
  have hx : (a[k] == b[k]) = false := by
    rw [beq_eq_false_iff_ne]
    intro e
    exact hne (by rw [e])
  rw [ea, eb, less_cons, hx]
  simp [UInt8.lt_iff_toNat_lt]

theorem less_end (a b : ByteArray) (k : Nat) (ha : k ≤ a.size) (hb : k ≤ b.size) (h : ∀ (j : Nat) (ha : j < a.size) (hb : j < b.size), j < k → a[j] = b[j]) (hk : k = a.size ∨ k = b.size) :
    Op.bytesLess a.toList b.toList = decide (a.size < b.size) := by
  rw [ByteArray.toList_eq, ByteArray.toList_eq, less_drop a b k h ha hb]
  by_cases e : k = b.size
  · have eb : b.data.toList.drop k = [] := List.drop_eq_nil_of_le (by rw [e]; simp)
    rw [eb]
    have : ¬ a.size < b.size := by omega
    cases a.data.toList.drop k <;> simp [Op.bytesLess] <;> omega
  · have hl : k < b.size := by omega
    have eb : b.data.toList.drop k = b[k] :: b.data.toList.drop (k + 1) := List.drop_eq_getElem_cons (by simpa using hl)
    have ea : a.data.toList.drop k = [] := List.drop_eq_nil_of_le (by have : k = a.size := by omega
                                                                      rw [this]; simp)
    rw [ea, eb]
    simp [Op.bytesLess]
    omega

theorem refLess_any (a b : ByteArray) (w : World) (ha : a.size ≤ maxLen) (hb : b.size ≤ maxLen) : Calls Try.prog 10 #[.string a, .string b] w fun e w' => e = .returned (.bool (Op.bytesLess a.toList b.toList)) ∧ Below w.heap.size w w' := by
  unfold maxLen at ha hb
  go_enter Try.func10, Try.ntmps10
  go_wp2
  go_loopw [5] (fun i wr => ∃ k : Nat, k ≤ a.size ∧ k ≤ b.size ∧ i = .int .i64 k ∧ (∀ (j : Nat) (ha : j < a.size) (hb : j < b.size), j < k → a[j] = b[j]) ∧ ∃ n, wr = w.drewN n) (fun i _ => a.size - (intOf i).toNat)
  case atStart => exact ⟨0, Nat.zero_le _, Nat.zero_le _, rfl, fun j _ _ hj => by omega, 0, rfl⟩
  case round =>
    obtain ⟨k, hka, hkb, rfl, hall, n, rfl⟩ := hrel
    have HA := Lib.hid hall
    clear hall
    by_cases hlt : k < a.size ∧ k < b.size
    · obtain ⟨h1, h2⟩ := hlt
      have i0 : 0 ≤ (k : Int) := by omega
      have i1 : (k : Int) < a.size := by omega
      have i2 : (k : Int) < b.size := by omega
      go_wp2
      go_quiet (fail)
      go_wp2
      · have hne : (a[k]).toNat ≠ (b[k]).toNat := by
          have : ((a[k].toNat : Int) != (b[k].toNat : Int)) = true := by assumption
          rw [bne_iff_ne] at this
          omega
        have hless := less_here a b k h1 h2 HA.out hne
        have HL := Lib.hid hless
        clear hless
        have hB : Below w.heap.size w ((w.drewN n).drewN nq) := (below_draws w n).trans (below_draws (w.drewN n) nq)
        generalize (w.drewN n).drewN nq = W at hB ⊢
        go_quiet (fail)
        go_wp2
        go_ret
        exact ⟨retB HL.out.symm, hB.trans ((below_draws W _).mono hB.size)⟩
      · have he : a[k] = b[k] := by
          have : ((a[k].toNat : Int) != (b[k].toNat : Int)) = false := by assumption
          rw [bne_eq_false_iff_eq] at this
          exact UInt8.toNat_inj.1 (by omega)
        refine ⟨⟨k + 1, by omega, by omega, by go_num, fun j ha hb hj => ?_, n + nq, rfl⟩, by simp [intOf]; omega⟩
        rcases Nat.lt_or_ge j k with h' | h'
        · exact HA.out j ha hb h'
        · obtain rfl : j = k := by omega
          exact he
    · have hl := less_end a b k hka hkb HA.out (by omega)
      have HL := Lib.hid hl
      clear hl
      by_cases h1 : k < a.size
      all_goals
        go_wp2
        go_ret
        exact ⟨retB HL.out.symm, below_draws w n⟩
end Go.Proofs.Ytkpibmnlmmddjaa
