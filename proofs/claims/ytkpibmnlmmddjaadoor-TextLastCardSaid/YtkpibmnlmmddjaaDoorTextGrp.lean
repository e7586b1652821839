/- The plain law of the text of a key: groups of bits of one number. -/
import Derived.Test.YtkpibmnlmmddjaaDoorTextPure
namespace Go.Proofs.YtkpibmnlmmddjaaDoor

theorem big_nil (k : Nat) : big k [] = 0 := rfl

theorem big_lt (k : Nat) : ∀ (n : Nat) (l : List Nat), l.length = n → (∀ x ∈ l, x < 2 ^ k) → big k l < 2 ^ (k * n)
  | 0, l, h, _ => by
    obtain rfl : l = [] := List.eq_nil_of_length_eq_zero h
    simp [big]
  | n + 1, l, h, hl => by
    have hs : l = l.take n ++ [l.getD n 0] := by
      have := List.take_succ_eq_append_getElem (l := l) (i := n) (by omega)
      rw [List.take_of_length_le (by omega)] at this
      rw [show l.getD n 0 = l[n] by simp [List.getD, show n < l.length by omega]]
      exact this
    have h1 := big_lt k n (l.take n) (by simp; omega) (fun x hx => hl x (List.mem_of_mem_take hx))
    have h2 : l.getD n 0 < 2 ^ k := by
      have : l.getD n 0 = l[n] := by simp [List.getD, show n < l.length by omega]
      rw [this]
      exact hl _ (List.getElem_mem (by omega))
    rw [hs, big_snoc]
    have e : 2 ^ (k * (n + 1)) = 2 ^ (k * n) * 2 ^ k := by rw [← Nat.pow_add]; congr 1
    rw [e]
    calc big k (l.take n) * 2 ^ k + l.getD n 0 < big k (l.take n) * 2 ^ k + 2 ^ k := by omega
      _ = (big k (l.take n) + 1) * 2 ^ k := by rw [Nat.add_mul, Nat.one_mul]
      _ ≤ 2 ^ (k * n) * 2 ^ k := Nat.mul_le_mul_right _ h1

/-- The digits of a number in base 2^k, at the place where they stand in it. -/
theorem grp_big (k : Nat) (l : List Nat) (hl : ∀ x ∈ l, x < 2 ^ k) {n j : Nat} (hn : l.length = n) (hj : j < n) : grp (big k l) (k * n) k j = l.getD j 0 := by
  unfold grp
  rw [big_getD k l hl (by omega), big_take k l hl (n - (j + 1)) (j + 1) (by omega)]
  congr 3
  rw [Nat.mul_sub]

theorem grp_lt (N n m j : Nat) : grp N n m j < 2 ^ m := Nat.mod_lt _ (Nat.two_pow_pos m)

/-- Zeros behind a number, as many as behind its length, leave its groups as they are. -/
theorem grp_shift (N a n m j : Nat) (h : m * (j + 1) ≤ n) : grp (N * 2 ^ a) (n + a) m j = grp N n m j := by
  unfold grp
  rw [show n + a - m * (j + 1) = a + (n - m * (j + 1)) by omega, Nat.pow_add, ← Nat.div_div_eq_div_mul, Nat.mul_div_cancel _ (Nat.two_pow_pos a)]

/-- The first t groups of a number as a number of their own. -/
theorem big_grps (k N T : Nat) : ∀ t : Nat, k * t ≤ T → big k ((List.range t).map fun j => grp N T k j) = N / 2 ^ (T - k * t) % 2 ^ (k * t)
  | 0, _ => by simp [big, Nat.mod_one]
  | t + 1, h => by
    have hk : k * (t + 1) = k * t + k := Nat.mul_succ k t
    rw [List.range_succ, List.map_append, List.map_singleton, big_snoc, big_grps k N T t (by omega)]
    unfold grp
    have e : N / 2 ^ (T - k * t) = N / 2 ^ (T - k * (t + 1)) / 2 ^ k := by
      rw [Nat.div_div_eq_div_mul, ← Nat.pow_add]
      congr 2
      omega
    rw [e]
    generalize N / 2 ^ (T - k * (t + 1)) = A
    rw [show k * (t + 1) = k + k * t by omega, Nat.pow_add, Nat.mod_mul, Nat.mul_comm (A / 2 ^ k % 2 ^ (k * t))]
    omega

theorem mod_div_mod (A a h m : Nat) (hle : h + m ≤ a) : A % 2 ^ a / 2 ^ h % 2 ^ m = A / 2 ^ h % 2 ^ m := by
  have e : 2 ^ a = 2 ^ h * 2 ^ (a - h) := by rw [← Nat.pow_add]; congr 1; omega
  rw [e, Nat.mod_mul_right_div_self, Nat.mod_mod_of_dvd]
  exact Nat.pow_dvd_pow 2 (by omega)

/-- What stands in the register: bits out of the first r digits. -/
theorem grp_held (k : Nat) (l : List Nat) (hl : ∀ x ∈ l, x < 2 ^ k) {n r m j : Nat} (hn : l.length = n) (hr : r ≤ n) (hj : m * (j + 1) ≤ k * r) (h32 : k * r - m * (j + 1) + m ≤ 32) :
    big k (l.take r) % 2 ^ 32 / 2 ^ (k * r - m * (j + 1)) % 2 ^ m = grp (big k l) (k * n) m j := by
  have hkr : k * r ≤ k * n := Nat.mul_le_mul_left k hr
  rw [mod_div_mod _ _ _ _ h32, big_take k l hl (n - r) r (by omega), Nat.div_div_eq_div_mul, ← Nat.pow_add]
  unfold grp
  congr 3
  rw [Nat.mul_sub]
  omega

/-- A group of one bit, within a group of m. -/
theorem grp_bit (N n m j k : Nat) (hk : k < m) (hj : m * (j + 1) ≤ n) : grp N n m j / 2 ^ k % 2 = grp N n 1 (m * j + (m - 1 - k)) := by
  unfold grp
  have h := mod_div_mod (N / 2 ^ (n - m * (j + 1))) m k 1 (by omega)
  simp only [Nat.pow_one] at h ⊢
  rw [h, Nat.div_div_eq_div_mul, ← Nat.pow_add]
  congr 3
  rw [Nat.mul_succ] at hj ⊢
  omega

/-- Bits one by one. -/
theorem grp_step (N n s k : Nat) (h : s + k + 1 ≤ n) : 2 * (N / 2 ^ (n - (s + k)) % 2 ^ k) + grp N n 1 (s + k) = N / 2 ^ (n - (s + (k + 1))) % 2 ^ (k + 1) := by
  unfold grp
  have e : N / 2 ^ (n - (s + k)) = N / 2 ^ (n - (s + (k + 1))) / 2 := by
    rw [Nat.div_div_eq_div_mul, ← Nat.pow_succ]
    congr 2
    omega
  rw [e, show n - 1 * (s + k + 1) = n - (s + (k + 1)) by omega]
  generalize N / 2 ^ (n - (s + (k + 1))) = A
  rw [Nat.pow_one, Nat.pow_succ, Nat.mul_comm (2 ^ k) 2, Nat.mod_mul]
  omega
end Go.Proofs.YtkpibmnlmmddjaaDoor
