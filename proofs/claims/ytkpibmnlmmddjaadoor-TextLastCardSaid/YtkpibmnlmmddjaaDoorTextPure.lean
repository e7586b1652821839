/- The plain law of the text of a key: 16 bytes, two bytes of zero behind them, as one number; its characters are its groups of six bits. -/
import Derived.Test.YtkpibmnlmmddjaaDoorTextChar
namespace Go.Proofs.YtkpibmnlmmddjaaDoor

/-- A list of digits in base 2^k as a number. -/
def big (k : Nat) (l : List Nat) : Nat := l.foldl (fun a b => a * 2 ^ k + b) 0

theorem big_snoc (k : Nat) (l : List Nat) (b : Nat) : big k (l ++ [b]) = big k l * 2 ^ k + b := by simp [big, List.foldl_append]

theorem big_take_succ (k : Nat) {l : List Nat} {r : Nat} (h : r < l.length) : big k (l.take (r + 1)) = big k (l.take r) * 2 ^ k + l.getD r 0 := by
  rw [List.take_succ_eq_append_getElem h, big_snoc]
  simp [List.getD, h]

theorem big_step (k : Nat) {l : List Nat} (hl : ∀ x ∈ l, x < 2 ^ k) {r : Nat} (h : r < l.length) : big k (l.take r) = big k (l.take (r + 1)) / 2 ^ k := by
  have hb : l.getD r 0 < 2 ^ k := by
    have : l.getD r 0 = l[r] := by simp [List.getD, h]
    rw [this]
    exact hl _ (List.getElem_mem h)
  rw [big_take_succ k h, Nat.mul_comm, Nat.mul_add_div (Nat.two_pow_pos k), Nat.div_eq_of_lt hb]
  simp

/-- The number of the first r digits is the whole number without its last digits. -/
theorem big_take (k : Nat) (l : List Nat) (hl : ∀ x ∈ l, x < 2 ^ k) : ∀ d r : Nat, r + d = l.length → big k (l.take r) = big k l / 2 ^ (k * d)
  | 0, r, h => by
    have e : l.take r = l := List.take_of_length_le (by omega)
    rw [e]
    simp
  | d + 1, r, h => by
    rw [big_step k hl (by omega), big_take k l hl d (r + 1) (by omega), Nat.div_div_eq_div_mul, ← Nat.pow_add]
    rfl

theorem big_getD (k : Nat) (l : List Nat) (hl : ∀ x ∈ l, x < 2 ^ k) {r : Nat} (h : r < l.length) : l.getD r 0 = big k (l.take (r + 1)) % 2 ^ k := by
  have hb : l.getD r 0 < 2 ^ k := by
    have : l.getD r 0 = l[r] := by simp [List.getD, h]
    rw [this]
    exact hl _ (List.getElem_mem h)
  rw [big_take_succ k h, Nat.mul_comm, Nat.mul_add_mod, Nat.mod_eq_of_lt hb]

/-- Group j of m bits of a number of n bits, from the front. -/
def grp (N n m j : Nat) : Nat := N / 2 ^ (n - m * (j + 1)) % 2 ^ m
end Go.Proofs.YtkpibmnlmmddjaaDoor
