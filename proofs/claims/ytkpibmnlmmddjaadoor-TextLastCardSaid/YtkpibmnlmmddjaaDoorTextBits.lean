/- The bit operations of text.Print and text.Parse as arithmetic on naturals. -/
import Derived.Test.YtkpibmnlmmddjaaDoorTextPure
import Derived.Laws.BitsAllLaws
import Derived.Laws.BitsLemmas
namespace Go.Proofs.YtkpibmnlmmddjaaDoor
open Go.RowKit

theorem or_low (k x b : Nat) (hb : b < 2 ^ k) : (x * 2 ^ k) ||| b = x * 2 ^ k + b := by
  rw [Nat.mul_comm]
  exact (Nat.two_pow_add_eq_or_of_lt hb x).symm

/-- held<<8 | c -/
theorem held8 (X c : Nat) (hc : c < 256) : bits BinOp.or IntKind.u32 ((X : Int) % 4294967296 * 256 % 4294967296) ((c : Int) % 4294967296) = ((X * 2 ^ 8 + c : Nat) : Int) % 4294967296 := by
  have e1 : (X : Int) % 4294967296 * 256 % 4294967296 = (((X % 16777216) * 2 ^ 8 : Nat) : Int) := by omega
  have e2 : (c : Int) % 4294967296 = (c : Int) := by omega
  rw [e1, e2, u32_or_nat _ _ (by omega) (by omega), or_low 8 _ _ (by omega)]
  omega

/-- held<<6 | v -/
theorem held6 (X c : Nat) (hc : c < 64) : bits BinOp.or IntKind.u32 ((X : Int) % 4294967296 * 64 % 4294967296) ((c : Int) % 4294967296) = ((X * 2 ^ 6 + c : Nat) : Int) % 4294967296 := by
  have e1 : (X : Int) % 4294967296 * 64 % 4294967296 = (((X % 67108864) * 2 ^ 6 : Nat) : Int) := by omega
  have e2 : (c : Int) % 4294967296 = (c : Int) := by omega
  rw [e1, e2, u32_or_nat _ _ (by omega) (by omega), or_low 6 _ _ (by omega)]
  omega

theorem ofInt_i64 (a : Nat) (ha : a < 9223372036854775808) : (BitVec.ofInt 64 (a : Int)).toNat = a := by
  rw [BitVec.ofInt_natCast, BitVec.toNat_ofNat]; exact Nat.mod_eq_of_lt (by omega)
theorem i64_and_nat (a b : Nat) (ha : a < 9223372036854775808) (hb : b < 9223372036854775808) : bits .and .i64 (a : Int) (b : Int) = ((a &&& b : Nat) : Int) := by
  have hx : a &&& b < 2 ^ 63 := Nat.and_lt_two_pow _ (by omega)
  show IntKind.i64.wrap ((BitVec.ofInt 64 (a : Int) &&& BitVec.ofInt 64 (b : Int)).toNat : Int) = _
  rw [BitVec.toNat_and, ofInt_i64 a ha, ofInt_i64 b hb, IntKind.wrap_i64]
  omega
end Go.Proofs.YtkpibmnlmmddjaaDoor
