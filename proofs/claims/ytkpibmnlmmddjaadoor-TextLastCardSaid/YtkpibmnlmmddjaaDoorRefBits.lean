/- The reference's Bits and Of. -/
import Derived.Test.YtkpibmnlmmddjaaDoorTextParsePure
import Derived.Test.YtkpibmnlmmddjaaDoorTextPrint
import Derived.Test.YtkpibmnlmmddjaaDoorTextParse
namespace Go.Proofs.YtkpibmnlmmddjaaDoor
open Go.RowKit

/-- The first t bits of a number of n bits. -/
def bitsL (N n t : Nat) : List Value := (List.range t).map fun j => Value.int .i64 ((grp N n 1 j : Nat) : Int)
theorem bitsL_length (N n t : Nat) : (bitsL N n t).length = t := by simp [bitsL]
theorem bitsL_succ (N n t : Nat) : bitsL N n (t + 1) = bitsL N n t ++ [.int .i64 ((grp N n 1 t : Nat) : Int)] := by simp [bitsL, List.range_succ]
theorem bitsL_get (N n : Nat) {t j : Nat} (h : j < t) : (bitsL N n t)[j]? = some (.int .i64 ((grp N n 1 j : Nat) : Int)) := by simp [bitsL, h]

theorem infoInt : (Tryd.prog.info? 3).map (fun i => (i.zero, i.size, i.bytes)) = some (some (.int .i64 0), 1, 8) := by kernel_rfl

theorem bit_out (m : Nat) (l : List Nat) (hl : ∀ x ∈ l, x < 2 ^ m) {i p : Nat} (hi : i < l.length) (hp : p < m) :
    ((l.getD i 0 : Nat) : Int) / 2 ^ p % 2 = ((grp (big m l) (m * l.length) 1 (m * i + (m - 1 - p)) : Nat) : Int) := by
  have hmul : m * (i + 1) ≤ m * l.length := Nat.mul_le_mul_left m hi
  rw [← grp_bit (big m l) (m * l.length) m i p hp hmul, grp_big m l hl rfl hi, Int.natCast_emod, Int.natCast_ediv, Int.natCast_pow]
  rfl

set_option maxRecDepth 100000 in
set_option maxHeartbeats 1000000 in
theorem bits_any (l : List Nat) (hl : l.length ≤ 100) (hb : ∀ x ∈ l, x < 2 ^ 8) (g c : Nat) (w : World) (hc : ∀ i, i < l.length → w.cell? ⟨g, i, none⟩ = some (.int .u8 (l.getD i 0 : Nat))) (hg : g < w.heap.size) :
    Calls Tryd.prog 36 #[.slice (some ⟨g, 0, none⟩) l.length c] w fun e w' => ∃ v, e = .returned v ∧ w'.ownsRow w.heap.size 3 1 v (8 * l.length) (bitsL (big 8 l) (8 * l.length) (8 * l.length)) ∧ Below w.heap.size w w' := by
  obtain ⟨i0, hi0, hz0, hz1, hz2⟩ := info_parts infoInt
  have HC := Lib.hid hc
  clear hc
  go_enter Tryd.func36, Tryd.ntmps36
  go_wp2_with fail
  go_loopw [3, 4] (fun v i wr => ∃ r : Nat, r ≤ l.length ∧ i = .int .i64 r ∧ wr.ownsRow w.heap.size 3 1 v (8 * r) (bitsL (big 8 l) (8 * l.length) (8 * r)) ∧ Below w.heap.size w wr) (fun _ i _ => l.length - (intOf i).toNat)
  case atStart => exact ⟨0, by omega, rfl, World.ownsRow_nil _ _ _ _, Below.refl _ _⟩
  case round =>
    obtain ⟨r, hr, rfl, hown, hB⟩ := hrel
    by_cases hlt : r < l.length
    · have hdec : decide ((r : Int) < (l.length : Int)) = true := decide_eq_true (by omega)
      have hdec' : decide (r < l.length) = true := decide_eq_true (by omega)
      go_wp2_with fail
      go_loopw [3, 5] (fun v q wr => ∃ t p : Nat, t + p = 8 ∧ q = .int .i64 ((p : Int) - 1) ∧ wr.ownsRow w.heap.size 3 1 v (8 * r + t) (bitsL (big 8 l) (8 * l.length) (8 * r + t)) ∧ Below w.heap.size w wr) (fun _ q _ => (intOf q + 1).toNat)
      case atStart => exact ⟨0, 8, rfl, rfl, hown, hB⟩
      case round =>
        obtain ⟨t, p, ht, rfl, hown2, hB2⟩ := hrel
        cases p with
        | zero =>
          obtain rfl : t = 8 := by omega
          go_wp2_with fail
          exact ⟨⟨r + 1, by omega, by go_num, hown2, hB2⟩, by simp [intOf]; omega⟩
        | succ p =>
          have hp8 : (p : Int) < 8 := by omega
          have hx : wr.cell? ⟨g, r, none⟩ = some (.int .u8 (l.getD r 0 : Nat)) := (hB2.cell hg).trans (HC.out r hlt)
          have hlr : l.getD r 0 < 256 := by
            have : l.getD r 0 = l[r] := by simp [List.getD, hlt]
            rw [this]
            exact hb _ (List.getElem_mem hlt)
          have hbit := bit_out 8 l hb hlt (p := p) (by omega)
          rw [show 8 * r + (8 - 1 - p) = 8 * r + t by omega] at hbit
          have hsn := bitsL_succ (big 8 l) (8 * l.length) (8 * r + t)
          have HSN := Lib.hid hsn
          clear hsn
          generalize l.getD r 0 = X at *
          have hq0 : (0 : Int) ≤ (X : Int) / 2 ^ p := Int.ediv_nonneg (by omega) (by exact Int.le_of_lt (Int.pow_pos (by omega)))
          have hq1 : (X : Int) / 2 ^ p ≤ 255 := by
            have : X / 2 ^ p ≤ X := Nat.div_le_self _ _
            have e : (X : Int) / 2 ^ p = ((X / 2 ^ p : Nat) : Int) := by rw [Int.natCast_ediv, Int.natCast_pow]; rfl
            omega
          have HT := Lib.hid ht
          clear ht
          go_wp2_with (at_builtin; refine wpList_append_own _ rfl _ _ 66 rfl w.heap.size 3 i0 (.int .i64 0) 1 8 Tryd.underlying66 hi0 hz0 hz1 hz2 rfl (by decide) _ _ _ rfl (hown2.alloc _) ⟨wr.heap.size, 0, none⟩ 1 1 [_] rfl rfl (cell_one_new _ _ _) (by intro u hu; simp at hu; subst hu; rfl) (by have := HT.out; unfold maxLen; omega) (by have := HT.out; omega) (by simp; have := hB2.size; omega) ?_; intro v1 w1 hown1 hgrow1 hnil1)
          have hown3 : w1.ownsRow w.heap.size 3 1 v1 (8 * r + (t + 1)) (bitsL (big 8 l) (8 * l.length) (8 * r + (t + 1))) := by
            rw [← Nat.add_assoc, HSN.out]
            exact hown1
          have hB3 : Below w.heap.size w w1 := (hB2.alloc hB2.size _).grown hgrow1 (by simp; have := hB2.size; omega) (fun k hk => (hown2.lt k hk).1)
          clear hown1 hgrow1 hnil1 hown2
          refine ⟨⟨t + 1, p, by have := HT.out; omega, rfl, hown3, hB3⟩, by simp [intOf]⟩
    · obtain rfl : r = l.length := by omega
      have hdec : decide ((l.length : Int) < (l.length : Int)) = false := decide_eq_false (by omega)
      go_wp2_with fail
      go_ret
      exact ⟨_, rfl, hown, hB⟩
end Go.Proofs.YtkpibmnlmmddjaaDoor
