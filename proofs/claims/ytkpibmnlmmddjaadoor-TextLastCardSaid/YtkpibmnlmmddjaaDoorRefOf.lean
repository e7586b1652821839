/- The reference's Of: the block of 128 bits. -/
import Derived.Test.YtkpibmnlmmddjaaDoorRefBits
namespace Go.Proofs.YtkpibmnlmmddjaaDoor
open Go.RowKit

/-- Byte q of the block after i bits. -/
def cellv (M T i q : Nat) : Nat := M / 2 ^ (T - min i (8 * (q + 1))) % 2 ^ (min i (8 * (q + 1)) - 8 * q)
def outL (M T i : Nat) : List Nat := (List.range 16).map (cellv M T i)
def ofL (M T : Nat) : List Nat := (List.range 16).map fun q => grp M T 8 q

theorem outL_length (M T i : Nat) : (outL M T i).length = 16 := by simp [outL]
theorem outL_get (M T i : Nat) {q : Nat} (h : q < 16) : (outL M T i).getD q 0 = cellv M T i q := by simp [outL, List.getD, h]
theorem outL_zero (M T : Nat) : outL M T 0 = zeros16 := by
  have : ∀ q, cellv M T 0 q = 0 := fun q => by
    unfold cellv
    rw [show min 0 (8 * (q + 1)) - 8 * q = 0 by omega, Nat.pow_zero, Nat.mod_one]
  unfold outL zeros16
  rw [List.map_congr_left (g := fun _ => 0) (fun q _ => this q)]
  rfl
theorem outL_full (M T : Nat) : outL M T 128 = ofL M T := by
  unfold outL ofL
  refine List.map_congr_left fun q hq => ?_
  have := List.mem_range.1 hq
  unfold cellv grp
  rw [show min 128 (8 * (q + 1)) = 8 * (q + 1) by omega, show 8 * (q + 1) - 8 * q = 8 by omega]
theorem cellv_lt (M T : Nat) {i : Nat} : cellv M T i (i / 8) < 128 := by
  unfold cellv
  have h7 : min i (8 * (i / 8 + 1)) - 8 * (i / 8) ≤ 7 := by omega
  have hp := Nat.pow_le_pow_right (show 0 < 2 by omega) h7
  exact Nat.lt_of_lt_of_le (Nat.mod_lt _ (Nat.two_pow_pos _)) hp
theorem cellv_step (M : Nat) {T i : Nat} (h : i < T) : cellv M T i (i / 8) * 2 + grp M T 1 i = cellv M T (i + 1) (i / 8) := by
  have hs := grp_step M T (8 * (i / 8)) (i - 8 * (i / 8)) (by omega)
  rw [show 8 * (i / 8) + (i - 8 * (i / 8)) = i by omega, show 8 * (i / 8) + (i - 8 * (i / 8) + 1) = i + 1 by omega] at hs
  unfold cellv
  rw [show min i (8 * (i / 8 + 1)) = i by omega, show min (i + 1) (8 * (i / 8 + 1)) = i + 1 by omega, show i + 1 - 8 * (i / 8) = i - 8 * (i / 8) + 1 by omega, Nat.mul_comm]
  exact hs
theorem outL_succ (M : Nat) {T i : Nat} (h : i < T) (hi : i < 128) : (outL M T i).set (i / 8) (cellv M T i (i / 8) * 2 + grp M T 1 i) = outL M T (i + 1) := by
  rw [cellv_step M h]
  apply List.ext_getElem?
  intro q
  by_cases hq : q < 16
  · by_cases he : i / 8 = q
    · subst he
      rw [List.getElem?_set_self (by rw [outL_length]; exact hq)]
      simp [outL, hq]
    · rw [List.getElem?_set_ne he]
      have : cellv M T i q = cellv M T (i + 1) q := by
        unfold cellv
        rcases Nat.lt_or_ge q (i / 8) with h' | h'
        · rw [show min i (8 * (q + 1)) = 8 * (q + 1) by omega, show min (i + 1) (8 * (q + 1)) = 8 * (q + 1) by omega]
        · rw [show min i (8 * (q + 1)) - 8 * q = 0 by omega, show min (i + 1) (8 * (q + 1)) - 8 * q = 0 by omega, Nat.pow_zero, Nat.mod_one, Nat.mod_one]
      simp [outL, hq, this]
  · rw [List.getElem?_eq_none (by simp [outL_length]; omega), List.getElem?_eq_none (by simp [outL_length]; omega)]

theorem Two.put {w W : World} {l m : List Nat} (h : Two w W l) (i n : Nat) (he : l.set i n = m) {x : Int} (hx : x = (n : Int)) : Two w (W.setCell ⟨w.heap.size + 1, i, none⟩ (.int .u8 x)) m := by
  subst he
  subst hx
  have hb : Below w.heap.size W (W.setCell ⟨w.heap.size + 1, i, none⟩ (.int .u8 (n : Int))) := (Below.refl _ _).setCell (by show w.heap.size ≤ w.heap.size + 1; omega) _
  exact ⟨h.res.other (by show w.heap.size ≠ w.heap.size + 1; omega) _, h.var.put8 i n, h.below.trans hb⟩

set_option maxRecDepth 100000 in
set_option maxHeartbeats 1000000 in
theorem of_any (M T : Nat) (hT : 128 ≤ T) (g c : Nat) (w : World) (hc : ∀ i, i < 128 → w.cell? ⟨g, i, none⟩ = some (.int .i64 ((grp M T 1 i : Nat) : Int))) (hg : g < w.heap.size) :
    Calls Tryd.prog 37 #[.slice (some ⟨g, 0, none⟩) 128 c] w fun e w' => e = .returned (arr (ofL M T)) ∧ Below w.heap.size w w' := by
  have hu := Tryd.underlying22
  have HC := Lib.hid hc
  clear hc
  go_enter Tryd.func37, Tryd.ntmps37
  go_wp2_with fail
  generalize hE : World.alloc (World.alloc w _) _ = W
  have hW : Two w W (outL M T 0) := by rw [← hE, outL_zero]; exact Two.start w
  clear hE
  have HW := Lib.hid hW
  clear hW
  go_loopw [4] (fun i wr => ∃ k : Nat, k ≤ 128 ∧ i = .int .i64 k ∧ Two w wr (outL M T k)) (fun i _ => 128 - (intOf i).toNat)
  case atStart => exact ⟨0, by omega, rfl, HW.out⟩
  case round =>
    obtain ⟨k, hk, rfl, h2⟩ := hrel
    by_cases hlt : k < 128
    · have hdec : decide ((k : Int) < 128) = true := decide_eq_true (by omega)
      have hx : wr.cell? ⟨g, k, none⟩ = some (.int .i64 ((grp M T 1 k : Nat) : Int)) := (h2.below.cell hg).trans (HC.out k hlt)
      have hy := h2.var.cell8 (i := k / 8) (by rw [outL_length]; omega)
      rw [outL_get M T k (by omega)] at hy
      have hz := h2.var.free (k / 8)
      have hX := cellv_lt M T (i := k)
      have hb := grp_lt M T 1 k
      have hsu := outL_succ M (T := T) (i := k) (by omega) hlt
      have H2 := Lib.hid h2
      have HSU := Lib.hid hsu
      clear h2 hsu
      generalize cellv M T k (k / 8) = X at *
      generalize grp M T 1 k = b at *
      have hX1 : (X : Int) ≤ 127 := by omega
      have hb1 : (b : Int) ≤ 1 := by omega
      have hk8 : (k : Int) / 8 < 16 := by omega
      have hk0 : (0 : Int) ≤ (k : Int) / 8 := by omega
      have hk1 : (k : Int) < 128 := by omega
      go_wp2_with fail
      go_region
      all_goals
        go_wp2_with fail
        exact ⟨⟨k + 1, by omega, by go_num, (H2.out.put (k / 8) (X * 2 + b) HSU.out (by omega)).draw⟩, by simp [intOf]; omega⟩
    · obtain rfl : k = 128 := by omega
      rw [outL_full] at h2
      obtain ⟨Y, hY⟩ : ∃ Y, Y = cells8 (ofL M T) := ⟨_, rfl⟩
      obtain ⟨hi', hl', h1'⟩ : Zs Y := by rw [hY]; exact Zs.of (by simp [ofL])
      have hp : arr (ofL M T) = .agg Y.toArray := by rw [hY]; rfl
      have q0 := h2.res.there (n := 16) rfl
      have q2 := h2.set (by simp [ofL]) rfl hY
      have q1 := q2.range
      have H2 := Lib.hid q2
      have HP := Lib.hid hp
      clear h2 q2 hp hY
      go_wp2_with (first | (refine wpList_store_mid (by rfl) _ (.tmp 2) (.tmp 23) (by rfl) w.heap.size 0 Y.toArray (by rfl) (by rfl) (by simpa [hl'] using q0) (by simpa using hi') (all_oneCell_toArray h1') ?_) | (refine wpList_load_mid (by rfl) _ (.tmp 3) (by rfl) (w.heap.size + 1) 0 (by rfl) Y _ q1 hu rfl hi' ?_))
      exact bodyPost_ret (ret_cell rfl rfl H2.out.retY.1 hu rfl hi') rfl ⟨by rw [HP.out], H2.out.retY.2⟩
end Go.Proofs.YtkpibmnlmmddjaaDoor
