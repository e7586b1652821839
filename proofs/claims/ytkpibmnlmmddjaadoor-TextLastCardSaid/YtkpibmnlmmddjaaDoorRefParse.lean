/- The reference's Parse. -/
import Derived.Test.YtkpibmnlmmddjaaDoorRefPrint
namespace Go.Proofs.YtkpibmnlmmddjaaDoor
open Go.RowKit

theorem low_bits (M : Nat) : M % 16 = 0 ↔ ∀ t, t < 4 → grp M 132 1 (128 + t) = 0 := by
  unfold grp
  constructor
  · intro h t ht
    have : t = 0 ∨ t = 1 ∨ t = 2 ∨ t = 3 := by omega
    rcases this with rfl | rfl | rfl | rfl <;> omega
  · intro h
    have h0 := h 0 (by omega)
    have h1 := h 1 (by omega)
    have h2 := h 2 (by omega)
    have h3 := h 3 (by omega)
    omega

theorem ofL_key (M : Nat) : ofL M 132 = keyOfN M := rfl

theorem rw_res {W : World} {g : Nat} (h : Rw W g 22 (cells8 zeros16).toArray) {w : World} (hg : w.heap.size ≤ g) (hB : Below w.heap.size w W) {m : List Nat} (hm : m.length = 16) {Y : List Value} (hY : Y = cells8 m) :
    W.there g 0 16 ∧ (W.setCells g 0 Y).rangeAt g 0 Y ∧ Below w.heap.size w (W.setCells g 0 Y) := by
  subst hY
  exact ⟨h.there rfl, (h.setCells hm).range, below_setCells hg _ _ _ hB⟩

set_option maxRecDepth 100000 in
set_option maxHeartbeats 1000000 in
theorem refParse_len (s : ByteArray) (hs : s.size ≤ 300) (hn : ¬ s.size = 22) (w : World) :
    Calls Tryd.prog 15 #[.string s] w fun e w' => e = .returned (refParseV s) ∧ Below w.heap.size w w' := by
  have hne : ((s.size : Int) != 22) = true := by simp; omega
  have hp : refParseV s = .tuple #[.agg (cells8 zeros16).toArray, .int .i64 4, .int .i64 s.size] := by unfold refParseV; rw [parseR_len hn]; rfl
  rw [hp]
  clear hp
  have hr := (Rw.made w 22 (cells8 zeros16).toArray).range
  have HR := Lib.hid hr
  clear hr
  go_enter Tryd.func15, Tryd.ntmps15
  go_wp2_with fail
  exact bodyPost_ret (ret_cell_tmp2 rfl rfl HR.out Tryd.underlying22 rfl (size_cells rfl)) rfl ⟨rfl, (Below.refl _ _).alloc (Nat.le_refl _) _⟩

set_option maxRecDepth 100000 in
set_option maxHeartbeats 2000000 in
theorem refParse_22 (s : ByteArray) (hs : s.size = 22) (w : World) :
    Calls Tryd.prog 15 #[.string s] w fun e w' => e = .returned (refParseV s) ∧ Below w.heap.size w w' := by
  have hne : ((s.size : Int) != 22) = false := by simp; omega
  obtain ⟨Z, hZ⟩ : ∃ Z, Z = cells8 zeros16 := ⟨_, rfl⟩
  have hu := Tryd.underlying22
  obtain ⟨hi, hl, h1⟩ : Zs Z := by rw [hZ]; exact Zs.of rfl
  obtain ⟨i0, hi0, hz0, hz1, hz2⟩ := info_parts infoInt
  have HZ := Lib.hid hZ
  clear hZ
  have HSZ := Lib.hid hs
  clear hs
  go_enter Tryd.func15, Tryd.ntmps15
  go_wp2_with fail
  generalize hE : World.alloc w _ = W
  have hres : Rw W w.heap.size 22 (cells8 zeros16).toArray := by rw [← hE]; exact Rw.made w _ _
  have hBW : Below w.heap.size w W := by rw [← hE]; exact (Below.refl _ _).alloc (Nat.le_refl _) _
  clear hE
  have hWs := hres.lt
  have HRES := Lib.hid hres
  clear hres
  have hlen : 6 * (vals s).length = 132 := by rw [vals_length]
  have HLEN := Lib.hid hlen
  clear hlen
  go_loopw [5, 6] (fun v i wr => ∃ k : Nat, k ≤ 22 ∧ i = .int .i64 k ∧ wr.ownsRow W.heap.size 3 1 v (6 * k) (bitsL (bigV s) 132 (6 * k)) ∧ Below W.heap.size W wr ∧ RowKit.Hid (∀ j, j < k → wrongAt s j = false)) (fun _ i _ => 22 - (intOf i).toNat)
  case atStart => exact ⟨0, by omega, rfl, World.ownsRow_nil _ _ _ _, Below.refl _ _, fun j h => by omega⟩
  case round =>
    obtain ⟨k, hk, rfl, hown, hB, hright⟩ := hrel
    by_cases hlt : k < 22
    · have hks : (k : Int) < (s.size : Int) := by have := HSZ.out; omega
      have hks' : k < s.size := by omega
      have hdec : decide ((k : Int) < 22) = true := decide_eq_true (by omega)
      cases hw : wrongAt s k
      · have HW := Lib.hid hw
        clear hw
        have hval : ∀ w1, Calls Tryd.prog 19 #[.int .u8 (s[k].toNat : Int)] w1 fun e w' => e = .returned (.int .i64 (valN s k : Int)) ∧ w1 = w' := fun w1 => by
          rw [getD_byte hks', ← valB_right HW.out]
          exact refValue_any _ (byte_range s k) w1
        have hv0 : (0 : Int) ≤ (valN s k : Int) := Int.natCast_nonneg _
        have hv64 := valN_lt s k
        have hbit : ∀ p, p < 6 → ((valN s k : Nat) : Int) / 2 ^ p % 2 = ((grp (bigV s) 132 1 (6 * k + (5 - p)) : Nat) : Int) := fun p hp => by
          have := bit_out 6 (vals s) (vals_lt s) (i := k) (p := p) (by rw [vals_length]; exact hlt) hp
          rw [vals_get s hlt, HLEN.out] at this
          rw [this]
          congr 3
        have HV := Lib.hid hval
        have HBIT := Lib.hid hbit
        clear hval hbit
        generalize valN s k = V at *
        go_wp2_with fail
        refine (HV.out _).mono ?_
        rintro e w1 ⟨rfl, rfl⟩
        go_wp2_with fail
        go_loopw [5, 8] (fun v q wr => ∃ t p : Nat, t + p = 6 ∧ q = .int .i64 ((p : Int) - 1) ∧ wr.ownsRow W.heap.size 3 1 v (6 * k + t) (bitsL (bigV s) 132 (6 * k + t)) ∧ Below W.heap.size W wr) (fun _ q _ => (intOf q + 1).toNat)
        case atStart => exact ⟨0, 6, rfl, rfl, hown, hB⟩
        case round =>
          obtain ⟨t, p, ht, rfl, hown2, hB2⟩ := hrel
          cases p with
          | zero =>
            obtain rfl : t = 6 := by omega
            go_wp2_with fail
            exact ⟨⟨k + 1, by omega, by go_num, hown2, hB2, fun j hj => by
              rcases Nat.lt_or_ge j k with h' | h'
              · exact hright.out j h'
              · obtain rfl : j = k := by omega
                exact HW.out⟩, by simp [intOf]; omega⟩
          | succ p =>
            have hp8 : (p : Int) < 6 := by omega
            have hbit := HBIT.out p (by omega)
            rw [show 6 * k + (5 - p) = 6 * k + t by omega] at hbit
            have hsn := bitsL_succ (bigV s) 132 (6 * k + t)
            have HSN := Lib.hid hsn
            clear hsn
            have hq0 : (0 : Int) ≤ (V : Int) / 2 ^ p := Int.ediv_nonneg (by omega) (by exact Int.le_of_lt (Int.pow_pos (by omega)))
            have hq1 : (V : Int) / 2 ^ p ≤ 255 := by
              have : V / 2 ^ p ≤ V := Nat.div_le_self _ _
              have e : (V : Int) / 2 ^ p = ((V / 2 ^ p : Nat) : Int) := by rw [Int.natCast_ediv, Int.natCast_pow]; rfl
              omega
            have HT := Lib.hid ht
            clear ht
            go_wp2_with (at_builtin; refine wpList_append_own _ rfl _ _ 66 rfl W.heap.size 3 i0 (.int .i64 0) 1 8 Tryd.underlying66 hi0 hz0 hz1 hz2 rfl (by decide) _ _ _ rfl (hown2.alloc _) ⟨wr.heap.size, 0, none⟩ 1 1 [_] rfl rfl (cell_one_new _ _ _) (by intro u hu; simp at hu; subst hu; rfl) (by have := HT.out; unfold maxLen; omega) (by have := HT.out; omega) (by simp; have := hB2.size; omega) ?_; intro v1 w1 hown1 hgrow1 hnil1)
            have hown3 : w1.ownsRow W.heap.size 3 1 v1 (6 * k + (t + 1)) (bitsL (bigV s) 132 (6 * k + (t + 1))) := by
              rw [← Nat.add_assoc, HSN.out]
              exact hown1
            have hB3 : Below W.heap.size W w1 := (hB2.alloc hB2.size _).grown hgrow1 (by simp; have := hB2.size; omega) (fun k hk => (hown2.lt k hk).1)
            clear hown1 hgrow1 hnil1 hown2
            refine ⟨⟨t + 1, p, by have := HT.out; omega, rfl, hown3, hB3⟩, by simp [intOf]⟩
      · have hval : ∀ w1, Calls Tryd.prog 19 #[.int .u8 (s[k].toNat : Int)] w1 fun e w' => e = .returned (.int .i64 (-1)) ∧ w1 = w' := fun w1 => by
          rw [getD_byte hks', ← valB_wrong hw]
          exact refValue_any _ (byte_range s k) w1
        have hp : refParseV s = .tuple #[.agg Z.toArray, .int .i64 11, .int .i64 k] := by unfold refParseV; rw [parseR_wrong HSZ.out hlt hw hright.out, HZ.out]; rfl
        have HV := Lib.hid hval
        have HP := Lib.hid hp
        have hR := rw_res (HRES.out.later hB) (Nat.le_refl _) (below_then hBW hB hBW.size) zeros16_length HZ.out
        obtain ⟨q0, hR⟩ := hR
        have HR := Lib.hid hR
        clear hval hw hp hR
        go_wp2_with fail
        refine (HV.out _).mono ?_
        rintro e w1 ⟨rfl, rfl⟩
        go_wp2_with (refine wpList_store_mid (by rfl) _ (.tmp 2) (.tmp 26) (by rfl) w.heap.size 0 Z.toArray (by rfl) (by rw [HZ.out]; rfl) (by simpa [hl] using q0) (by simpa using hi) (all_oneCell_toArray h1) ?_)
        exact bodyPost_ret (ret_cell_tmp2 rfl rfl HR.out.1 hu rfl hi) rfl ⟨by rw [HP.out]; rfl, HR.out.2⟩
    · obtain rfl : k = 22 := by omega
      have hdec : decide ((22 : Int) < 22) = false := by decide
      obtain ⟨g, cap, rfl, hg1, hg2, hcap, -, hcell⟩ := own_form hown (by omega)
      have hc : ∀ j, j < 132 → wr.cell? ⟨g, j, none⟩ = some (.int .i64 ((grp (bigV s) 132 1 j : Nat) : Int)) := fun j hj => hcell j _ (bitsL_get _ 132 hj)
      have HC := Lib.hid hc
      clear hc hcell hown
      obtain ⟨wo, rfl⟩ : ∃ wo : World, wo = wr := ⟨_, rfl⟩
      go_wp2_with fail
      go_loop [9] (fun i => ∃ t : Nat, t ≤ 4 ∧ i = .int .i64 ((128 + t : Nat) : Int) ∧ RowKit.Hid (∀ j, j < t → grp (bigV s) 132 1 (128 + j) = 0)) (fun i => 132 - (intOf i).toNat)
      case atStart => exact ⟨0, by omega, rfl, fun j hj => by omega⟩
      case round =>
        obtain ⟨t, ht, rfl, hz⟩ := hrel
        by_cases hlt4 : t < 4
        · have hdec4 : decide (((128 + t : Nat) : Int) < 132) = true := decide_eq_true (by omega)
          have hx := HC.out (128 + t) (by omega)
          have hb := grp_lt (bigV s) 132 1 (128 + t)
          by_cases h0 : grp (bigV s) 132 1 (128 + t) = 0
          · rw [h0] at hx
            have H0 := Lib.hid h0
            clear h0 hb
            go_wp2_with fail
            exact ⟨⟨t + 1, by omega, by go_num, fun j hj => by
              rcases Nat.lt_or_ge j t with h' | h'
              · exact hz.out j h'
              · obtain rfl : j = t := by omega
                exact H0.out⟩, by simp [intOf]; omega⟩
          · have h01 : grp (bigV s) 132 1 (128 + t) = 1 := by omega
            rw [h01] at hx
            have hbad : ¬ bigV s % 16 = 0 := fun h => h0 ((low_bits _).1 h t hlt4)
            have hp : refParseV s = .tuple #[.agg Z.toArray, .int .i64 11, .int .i64 21] := by unfold refParseV; rw [parseR_last HSZ.out hright.out hbad, HZ.out]; rfl
            have hR := rw_res (HRES.out.later hB) (Nat.le_refl _) (below_then hBW hB hBW.size) zeros16_length HZ.out
            obtain ⟨q0, hR⟩ := hR
            have HR := Lib.hid hR
            have HP := Lib.hid hp
            clear h0 hb h01 hR hp hbad
            go_wp2_with (refine wpList_store_mid (by rfl) _ (.tmp 2) (.tmp 51) (by rfl) w.heap.size 0 Z.toArray (by rfl) (by rw [HZ.out]; rfl) (by simpa [hl] using q0) (by simpa using hi) (all_oneCell_toArray h1) ?_)
            exact bodyPost_ret (ret_cell_tmp2 rfl rfl HR.out.1 hu rfl hi) rfl ⟨by rw [HP.out]; rfl, HR.out.2⟩
        · obtain rfl : t = 4 := by omega
          have hgood := (low_bits _).2 hz.out
          obtain ⟨Y, hY⟩ : ∃ Y, Y = cells8 (keyOfN (bigV s)) := ⟨_, rfl⟩
          obtain ⟨hi', hl', h1'⟩ : Zs Y := by rw [hY]; exact Zs.of (by simp [keyOfN])
          have hp : refParseV s = .tuple #[.agg Y.toArray, .int .i64 0, .int .i64 0] := by unfold refParseV; rw [parseR_right HSZ.out hright.out hgood, hY]; rfl
          have hof : Calls Tryd.prog 37 #[.slice (some ⟨g, 0, none⟩) 128 cap] wo fun e w' => e = .returned (.agg Y.toArray) ∧ Below wo.heap.size wo w' := by
            rw [hY]
            exact of_any (bigV s) 132 (by omega) g cap wo (fun i hi => HC.out i (by omega)) hg2
          have HP := Lib.hid hp
          have HY := Lib.hid hY
          have HOF := Lib.hid hof
          have HG := Lib.hid hgood
          clear hp hof hY hgood
          have hcap0 : (128 : Int) ≤ (cap : Int) := by omega
          go_wp2_with fail
          refine HOF.out.mono ?_
          rintro e w2 ⟨rfl, hB2⟩
          have hR := rw_res ((HRES.out.later hB).later hB2) (Nat.le_refl _) (below_then (below_then hBW hB hBW.size) hB2 (by have := hB.size; omega)) (by simp [keyOfN]) HY.out
          obtain ⟨q0, hR⟩ := hR
          have HR := Lib.hid hR
          clear hR
          go_wp2_with (refine wpList_store_mid (by rfl) _ (.tmp 2) (.tmp 54) (by rfl) w.heap.size 0 Y.toArray (by rfl) (by rfl) (by simpa [hl'] using q0) (by simpa using hi') (all_oneCell_toArray h1') ?_)
          exact bodyPost_ret (ret_cell_tmp2 rfl rfl HR.out.1 hu rfl hi') rfl ⟨by rw [HP.out]; rfl, HR.out.2⟩

theorem refParse_any (s : ByteArray) (hs : s.size ≤ 300) (w : World) :
    Calls Tryd.prog 15 #[.string s] w fun e w' => e = .returned (refParseV s) ∧ Below w.heap.size w w' := by
  by_cases h : s.size = 22
  · exact refParse_22 s h w
  · exact refParse_len s hs h w
end Go.Proofs.YtkpibmnlmmddjaaDoor
