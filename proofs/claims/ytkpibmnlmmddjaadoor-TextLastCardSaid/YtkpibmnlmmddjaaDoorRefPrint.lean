/- The reference's Print. -/
import Derived.Test.YtkpibmnlmmddjaaDoorRefOf
namespace Go.Proofs.YtkpibmnlmmddjaaDoor
open Go.RowKit

theorem news_rw {W : World} {g : Nat} {t : TypeId} {cs : Array Value} (h : Rw W g t cs) : ∀ j u, cs.toList[j]? = some u → W.cell? ((⟨g, 0, none⟩ : Addr).add j) = some u := by
  intro j u hu
  rw [Addr.add_mid, Nat.zero_add, h.cell j]
  simpa using hu

/-- The bits of the key and four zeros are the first 132 bits of the number. -/
theorem bits_132 (l : List Nat) (hl : l.length = 18) (h16 : l.getD 16 0 = 0) (h17 : l.getD 17 0 = 0) :
    bitsL (big 8 (l.take 16)) 128 128 ++ [.int .i64 0, .int .i64 0, .int .i64 0, .int .i64 0] = bitsL (big 8 l) 144 132 := by
  have e1 := big_take_succ 8 (l := l) (r := 16) (by omega)
  have e2 := big_take_succ 8 (l := l) (r := 17) (by omega)
  rw [List.take_of_length_le (by omega), h17] at e2
  rw [h16] at e1
  have hN : big 8 l = big 8 (l.take 16) * 2 ^ 16 := by rw [e2, e1]; omega
  have hA : bitsL (big 8 l) 144 128 = bitsL (big 8 (l.take 16)) 128 128 := by
    unfold bitsL
    refine List.map_congr_left fun j hj => ?_
    have hj := List.mem_range.1 hj
    rw [hN, grp_shift _ 16 128 1 j (by omega)]
  have hz : ∀ j, 128 ≤ j → j < 132 → grp (big 8 l) 144 1 j = 0 := fun j h1 h2 => by
    unfold grp
    have : j = 128 ∨ j = 129 ∨ j = 130 ∨ j = 131 := by omega
    rw [hN]
    rcases this with rfl | rfl | rfl | rfl <;> omega
  rw [bitsL_succ _ _ 131, bitsL_succ _ _ 130, bitsL_succ _ _ 129, bitsL_succ _ _ 128, hA, hz 128, hz 129, hz 130, hz 131] <;> first | omega | simp

set_option maxRecDepth 100000 in
set_option maxHeartbeats 1000000 in
theorem refPrint_any (l : List Nat) (hl : l.length = 18) (hb : ∀ x ∈ l, x < 2 ^ 8) (h16 : l.getD 16 0 = 0) (h17 : l.getD 17 0 = 0) (w : World) :
    Calls Tryd.prog 14 #[arr (l.take 16)] w fun e w' => e = .returned (.string ⟨((chars (big 8 l) 22).map fun c => UInt8.ofNat c.toNat).toArray⟩) ∧ Below w.heap.size w w' := by
  obtain ⟨K, hK⟩ : ∃ K, K = l.take 16 := ⟨_, rfl⟩
  have hKl : K.length = 16 := by rw [hK]; simp [hl]
  have hKb : ∀ x ∈ K, x < 2 ^ 8 := fun x hx => hb x (List.mem_of_mem_take (by rw [hK] at hx; exact hx))
  have h132 := bits_132 l hl h16 h17
  rw [← hK] at h132 ⊢
  clear hK h16 h17 hl hb
  generalize big 8 l = N at *
  obtain ⟨i0, hi0, hz0, hz1, hz2⟩ := info_parts infoInt
  obtain ⟨i5, hi5, hy0, hy1, hy2⟩ := info_parts info5
  have hbits : ∀ w1 : World, Rw w1 w.heap.size 22 (cells8 K).toArray → Calls Tryd.prog 36 #[.slice (some ⟨w.heap.size, 0, none⟩) 16 16] w1 fun e w' => ∃ v, e = .returned v ∧ w'.ownsRow w1.heap.size 3 1 v 128 (bitsL (big 8 K) 128 128) ∧ Below w1.heap.size w1 w' := fun w1 h1 => by
    have := bits_any K (by omega) hKb w.heap.size 16 w1 (fun i hi => h1.cell8 hi) h1.lt
    rw [hKl] at this
    exact this
  unfold arr
  have hcs : (cells8 K).length = 16 := by rw [cells8_length, hKl]
  have HB := Lib.hid hbits
  have H1 := Lib.hid h132
  clear hbits h132 hKl hKb
  generalize bitsL (big 8 K) 128 128 = B0 at *
  generalize cells8 K = CS at *
  go_enter Tryd.func14, Tryd.ntmps14
  go_wp2_with fail
  refine (HB.out _ (Rw.made w _ _)).mono ?_
  rintro e w1 ⟨v, rfl, hown, hB⟩
  have hB1 : Below w.heap.size w w1 := below_then ((Below.refl _ _).alloc (Nat.le_refl _) _) hB (by simp)
  have hz1' : w.heap.size + 1 ≤ w1.heap.size := by have := hB.size; simp at this; omega
  have hown' : w1.ownsRow (w.heap.size + 1) 3 1 v 128 B0 := by simpa using hown
  clear hown hB
  go_wp2_with (at_builtin; refine wpList_append_own _ rfl _ _ 66 rfl (w.heap.size + 1) 3 i0 (.int .i64 0) 1 8 Tryd.underlying66 hi0 hz0 hz1 hz2 rfl (by decide) _ _ _ rfl (hown'.alloc _) ⟨w1.heap.size, 0, none⟩ 4 4 _ rfl rfl (news_rw (Rw.made w1 _ _)) (by intro u hu; simp at hu; subst hu; rfl) (by unfold maxLen; omega) (by omega) (by simp; omega) ?_; intro v1 w2 hown1 hgrow1 hnil1)
  have hown3 : w2.ownsRow (w.heap.size + 1) 3 1 v1 132 (bitsL N 144 132) := by
    rw [← H1.out]
    simpa using hown1
  have hB2 : Below w.heap.size w w2 := (hB1.alloc hB1.size _).grown hgrow1 (by simp; omega) (fun k hk => by have := (hown'.lt k hk).1; omega)
  clear hown1 hgrow1 hnil1 hown'
  obtain ⟨g, cap, rfl, hg1, hg2, -, -, hcell⟩ := own_form hown3 (by omega)
  clear hown3
  have hc : ∀ j, j < 132 → w2.cell? ⟨g, j, none⟩ = some (.int .i64 ((grp N 144 1 j : Nat) : Int)) := fun j hj => hcell j _ (bitsL_get N 144 hj)
  have HC := Lib.hid hc
  clear hc hcell
  go_loopw [5, 6] (fun v i wr => ∃ r : Nat, r ≤ 22 ∧ i = .int .i64 r ∧ wr.ownsRow w2.heap.size 5 1 v r ((chars N r).map (Value.int .u8)) ∧ Below w2.heap.size w2 wr) (fun _ i _ => 22 - (intOf i).toNat)
  case atStart => exact ⟨0, by omega, rfl, World.ownsRow_nil _ _ _ _, Below.refl _ _⟩
  case round =>
    obtain ⟨r, hr, rfl, hown, hB⟩ := hrel
    by_cases hlt : r < 22
    · have hdec : decide ((r : Int) < 22) = true := decide_eq_true (by omega)
      go_wp2_with fail
      go_loop [7, 8] (fun v k => ∃ t : Nat, t ≤ 6 ∧ k = .int .i64 t ∧ v = .int .i64 ((N / 2 ^ (144 - (6 * r + t)) % 2 ^ t : Nat) : Int)) (fun _ k => 6 - (intOf k).toNat)
      case atStart => exact ⟨0, by omega, rfl, by simp [Nat.mod_one]⟩
      case round =>
        obtain ⟨t, ht, rfl, rfl⟩ := hrel
        by_cases hlt2 : t < 6
        · have hx : wr.cell? ⟨g, 6 * r + t, none⟩ = some (.int .i64 ((grp N 144 1 (6 * r + t) : Nat) : Int)) := (hB.cell hg2).trans (HC.out _ (by omega))
          have hst := grp_step N 144 (6 * r) t (by omega)
          have hv : N / 2 ^ (144 - (6 * r + t)) % 2 ^ t < 64 := Nat.lt_of_lt_of_le (Nat.mod_lt _ (Nat.two_pow_pos _)) (Nat.pow_le_pow_right (n := 2) (j := 6) (by omega) (by omega))
          have hb := grp_lt N 144 1 (6 * r + t)
          have HST := Lib.hid hst
          clear hst
          generalize N / 2 ^ (144 - (6 * r + t)) % 2 ^ t = V at *
          generalize grp N 144 1 (6 * r + t) = b at *
          go_wp2_with fail
          refine ⟨⟨t + 1, by omega, by go_num, by rw [← HST.out]; go_num⟩, by simp [intOf]; omega⟩
        · obtain rfl : t = 6 := by omega
          have hG : N / 2 ^ (144 - (6 * r + 6)) % 2 ^ 6 = grp N 144 6 r := by unfold grp; rw [show 6 * (r + 1) = 6 * r + 6 by omega]
          rw [hG]
          clear hG
          have hG := grp_lt N 144 6 r
          have hcs2 := chars_succ N r
          have HCS := Lib.hid hcs2
          clear hcs2
          generalize grp N 144 6 r = G at *
          have hG64 : (G : Int) < 64 := by omega
          go_wp2_with (at_builtin; refine wpList_append_own _ rfl _ _ 38 rfl w2.heap.size 5 i5 (.int .u8 0) 1 1 Tryd.underlying38 hi5 hy0 hy1 hy2 rfl (by decide) _ _ _ rfl (hown.alloc _) ⟨wr.heap.size, 0, none⟩ 1 1 [_] rfl rfl (cell_one_new _ _ _) (by intro u hu; simp at hu; subst hu; rfl) (by unfold maxLen; omega) (by omega) (by simp; have := hB.size; omega) ?_; intro v1 w3 hown1 hgrow1 hnil1)
          have hown3 : w3.ownsRow w2.heap.size 5 1 v1 (r + 1) ((chars N (r + 1)).map (Value.int .u8)) := by
            rw [HCS.out, List.map_append, List.map_singleton, ← alphabet_get (by have := alphabet_size; omega)]
            exact hown1
          have hB3 : Below w2.heap.size w2 w3 := (hB.alloc hB.size _).grown hgrow1 (by simp; have := hB.size; omega) (fun k hk => (hown.lt k hk).1)
          clear hown1 hnil1 hgrow1 hown
          exact ⟨⟨r + 1, by omega, by go_num, hown3, hB3⟩, by simp [intOf]; omega⟩
    · obtain rfl : r = 22 := by omega
      have hcv := own_string (P := Tryd.prog) hown 38 9 Tryd.underlying38 Tryd.underlying5 Tryd.underlying9
      go_wp2
      go_ret
      exact ⟨rfl, hB2.trans (hB.mono hB2.size)⟩
end Go.Proofs.YtkpibmnlmmddjaaDoor
