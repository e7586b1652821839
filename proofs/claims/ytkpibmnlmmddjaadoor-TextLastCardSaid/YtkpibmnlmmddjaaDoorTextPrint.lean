/- text.Print, walked. -/
import Derived.Test.YtkpibmnlmmddjaaDoorTextBits
import Derived.Test.YtkpibmnlmmddjaaDoorOwn
import Derived.Test.YtkpibmnlmmddjaaDoorTextGrp
import Derived.OwnWalk
namespace Go.Proofs.YtkpibmnlmmddjaaDoor
open Go.RowKit

/-- The first e characters of the text of a key, N: the key and two bytes of zero as a number. -/
def chars (N e : Nat) : List Int := (List.range e).map fun j => (charN (grp N 144 6 j) : Int)

/-- How many characters stand after r bytes. -/
def done (r : Nat) : Nat := min 22 (8 * r / 6)

/-- The character that is appended: six bits out of the register. -/
theorem six_held (l : List Nat) (hl : l.length = 18) (hb : ∀ x ∈ l, x < 2 ^ 8) {r e : Nat} (hr : r < 18) (he : 6 * (e + 1) ≤ 8 * (r + 1)) (hd : 8 * (r + 1) - 6 * e ≤ 32) :
    bits BinOp.and IntKind.u32 (((big 8 (l.take (r + 1)) : Nat) : Int) % 4294967296 / 2 ^ (8 * (r + 1) - 6 * e - 6)) 63 = ((grp (big 8 l) 144 6 e : Nat) : Int) := by
  have hm : 8 * (r + 1) - 6 * e - 6 = 8 * (r + 1) - 6 * (e + 1) := by omega
  have hg := grp_held 8 l hb hl (r := r + 1) (m := 6) (j := e) (by omega) he (by omega)
  rw [hm, ← hg]
  generalize big 8 (l.take (r + 1)) = A
  generalize 8 * (r + 1) - 6 * (e + 1) = k
  have e1 : ((A : Nat) : Int) % 4294967296 / 2 ^ k = ((A % 2 ^ 32 / 2 ^ k : Nat) : Int) := by
    rw [Int.natCast_ediv, Int.natCast_pow, Int.natCast_emod]
    rfl
  have hlt : A % 2 ^ 32 / 2 ^ k < 4294967296 := Nat.lt_of_le_of_lt (Nat.div_le_self _ _) (Nat.mod_lt _ (by decide))
  rw [e1, show (63 : Int) = ((63 : Nat) : Int) from rfl, u32_and_nat _ _ hlt (by decide), Nat.and_two_pow_sub_one_eq_mod _ 6]

theorem chars_succ (N e : Nat) : chars N (e + 1) = chars N e ++ [(charN (grp N 144 6 e) : Int)] := by simp [chars, List.range_succ]
theorem chars_length (N e : Nat) : (chars N e).length = e := by simp [chars]

theorem alphabet_get {G : Nat} (h : G < alphabet.size) : (alphabet[G]'h).toNat = charN G := by
  have hlt : G < alphabet.data.size := h
  unfold charN
  rw [Array.getD, dif_pos hlt]
  rfl

theorem info5 : (Tryd.prog.info? 5).map (fun i => (i.zero, i.size, i.bytes)) = some (some (.int .u8 0), 1, 1) := by kernel_rfl

theorem third_cell (w : World) (X Y : Obj) (C : Array Value) (t : TypeId) (i : Nat) : (((w.alloc X).alloc Y).alloc (.cells C t)).drew.cell? ⟨w.heap.size + 1 + 1, i, none⟩ = C[i]? := by
  have h := (Rw.made ((w.alloc X).alloc Y) t C).cell i
  have e : ((w.alloc X).alloc Y).heap.size = w.heap.size + 1 + 1 := by simp
  rw [e] at h
  exact h

set_option maxRecDepth 100000 in
set_option maxHeartbeats 1000000 in
theorem print_any (l : List Nat) (hl : l.length = 18) (hb : ∀ x ∈ l, x < 2 ^ 8) (h16 : l.getD 16 0 = 0) (h17 : l.getD 17 0 = 0) (w : World) :
    Calls Tryd.prog 12 #[.agg ((l.take 16).map fun n : Nat => Value.int .u8 (n : Int)).toArray] w fun e w' => e = .returned (.string ⟨((chars (big 8 l) 22).map fun c => UInt8.ofNat c.toNat).toArray⟩) ∧ Below w.heap.size w w' := by
  have hlen : ((l.take 16).map fun n : Nat => Value.int .u8 (n : Int)).length = 16 := by simp [hl]
  have hget : ∀ i, i < 16 → ((l.take 16).map fun n : Nat => Value.int .u8 (n : Int))[i]? = some (.int .u8 (l.getD i 0 : Nat)) := fun i hi => by
    simp [List.getElem?_take, hi, List.getD, show i < l.length by omega]
  generalize ((l.take 16).map fun n : Nat => Value.int .u8 (n : Int)) = bs at *
  obtain ⟨i0, hi0, hz0, hz1, hz2⟩ := info_parts info5
  have HG := Lib.hid hget
  clear hget
  go_enter Tryd.func12, Tryd.ntmps12
  go_wp2_with fail
  generalize hW : World.drew _ = W
  have hcell : ∀ i, i < 18 → W.cell? ⟨w.heap.size + 1 + 1, i, none⟩ = some (.int .u8 (l.getD i 0 : Nat)) := by
    intro i hi
    rw [← hW]
    refine (third_cell _ _ _ _ _ i).trans ?_
    rcases Nat.lt_or_ge i 16 with h | h
    · rw [Array.getElem?_append_left (by simpa using h)]
      have h2 := HG.out i h
      have hi16 : i = 0 ∨ i = 1 ∨ i = 2 ∨ i = 3 ∨ i = 4 ∨ i = 5 ∨ i = 6 ∨ i = 7 ∨ i = 8 ∨ i = 9 ∨ i = 10 ∨ i = 11 ∨ i = 12 ∨ i = 13 ∨ i = 14 ∨ i = 15 := by omega
      rw [List.getElem?_eq_getElem (by omega)] at h2
      rcases hi16 with rfl | rfl | rfl | rfl | rfl | rfl | rfl | rfl | rfl | rfl | rfl | rfl | rfl | rfl | rfl | rfl <;> exact h2
    · rw [Array.getElem?_append_right (by simpa using h), Array.getElem?_append_left (by simp; omega)]
      have hi2 : i = 16 ∨ i = 17 := by omega
      rcases hi2 with rfl | rfl
      · rw [h16]; rfl
      · rw [h17]; rfl
  have hBW : Below w.heap.size w W := by
    rw [← hW]
    exact ((((Below.refl _ _).alloc (Nat.le_refl _) _).alloc (by simp) _).alloc (by simp; omega) _).trans (below_draws _ 1 |>.mono (by simp; omega))
  have hWs : w.heap.size + 3 ≤ W.heap.size := by
    rw [← hW]
    simp
  clear hW HG
  have HC := Lib.hid hcell
  clear hcell
  go_loopw [3, 4, 5, 12] (fun v h a i wr => ∃ r : Nat, r ≤ 18 ∧ i = .int .i64 r ∧ h = .int .u32 (((big 8 (l.take r) : Nat) : Int) % 4294967296) ∧ a = .int .i64 ((8 * r - 6 * done r : Nat) : Int) ∧
      wr.ownsRow W.heap.size 5 1 v (done r) ((chars (big 8 l) (done r)).map (Value.int .u8)) ∧ Below W.heap.size W wr) (fun _ _ _ i _ => 18 - (intOf i).toNat)
  case atStart => exact ⟨0, by omega, rfl, rfl, rfl, World.ownsRow_nil _ _ _ _, Below.refl _ _⟩
  case round =>
    obtain ⟨r, hr, rfl, rfl, rfl, hown, hB⟩ := hrel
    by_cases hlt : r < 18
    · have hlr : r < l.length := by omega
      have hgr : l.getD r 0 = l[r] := by simp [List.getD, hlr]
      have hx : wr.cell? ⟨w.heap.size + 1 + 1, r, none⟩ = some (.int .u8 (l[r] : Nat)) := (hB.cell (by simp; omega)).trans (by rw [← hgr]; exact HC.out r hlt)
      have hh := held8 (big 8 (l.take r)) l[r] (hb _ (List.getElem_mem hlr))
      rw [← hgr, ← big_take_succ 8 hlr, hgr] at hh
      have hdec : decide ((r : Int) < 18) = true := decide_eq_true (by omega)
      have hd : 6 * done r ≤ 8 * r := by unfold done; omega
      go_wp2_with fail
      go_loopw [3, 5] (fun v a wr => ∃ e : Nat, done r ≤ e ∧ e ≤ done (r + 1) ∧ a = .int .i64 ((8 * (r + 1) - 6 * e : Nat) : Int) ∧
        wr.ownsRow W.heap.size 5 1 v e ((chars (big 8 l) e).map (Value.int .u8)) ∧ Below W.heap.size W wr) (fun _ a _ => (intOf a).toNat)
      case atStart => exact ⟨done r, Nat.le_refl _, by unfold done; omega, by go_num, hown, hB⟩
      case round =>
        obtain ⟨e, he1, he2, rfl, hown2, hB2⟩ := hrel
        have hL : ∀ w : World, (Builtin.len_ #[38] 3 #[u3]).run Tryd.prog w = .ok (goInt e) w := by
          intro w
          rcases hown2.2 with ⟨rfl, rfl⟩ | ⟨g, cap, cur, rfl, _⟩
          · simp [Builtin.len_, run_underlying Tryd.underlying38]
          · simp [Builtin.len_, run_underlying Tryd.underlying38]
        by_cases hmore : e < done (r + 1)
        · have h1 : 6 * (e + 1) ≤ 8 * (r + 1) ∧ e < 22 ∧ 8 * (r + 1) - 6 * e ≤ 14 := by unfold done at hmore he1 he2; omega
          obtain ⟨h1, h2, h3⟩ := h1
          have hsix := six_held l hl hb hlt h1 (by omega)
          have hp := pick_alpha ((grp (big 8 l) 144 6 e : Nat) : Int) ⟨by omega, by have := grp_lt (big 8 l) 144 6 e; omega⟩
          rw [Int.toNat_natCast] at hp
          have hG : ((grp (big 8 l) 144 6 e : Nat) : Int) < 64 := by have := grp_lt (big 8 l) 144 6 e; omega
          have h6 : (0 : Int) ≤ ((8 * (r + 1) - 6 * e : Nat) : Int) - 6 := by omega
          have hcs := chars_succ (big 8 l) e
          have HCS := Lib.hid hcs
          clear hcs
          generalize grp (big 8 l) 144 6 e = G at *
          generalize hCH : (chars (big 8 l) e).map (Value.int .u8) = XS at *
          have HCH := Lib.hid hCH
          clear hCH
          go_wp2_with (at_builtin; refine wpList_append_own _ rfl _ _ 38 rfl W.heap.size 5 i0 (.int .u8 0) 1 1 Tryd.underlying38 hi0 hz0 hz1 hz2 rfl (by decide) _ _ _ rfl (hown2.alloc _) ⟨wr.heap.size, 0, none⟩ 1 1 [_] rfl rfl (cell_one_new _ _ _) (by intro u hu; simp at hu; subst hu; rfl) (by unfold maxLen; omega) (by omega) (by simp; have := hB2.size; omega) ?_; intro v1 w1 hown1 hgrow1 hnil1)
          have hown3 : w1.ownsRow W.heap.size 5 1 v1 (e + 1) ((chars (big 8 l) (e + 1)).map (Value.int .u8)) := by
            rw [HCS.out, List.map_append, HCH.out, List.map_singleton, ← alphabet_get (by have := alphabet_size; omega)]
            exact hown1
          have hB3 : Below W.heap.size W w1 := (hB2.alloc hB2.size _).grown hgrow1 (by simp; have := hB2.size; omega) (fun k hk => (hown2.lt k hk).1)
          clear hown1 hnil1 hgrow1 hown2
          go_wp2
          go_roundw
          case rel => exact ⟨e + 1, by omega, by omega, by first | go_num | (congr 1; omega), hown3, hB3⟩
          case measure => simp [intOf]; omega
        · obtain rfl : e = done (r + 1) := by omega
          by_cases h6 : 6 ≤ 8 * (r + 1) - 6 * done (r + 1)
          · have h22 : 22 ≤ done (r + 1) := by unfold done at h6 ⊢; omega
            go_wp2
            exact ⟨⟨r + 1, by omega, by go_num, rfl, rfl, hown2, hB2⟩, by simp [intOf]; omega⟩
          · go_wp2
            exact ⟨⟨r + 1, by omega, by go_num, rfl, rfl, hown2, hB2⟩, by simp [intOf]; omega⟩
    · obtain rfl : r = 18 := by omega
      have hcv := own_string (P := Tryd.prog) hown 38 9 Tryd.underlying38 Tryd.underlying5 Tryd.underlying9
      go_wp2
      go_ret
      exact ⟨rfl, hBW.trans (hB.mono (by omega))⟩
end Go.Proofs.YtkpibmnlmmddjaaDoor
