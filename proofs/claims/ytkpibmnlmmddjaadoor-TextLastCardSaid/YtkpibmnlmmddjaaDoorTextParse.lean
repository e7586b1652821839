/- text.Parse, walked. -/
import Derived.Test.YtkpibmnlmmddjaaDoorTextParsePure
import Derived.Test.YtkpibmnlmmddjaaDoorTextBits
import Derived.Deep.RegionHeld3
import Derived.Deep.WholeRow
namespace Go.Proofs.YtkpibmnlmmddjaaDoor
open Go.RowKit

theorem size22 : (Tryd.prog.info? 22).map (·.size) = some 16 := by kernel_rfl

/-- Six bits into the register; eight bits out of it. -/
theorem six_in (s : ByteArray) {k : Nat} (hk : k < 22) :
    bits BinOp.or IntKind.u32 (((big 6 ((vals s).take k) : Nat) : Int) % 4294967296 * 64 % 4294967296) ((valN s k : Nat) : Int) = ((big 6 ((vals s).take (k + 1)) : Nat) : Int) % 4294967296 := by
  have h := big_take_succ 6 (l := vals s) (r := k) (by rw [vals_length]; exact hk)
  rw [vals_get s hk] at h
  have hv := valN_lt s k
  have h6 := held6 (big 6 ((vals s).take k)) (valN s k) hv
  rw [show ((valN s k : Nat) : Int) % 4294967296 = (valN s k : Nat) by omega] at h6
  rw [h]
  exact h6

theorem eight_out (s : ByteArray) {k n : Nat} (hk : k < 22) (hn : 8 * (n + 1) ≤ 6 * (k + 1)) (hd : 6 * (k + 1) - 8 * (n + 1) ≤ 8) :
    ((big 6 ((vals s).take (k + 1)) : Nat) : Int) % 4294967296 / 2 ^ (6 * (k + 1) - 8 * (n + 1)) % 256 = ((grp (bigV s) 132 8 n : Nat) : Int) := by
  have hg := grp_held 6 (vals s) (vals_lt s) (vals_length s) (r := k + 1) (m := 8) (j := n) (by omega) hn (by omega)
  unfold bigV
  rw [← hg]
  generalize big 6 ((vals s).take (k + 1)) = A
  generalize 6 * (k + 1) - 8 * (n + 1) = e
  rw [Int.natCast_emod, Int.natCast_ediv, Int.natCast_pow, Int.natCast_emod]
  rfl

theorem new_same (c a : Int) (w : World) : Calls Tryd.prog 35 #[.int .i64 c, .int .i64 a] w fun e w' => e = .returned (.iface 72 (.agg #[.int .i64 c, .int .i64 a])) ∧ w = w' := by
  go_enter Tryd.func35, Tryd.ntmps35
  go_wp2
  go_ret
  exact ⟨rfl, rfl⟩

/-- The two blocks of an array that a function returns: the result's, the variable's. -/
structure Two (w W : World) (l : List Nat) : Prop where
  res : Rw W w.heap.size 22 (cells8 zeros16).toArray
  var : Rw W (w.heap.size + 1) 22 (cells8 l).toArray
  below : Below w.heap.size w W

theorem Two.start (w : World) : Two w ((w.alloc (.cells (cells8 zeros16).toArray 22)).alloc (.cells (cells8 zeros16).toArray 22)) zeros16 := by
  refine ⟨(Rw.made w _ _).alloc _, ?_, ((Below.refl _ _).alloc (Nat.le_refl _) _).alloc (by simp) _⟩
  have := Rw.made (w.alloc (.cells (cells8 zeros16).toArray 22)) 22 (cells8 zeros16).toArray
  simpa using this

theorem Two.later {w W W' : World} {l : List Nat} (h : Two w W l) (hb : Below W.heap.size W W') : Two w W' l :=
  ⟨h.res.later hb, h.var.later hb, below_then h.below hb (by have := h.res.lt; omega)⟩

theorem Two.draw {w W : World} {l : List Nat} (h : Two w W l) : Two w W.drew l := ⟨h.res, h.var, h.below.trans (below_draws W 1 |>.mono h.below.size)⟩

/-- What is returned when the array m was stored for a result. -/
theorem Two.ret {w W : World} {l m : List Nat} (h : Two w W l) (hm : m.length = 16) : (W.setCells w.heap.size 0 (cells8 m)).rangeAt w.heap.size 0 (cells8 m) ∧ Below w.heap.size w (W.setCells w.heap.size 0 (cells8 m)) :=
  ⟨(h.res.setCells hm).range, below_setCells (Nat.le_refl _) _ _ _ h.below⟩

theorem size_cells {m : List Nat} (hm : m.length = 16) : (Tryd.prog.info? 22).map (·.size) = some (cells8 m).length := by rw [cells8_length, hm]; exact size22

/-- What the walks need of a world that holds the two blocks, the cells of the result's a letter. -/
structure Set2 (w W : World) (Z Y : List Value) : Prop where
  there : W.there w.heap.size 0 16
  range : W.rangeAt (w.heap.size + 1) 0 Y
  retZ : (W.drew.setCells w.heap.size 0 Z).rangeAt w.heap.size 0 Z ∧ Below w.heap.size w (W.drew.setCells w.heap.size 0 Z)
  retZ' : (W.setCells w.heap.size 0 Z).rangeAt w.heap.size 0 Z ∧ Below w.heap.size w (W.setCells w.heap.size 0 Z)
  retY : (W.setCells w.heap.size 0 Y).rangeAt w.heap.size 0 Y ∧ Below w.heap.size w (W.setCells w.heap.size 0 Y)

theorem Two.set {w W : World} {l : List Nat} (h : Two w W l) (hl : l.length = 16) {Z Y : List Value} (hZ : Z = cells8 zeros16) (hY : Y = cells8 l) : Set2 w W Z Y := by
  subst hZ
  subst hY
  exact ⟨h.res.there rfl, h.var.range, h.draw.ret zeros16_length, h.ret zeros16_length, h.ret hl⟩

structure Zs (Z : List Value) : Prop where
  info : (Tryd.prog.info? 22).map (·.size) = some Z.length
  len : Z.length = 16
  one : ∀ v ∈ Z, v.oneCell' = true
theorem Zs.of {l : List Nat} (hl : l.length = 16) : Zs (cells8 l) := ⟨size_cells hl, by rw [cells8_length, hl], cells8_one l⟩

set_option maxRecDepth 100000 in
set_option maxHeartbeats 2000000 in
theorem parse_len (s : ByteArray) (hs : s.size ≤ 300) (hn : ¬ s.size = 22) (w : World) :
    Calls Tryd.prog 13 #[.string s] w fun e w' => e = .returned (parseV s) ∧ Below w.heap.size w w' := by
  have hne : ((s.size : Int) != 22) = true := by simp; omega
  obtain ⟨Z, hZ⟩ : ∃ Z, Z = cells8 zeros16 := ⟨_, rfl⟩
  have hp : parseV s = .tuple #[.agg Z.toArray, .iface 72 (.agg #[.int .i64 4, .int .i64 s.size])] := by unfold parseV; rw [parseR_len hn, hZ]; rfl
  rw [hp]
  clear hp
  have hu := Tryd.underlying22
  obtain ⟨hi, hl, h1⟩ : Zs Z := by rw [hZ]; exact Zs.of rfl
  have HZ := Lib.hid hZ
  clear hZ
  go_enter Tryd.func13, Tryd.ntmps13
  go_wp2_with fail
  go_step3
  go_wp2_with fail
  generalize hE : World.alloc (World.alloc w _) _ = W
  have hS : Set2 w W Z Z := by rw [← hE]; exact (Two.start w).set rfl HZ.out HZ.out
  clear hE
  have q0 := hS.there
  have q1 := hS.range
  have HS := Lib.hid hS
  clear hS
  go_region_held3 (fun w' => w'.rangeAt (w.heap.size + 1) 0 (Z) ∧ w'.there w.heap.size 0 16) (go_keep_ranges) (first | (go_at_call 35; refine (new_same _ _ _).mono ?_; rintro e w' ⟨rfl, rfl⟩))
  go_wp2_with fail
  (try rw [Exit.noGoto_ret])
  refine bodyPost_ret (ret_cell_tmp rfl rfl HS.out.retZ.1 hu rfl hi) rfl ⟨rfl, HS.out.retZ.2⟩

/-- After k characters: c bytes are out, m bits are held, la is the last value. -/
structure PRel (w : World) (s : ByteArray) (k c m la : Nat) (wr : World) : Prop where
  hk : k ≤ 22
  hc : 8 * c ≤ 6 * k
  hc2 : 6 * k < 8 * c + 8
  hm : m + 8 * c = 6 * k
  la64 : la < 64
  last : k = 22 → la = valN s 21
  right : ∀ j, j < k → wrongAt s j = false
  two : Two w wr (keyPart (bigV s) c)

theorem PRel.more {w : World} {s : ByteArray} {k c m la : Nat} {wr w1 : World} (h : PRel w s k c m la wr) (hlt : k < 22 ∧ m + 6 < 8) (hB : Below wr.heap.size wr w1) (hw : wrongAt s k = false) : PRel w s (k + 1) c (m + 6) (valN s k) w1 := by
  obtain ⟨h1, h2⟩ := hlt
  have h3 := h.hm
  have h4 := h.hc2
  refine ⟨by omega, by omega, by omega, by omega, valN_lt s k, fun e => by rw [show k = 21 by omega], fun j hj => ?_, h.two.later hB⟩
  rcases Nat.lt_or_ge j k with h' | h'
  · exact h.right j h'
  · obtain rfl : j = k := by omega
    exact hw

theorem PRel.next {w : World} {s : ByteArray} {k c p la : Nat} {wr w1 : World} (h : PRel w s k c (p + 2) la wr) (hlt : k < 22 ∧ p < 6) (hB : Below wr.heap.size wr w1) (hw : wrongAt s k = false) : PRel w s (k + 1) (c + 1) p (valN s k) (w1.setCell ⟨w.heap.size + 1, c, none⟩ (.int .u8 ((grp (bigV s) 132 8 c : Nat) : Int))) := by
  obtain ⟨h1, h2⟩ := hlt
  have h3 := h.hm
  have h4 := h.hc2
  have h5 := h.two.later hB
  have h6 := h.two.below.size
  have hE : Below w.heap.size w1 (w1.setCell ⟨w.heap.size + 1, c, none⟩ (.int .u8 ((grp (bigV s) 132 8 c : Nat) : Int))) := (Below.refl _ _).setCell (by show w.heap.size ≤ w.heap.size + 1; omega) _
  refine ⟨by omega, by omega, by omega, by omega, valN_lt s k, fun e => by rw [show k = 21 by omega], fun j hj => ?_, ⟨h5.res.other (by show w.heap.size ≠ w.heap.size + 1; omega) _, ?_, h5.below.trans hE⟩⟩
  · rcases Nat.lt_or_ge j k with h' | h'
    · exact h.right j h'
    · obtain rfl : j = k := by omega
      exact hw
  · rw [← keyPart_succ _ (by omega)]
    exact h5.var.put8 c _

set_option maxRecDepth 100000 in
set_option maxHeartbeats 2000000 in
theorem parse_22 (s : ByteArray) (hs : s.size = 22) (w : World) (he : TEnv w) :
    Calls Tryd.prog 13 #[.string s] w fun e w' => e = .returned (parseV s) ∧ Below w.heap.size w w' := by
  have hne : ((s.size : Int) != 22) = false := by simp; omega
  obtain ⟨Z, hZ⟩ : ∃ Z, Z = cells8 zeros16 := ⟨_, rfl⟩
  have hu := Tryd.underlying22
  obtain ⟨hi, hl, h1⟩ : Zs Z := by rw [hZ]; exact Zs.of rfl
  have HZ := Lib.hid hZ
  clear hZ
  have HSZ := Lib.hid hs
  clear hs
  go_enter Tryd.func13, Tryd.ntmps13
  go_wp2_with fail
  go_step3
  go_wp2_with fail
  generalize hE : World.alloc (World.alloc w _) _ = W
  have hT : Two w W (keyPart (bigV s) 0) := by rw [← hE, keyPart_zero]; exact Two.start w
  clear hE
  have HT := Lib.hid hT
  clear hT
  go_step3
  go_wp2_with fail
  go_loopw [5, 6, 7, 8, 17] (fun h a n l i wr => ∃ k c m la : Nat, h = .int .u32 (((big 6 ((vals s).take k) : Nat) : Int) % 4294967296) ∧ a = .int .i64 m ∧ n = .int .i64 c ∧ l = .int .i64 la ∧ i = .int .i64 k ∧ PRel w s k c m la wr) (fun _ _ _ _ i _ => 22 - (intOf i).toNat)
  case atStart => exact ⟨0, 0, 0, 0, rfl, rfl, rfl, rfl, rfl, ⟨by omega, by omega, by omega, by omega, by omega, fun h => by omega, fun j h => by omega, HT.out⟩⟩
  case round =>
    obtain ⟨k, c, m, la, rfl, rfl, rfl, rfl, rfl, hR⟩ := hrel
    have HR := Lib.hid hR
    clear hR
    by_cases hlt : k < 22
    · have hks : (k : Int) < (s.size : Int) := by have := HSZ.out; omega
      have hks' : k < s.size := by omega
      have hdec : decide ((k : Int) < 22) = true := decide_eq_true (by omega)
      cases hw : wrongAt s k
      · have HW := Lib.hid hw
        clear hw
        have hval : ∀ w1, TEnv w1 → Calls Tryd.prog 17 #[.int .u8 (s[k].toNat : Int)] w1 fun e w' => e = .returned (.int .i64 (valN s k : Int)) ∧ Below w1.heap.size w1 w' := fun w1 h1 => by
          rw [getD_byte hks', ← valB_right HW.out]
          exact value_any _ (byte_range s k) w1 h1
        have hv0 : (0 : Int) ≤ (valN s k : Int) := Int.natCast_nonneg _
        have hv64 := valN_lt s k
        have hin := six_in s hlt
        have HIN := Lib.hid hin
        have hm8 : m < 8 := by have := HR.out.hm; have := HR.out.hc2; omega
        have HV := Lib.hid hval
        clear hval
        go_wp2_with fail
        refine (HV.out _ (he.later HR.out.two.below)).mono ?_
        rintro e w1 ⟨rfl, hB⟩
        by_cases hc : m + 6 < 8
        · have hdec2 : decide ((m : Int) + 6 < 8) = true := decide_eq_true (by omega)
          go_wp2_with fail
          refine ⟨⟨k + 1, c, m + 6, valN s k, rfl, by go_num, rfl, rfl, by go_num, HR.out.more (by omega) hB HW.out⟩, by simp [intOf]; omega⟩
        · obtain ⟨p, rfl⟩ : ∃ p, m = p + 2 := ⟨m - 2, by omega⟩
          have hdec2 : decide ((p : Int) + 2 + 6 < 8) = false := decide_eq_false (by omega)
          have hp := HR.out.hm
          have hp2 := HR.out.hc2
          have hout := eight_out s hlt (n := c) (by omega) (by omega)
          rw [show 6 * (k + 1) - 8 * (c + 1) = p by omega] at hout
          have hc16 : (c : Int) < 16 := by omega
          have h2 := HR.out.two.later hB
          have x0 := h2.var.cell8 (i := c) (by rw [keyPart_length]; omega)
          have x1 := h2.var.free c
          have H2 := Lib.hid h2
          have HP := Lib.hid hp
          clear h2 hp hp2
          go_wp2_with fail
          refine ⟨⟨k + 1, c + 1, p, valN s k, rfl, by go_num, by go_num, rfl, by go_num, HR.out.next (by omega) hB HW.out⟩, by simp [intOf]; omega⟩
      · have hval : ∀ w1, TEnv w1 → Calls Tryd.prog 17 #[.int .u8 (s[k].toNat : Int)] w1 fun e w' => e = .returned (.int .i64 (-1)) ∧ Below w1.heap.size w1 w' := fun w1 h1 => by
          rw [getD_byte hks', ← valB_wrong hw]
          exact value_any _ (byte_range s k) w1 h1
        have HW := Lib.hid hw
        have HV := Lib.hid hval
        clear hval hw
        go_wp2_with fail
        refine (HV.out _ (he.later HR.out.two.below)).mono ?_
        rintro e w1 ⟨rfl, hB⟩
        have hp : parseV s = .tuple #[.agg Z.toArray, .iface 72 (.agg #[.int .i64 11, .int .i64 k])] := by unfold parseV; rw [parseR_wrong HSZ.out hlt HW.out HR.out.right, HZ.out]; rfl
        have HP := Lib.hid hp
        clear hp
        go_wp2_with fail
        refine (new_same _ _ _).mono ?_
        rintro e w1 ⟨rfl, rfl⟩
        have h2 := HR.out.two.later hB
        have q0 := h2.res.there (n := 16) rfl
        have q2 := h2.set (by rw [keyPart_length]) HZ.out rfl
        have H2 := Lib.hid q2
        clear h2 q2
        go_wp2_with (refine wpList_store_mid (by rfl) _ (.tmp 2) (.tmp 26) (by rfl) w.heap.size 0 Z.toArray (by rfl) (by rw [HZ.out]; rfl) (by simpa [hl] using q0) (by simpa using hi) (all_oneCell_toArray h1) ?_)
        (try rw [Exit.noGoto_ret])
        exact bodyPost_ret (ret_cell_tmp rfl rfl H2.out.retZ'.1 hu rfl hi) rfl ⟨by rw [HP.out]; rfl, H2.out.retZ'.2⟩
    · obtain rfl : k = 22 := by have := HR.out.hk; omega
      have hla := HR.out.last rfl
      have hc : c = 16 := by have := HR.out.hc; have := HR.out.hc2; omega
      have h2 := HR.out.two
      rw [hc, keyPart_full] at h2
      clear hc
      have hlow := bigV_low s
      rw [← hla] at hlow
      clear hla
      by_cases hz : bigV s % 16 = 0
      · obtain ⟨Y, hY⟩ : ∃ Y, Y = cells8 (keyOfN (bigV s)) := ⟨_, rfl⟩
        obtain ⟨hi', hl', h1'⟩ : Zs Y := by rw [hY]; exact Zs.of (by simp [keyOfN])
        have hp : parseV s = .tuple #[.agg Y.toArray, .nilIface] := by unfold parseV; rw [parseR_right HSZ.out HR.out.right hz, hY]; rfl
        have hand : bits BinOp.and IntKind.i64 (la : Int) 15 = 0 := by
          have := i64_and_nat la 15 (by have := HR.out.la64; omega) (by omega)
          rw [Nat.and_two_pow_sub_one_eq_mod _ 4] at this
          rw [show (15 : Int) = ((15 : Nat) : Int) from rfl, this]
          omega
        have q0 := h2.res.there (n := 16) rfl
        have q2 := h2.set (by simp [keyOfN]) HZ.out hY
        have q1 := q2.range
        have H2 := Lib.hid q2
        have HP := Lib.hid hp
        have HY := Lib.hid hY
        clear h2 q2 hp hY hlow hz
        go_wp2_with (first | (refine wpList_store_mid (by rfl) _ (.tmp 2) (.tmp 54) (by rfl) w.heap.size 0 Y.toArray (by rfl) (by rfl) (by simpa [hl'] using q0) (by simpa using hi') (all_oneCell_toArray h1') ?_) | (refine wpList_load_mid (by rfl) _ (.tmp 4) (by rfl) (w.heap.size + 1) 0 (by rfl) Y _ q1 hu rfl hi' ?_))
        (try rw [Exit.noGoto_ret])
        exact bodyPost_ret (ret_cell_tmp rfl rfl H2.out.retY.1 hu rfl hi') rfl ⟨by rw [HP.out]; rfl, H2.out.retY.2⟩
      · have hp : parseV s = .tuple #[.agg Z.toArray, .iface 72 (.agg #[.int .i64 11, .int .i64 21])] := by unfold parseV; rw [parseR_last HSZ.out HR.out.right hz, HZ.out]; rfl
        obtain ⟨r, hr, hr0, hr16⟩ : ∃ r, la % 16 = r ∧ 0 < r ∧ r < 16 := ⟨la % 16, rfl, by omega, by omega⟩
        have hand : bits BinOp.and IntKind.i64 (la : Int) 15 = (r : Int) := by
          have := i64_and_nat la 15 (by have := HR.out.la64; omega) (by omega)
          rw [Nat.and_two_pow_sub_one_eq_mod _ 4] at this
          rw [show (15 : Int) = ((15 : Nat) : Int) from rfl, this]
          omega
        have hrn : ((r : Int) != 0) = true := by simp; omega
        have q0 := h2.res.there (n := 16) rfl
        have q2 := h2.set (by simp [keyOfN]) HZ.out rfl
        have H2 := Lib.hid q2
        have HP := Lib.hid hp
        clear h2 q2 hp hlow hz hr
        go_wp2_with (first | (go_at_call 35; refine (new_same _ _ _).mono ?_; rintro e w' ⟨rfl, rfl⟩) | (refine wpList_store_mid (by rfl) _ (.tmp 2) (.tmp 52) (by rfl) w.heap.size 0 Z.toArray (by rfl) (by rw [HZ.out]; rfl) (by simpa [hl] using q0) (by simpa using hi) (all_oneCell_toArray h1) ?_))
        (try rw [Exit.noGoto_ret])
        exact bodyPost_ret (ret_cell_tmp rfl rfl H2.out.retZ'.1 hu rfl hi) rfl ⟨by rw [HP.out]; rfl, H2.out.retZ'.2⟩

theorem parse_any (s : ByteArray) (hs : s.size ≤ 300) (w : World) (he : TEnv w) :
    Calls Tryd.prog 13 #[.string s] w fun e w' => e = .returned (parseV s) ∧ Below w.heap.size w w' := by
  by_cases h : s.size = 22
  · exact parse_22 s h w he
  · exact parse_len s hs h w
end Go.Proofs.YtkpibmnlmmddjaaDoor
