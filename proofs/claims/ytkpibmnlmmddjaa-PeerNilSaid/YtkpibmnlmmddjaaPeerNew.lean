/- The walks of peer.New, peer.Fixed and of the methods of a peer. -/
import Derived.Test.YtkpibmnlmmddjaaPeerLess
import Derived.Test.YtkpibmnlmmddjaaEntry
import Derived.DeepKeys4
namespace Go.Proofs.Ytkpibmnlmmddjaa
open Go.RowKit Go.Maps

/-- Block pb is a peer: its address, whether it is fixed, its moves; and its map lies in block mb. -/
def PeerAt (w : World) (pb : Nat) (a : ByteArray) (fixed : Bool) (moves : Int) (mb n : Nat) (D : DataW Unit) : Prop :=
  Rw w pb 37 #[.string a, .bool fixed, .int .i64 moves, .map (some mb)] ∧ w.ownsMap Try.prog 39 (plainElem Try.prog 3) mb n D ∧ pb ≠ mb

def orNone (s : ByteArray) : ByteArray := if rightS s then s else ByteArray.empty

theorem PeerAt.later {w w' : World} {pb mb n : Nat} {a : ByteArray} {f : Bool} {m : Int} {D : DataW Unit} (h : PeerAt w pb a f m mb n D) (hb : Below w.heap.size w w') : PeerAt w' pb a f m mb n D :=
  ⟨h.1.later hb, ownsMap_later h.2.1 hb, h.2.2⟩

set_option maxHeartbeats 400000 in
theorem new_any (s : ByteArray) (w : World) : Calls Try.prog 11 #[.string s] w fun e w' => ∃ pb mb : Nat, e = .returned (.pointer (some ⟨pb, 0, none⟩)) ∧ PeerAt w' pb (orNone s) false 0 mb 0 (.map []) ∧ w.heap.size ≤ pb ∧ w.heap.size ≤ mb ∧ Below w.heap.size w w' := by
  have hmm := @run_makeMap Try.prog
  go_enter Try.func11, Try.ntmps11
  go_wp2_with fail
  refine (peerRight_any _ _).mono ?_
  rintro e w1 ⟨rfl, hB⟩
  have h0 : PeerAt ((w.alloc (.map #[] 0)).alloc (.cells #[.string ⟨#[]⟩, .bool false, .int .i64 0, .map (some w.heap.size)] 37)) (w.heap.size + 1) ⟨#[]⟩ false 0 w.heap.size 0 (.map []) :=
    ⟨by have := Rw.made (w.alloc (.map #[] 0)) 37 #[.string ⟨#[]⟩, .bool false, .int .i64 0, .map (some w.heap.size)]
        simpa using this, (World.ownsMap_made w _ _ _).alloc _, by omega⟩
  have h1 := h0.later hB
  have hz : w.heap.size + 1 < w1.heap.size := h1.1.lt
  have hB1 : Below w.heap.size w w1 := below_then (((Below.refl _ _).alloc (Nat.le_refl _) _).alloc (by simp) _) hB (by simp; omega)
  clear h0 hB
  have c0 : w1.cell? ⟨w.heap.size + 1, 0, none⟩ = some (.string ⟨#[]⟩) := h1.1.cell 0
  have f0 : w1.frozen? ⟨w.heap.size + 1, 0, none⟩ = false := h1.1.free 0
  cases hr : rightS s
  · go_wp2
    go_ret
    exact ⟨_, _, rfl, by unfold orNone; rw [hr]; exact h1, by omega, Nat.le_refl _, hB1⟩
  · go_wp2
    go_ret
    exact ⟨_, _, rfl, by unfold orNone; rw [hr]; exact ⟨h1.1.store 0 _, ownsMap_store h1.2.1 (by show w.heap.size ≠ w.heap.size + 1; omega) _, h1.2.2⟩, by omega, Nat.le_refl _, hB1.setCell (by show w.heap.size ≤ w.heap.size + 1; omega) _⟩

theorem fixed_any (s : ByteArray) (w : World) : Calls Try.prog 16 #[.string s] w fun e w' => ∃ pb mb : Nat, e = .returned (.pointer (some ⟨pb, 0, none⟩)) ∧ PeerAt w' pb (orNone s) true 0 mb 0 (.map []) ∧ w.heap.size ≤ pb ∧ w.heap.size ≤ mb ∧ Below w.heap.size w w' := by
  go_enter Try.func16, Try.ntmps16
  go_wp2_with fail
  refine (new_any _ _).mono ?_
  rintro e w1 ⟨pb, mb, rfl, hp, h1, h2, hB⟩
  have c1 : w1.cell? ⟨pb, 1, none⟩ = some (.bool false) := hp.1.cell 1
  have f1 : w1.frozen? ⟨pb, 1, none⟩ = false := hp.1.free 1
  go_wp2
  go_ret
  exact ⟨_, _, rfl, ⟨hp.1.store 1 _, ownsMap_store hp.2.1 (fun e => hp.2.2 e.symm) _, hp.2.2⟩, h1, h2, hB.setCell h1 _⟩

theorem address_any (w : World) (pb mb n : Nat) (a : ByteArray) (f : Bool) (m : Int) (D : DataW Unit) (hp : PeerAt w pb a f m mb n D) :
    Calls Try.prog 12 #[.pointer (some ⟨pb, 0, none⟩)] w fun e w' => e = .returned (.tuple #[.string a, .bool (!a.toList.isEmpty)]) ∧ Below w.heap.size w w' := by
  have c0 : w.cell? ⟨pb, 0, none⟩ = some (.string a) := hp.1.cell 0
  go_enter Try.func12, Try.ntmps12
  go_wp2
  go_quiet (fail)
  go_wp2
  go_ret2
  exact ⟨rfl, below_draws w _⟩

theorem address_nil (w : World) : Calls Try.prog 12 #[.pointer none] w fun e w' => e = .returned (.tuple #[.string ⟨#[]⟩, .bool false]) ∧ w = w' := by
  go_enter Try.func12, Try.ntmps12
  go_wp2
  go_ret2
  exact ⟨rfl, rfl⟩

theorem moves_any (w : World) (pb mb n : Nat) (a : ByteArray) (f : Bool) (m : Int) (D : DataW Unit) (hp : PeerAt w pb a f m mb n D) :
    Calls Try.prog 14 #[.pointer (some ⟨pb, 0, none⟩)] w fun e w' => e = .returned (.int .i64 m) ∧ w = w' := by
  have c0 : w.cell? ⟨pb, 2, none⟩ = some (.int .i64 m) := hp.1.cell 2
  go_enter Try.func14, Try.ntmps14
  go_wp2
  go_ret
  exact ⟨rfl, rfl⟩

theorem moves_nil (w : World) : Calls Try.prog 14 #[.pointer none] w fun e w' => e = .returned (.int .i64 0) ∧ w = w' := by
  go_enter Try.func14, Try.ntmps14
  go_wp2
  go_ret
  exact ⟨rfl, rfl⟩

theorem met_nil (s : ByteArray) (w : World) : Calls Try.prog 15 #[.pointer none, .string s] w fun e w' => e = .returned (.int .i64 0) ∧ w = w' := by
  go_enter Try.func15, Try.ntmps15
  go_wp2
  go_ret
  exact ⟨rfl, rfl⟩

theorem move_nil (s : ByteArray) (w : World) : Calls Try.prog 13 #[.pointer none, .string s] w fun e w' => e = .returned (.bool false) ∧ w = w' := by
  go_enter Try.func13, Try.ntmps13
  go_wp2
  go_ret
  exact ⟨rfl, rfl⟩

theorem laidOutP : laidOutB Try.prog = true := by kernel_rfl
theorem rowKey : (39 : TypeId) < Try.prog.types.size := of_decide_eq_true (by kernel_rfl)
theorem wideKey : (match Try.prog.underlying 39 with | some (.array _ _) | some (.struct _) => true | _ => false) = true := by kernel_rfl
theorem lawKey : Keyed Try.prog 39 := Keyed.of_law (deep_law_laid laidOutP (m := 2) (by omega) rowKey (by kernel_rfl) wideKey)
theorem zeroInt (w : World) : (zeroValue 3).run Try.prog w = .ok (.int .i64 0) w := by kernel_rfl

/-- 'b:2' -/
abbrev b2 : ByteArray := ⟨#[98, 58, 50]⟩
theorem keyB2 : keyOf Try.prog 39 (.agg #[.string b2]) = some (.string (keyBytes [.string [98, 58, 50]])) := by kernel_rfl

set_option maxHeartbeats 400000 in
theorem move_first (s : ByteArray) (w : World) (base pb mb n : Nat) (a : ByteArray) (m : Int) (D : DataW Unit) (hp : PeerAt w pb a false m mb n D) (h1 : base ≤ pb) (h2 : base ≤ mb) (hr : rightS s = true) (hn : n < 1000) (hm0 : 0 ≤ m) (hm1 : m ≤ 1000)
    (hne : (a.toList == s.toList) = false) (kl : Lit) (hk : keyOf Try.prog 39 (.agg #[.string s]) = some kl) (c : Int) (hc : D.atKey kl (.lit (.int .i64 0)) = .lit (.int .i64 c)) (hc0 : 0 ≤ c) (hc1 : c ≤ 1000) :
    Calls Try.prog 13 #[.pointer (some ⟨pb, 0, none⟩), .string s] w fun e w' => e = .returned (.bool true) ∧ PeerAt w' pb s false (m + 1) mb (n + 1) (D.put kl (.lit (.int .i64 (c + 1)))) ∧ Below base w w' := by
  have c1 : w.cell? ⟨pb, 1, none⟩ = some (.bool false) := hp.1.cell 1
  go_enter Try.func13, Try.ntmps13
  go_wp2_with fail
  refine (peerRight_any _ _).mono ?_
  rintro e w1 ⟨rfl, hB⟩
  have hq := hp.later hB
  have hB1 : Below base w w1 := hB.mono (by have := hp.1.lt; omega)
  clear hB hp c1
  have hr' : (!rightS s) = false := by rw [hr]; rfl
  obtain ⟨c', st, w2, hl0, hat, hwc, hme, hg, hl1, hst⟩ := entry_int (w := w1.drew) lawKey Try.underlying35 Try.underlying3 zeroInt hq.2.1 (by unfold maxLen; omega) hk
  obtain rfl : c' = c := by
    rw [hc] at hat
    have h : c = c' := by simpa using hat
    exact h.symm
  obtain ⟨w3, hes, hown3, hg3⟩ := hst (c' + 1) (WalkArith.wf_i64 (by omega))
  have c3 : w1.cell? ⟨pb, 3, none⟩ = some (.map (some mb)) := hq.1.cell 3
  clear hat hwc hst hc hr hk
  have hes' : (Instr.entryStore 35 (.map (some mb)) (.int .i64 st) (.int .i64 (c' + 1))).run Try.prog w2 = .ok () w3 := hes
  have hme' : (Instr.mapEntry 35 (.map (some mb)) (.agg #[.string s])).run Try.prog w1.drew = .ok (.tuple #[.int .i64 c', .int .i64 st]) w2 := hme
  clear hes hme
  have hq3 : Rw w3 pb 37 #[.string a, .bool false, .int .i64 m, .map (some mb)] := Rw.grown (w := w1.drew) hq.1 hg3 (by intro e; injection e with e; exact hq.2.2 e)
  have k0 : w3.cell? ⟨pb, 0, none⟩ = some (.string a) := hq3.cell 0
  have k2 : w3.cell? ⟨pb, 2, none⟩ = some (.int .i64 m) := hq3.cell 2
  have l0 : w3.frozen? ⟨pb, 0, none⟩ = false := hq3.free 0
  have l2 : w3.frozen? ⟨pb, 2, none⟩ = false := hq3.free 2
  have hB3 : Below base w w3 := (hB1.drew).grown hg3 (by have := hB1.size; show base ≤ w1.heap.size; have := hq.1.lt; omega) (by intro k hk; injection hk with hk; omega)
  go_wp2
  go_region
  all_goals
    go_wp2
    go_ret
    exact ⟨rfl, ⟨(hq3.store 0 _).store 2 _, ownsMap_store (ownsMap_store hown3 (fun e => hq.2.2 e.symm) _) (fun e => hq.2.2 e.symm) _, hq.2.2⟩, (hB3.setCell h1 _).setCell h1 _⟩

set_option maxHeartbeats 400000 in
theorem move_again (s : ByteArray) (w : World) (base pb mb n : Nat) (a : ByteArray) (m : Int) (D : DataW Unit) (hp : PeerAt w pb a false m mb n D) (h1 : base ≤ pb) (h2 : base ≤ mb) (hr : rightS s = true) (hn : n < 1000) (hm0 : 0 ≤ m) (hm1 : m ≤ 1000)
    (hne : (a.toList == s.toList) = true) (kl : Lit) (hk : keyOf Try.prog 39 (.agg #[.string s]) = some kl) (c : Int) (hc : D.atKey kl (.lit (.int .i64 0)) = .lit (.int .i64 c)) (hc0 : 0 ≤ c) (hc1 : c ≤ 1000) :
    Calls Try.prog 13 #[.pointer (some ⟨pb, 0, none⟩), .string s] w fun e w' => e = .returned (.bool false) ∧ PeerAt w' pb a false m mb (n + 1) (D.put kl (.lit (.int .i64 (c + 1)))) ∧ Below base w w' := by
  have c1 : w.cell? ⟨pb, 1, none⟩ = some (.bool false) := hp.1.cell 1
  go_enter Try.func13, Try.ntmps13
  go_wp2_with fail
  refine (peerRight_any _ _).mono ?_
  rintro e w1 ⟨rfl, hB⟩
  have hq := hp.later hB
  have hB1 : Below base w w1 := hB.mono (by have := hp.1.lt; omega)
  clear hB hp c1
  have hr' : (!rightS s) = false := by rw [hr]; rfl
  obtain ⟨c', st, w2, hl0, hat, hwc, hme, hg, hl1, hst⟩ := entry_int (w := w1.drew) lawKey Try.underlying35 Try.underlying3 zeroInt hq.2.1 (by unfold maxLen; omega) hk
  obtain rfl : c' = c := by
    rw [hc] at hat
    have h : c = c' := by simpa using hat
    exact h.symm
  obtain ⟨w3, hes, hown3, hg3⟩ := hst (c' + 1) (WalkArith.wf_i64 (by omega))
  have c3 : w1.cell? ⟨pb, 3, none⟩ = some (.map (some mb)) := hq.1.cell 3
  clear hat hwc hst hc hr hk
  have hes' : (Instr.entryStore 35 (.map (some mb)) (.int .i64 st) (.int .i64 (c' + 1))).run Try.prog w2 = .ok () w3 := hes
  have hme' : (Instr.mapEntry 35 (.map (some mb)) (.agg #[.string s])).run Try.prog w1.drew = .ok (.tuple #[.int .i64 c', .int .i64 st]) w2 := hme
  clear hes hme
  have hq3 : Rw w3 pb 37 #[.string a, .bool false, .int .i64 m, .map (some mb)] := Rw.grown (w := w1.drew) hq.1 hg3 (by intro e; injection e with e; exact hq.2.2 e)
  have k0 : w3.cell? ⟨pb, 0, none⟩ = some (.string a) := hq3.cell 0
  have k2 : w3.cell? ⟨pb, 2, none⟩ = some (.int .i64 m) := hq3.cell 2
  have l0 : w3.frozen? ⟨pb, 0, none⟩ = false := hq3.free 0
  have l2 : w3.frozen? ⟨pb, 2, none⟩ = false := hq3.free 2
  have hB3 : Below base w w3 := (hB1.drew).grown hg3 (by have := hB1.size; show base ≤ w1.heap.size; have := hq.1.lt; omega) (by intro k hk; injection hk with hk; omega)
  go_wp2
  go_region
  all_goals
    go_wp2
    go_ret
    exact ⟨rfl, ⟨hq3, hown3, hq.2.2⟩, hB3⟩

theorem met_any (s : ByteArray) (w : World) (pb mb n : Nat) (a : ByteArray) (f : Bool) (m : Int) (D : DataW Unit) (hp : PeerAt w pb a f m mb n D) (kl : Lit) (hk : keyOf Try.prog 39 (.agg #[.string s]) = some kl) (c : Int) (hc : D.atKey kl (.lit (.int .i64 0)) = .lit (.int .i64 c)) :
    Calls Try.prog 15 #[.pointer (some ⟨pb, 0, none⟩), .string s] w fun e w' => e = .returned (.int .i64 c) ∧ Below w.heap.size w w' := by
  obtain ⟨c', hl, hat, _⟩ := World.ownsMap.lookup_int (w := w) hp.2.1 lawKey Try.underlying35 Try.underlying3 (zeroInt _) hk
  obtain rfl : c' = c := by
    rw [hc] at hat
    have h : c = c' := by simpa using hat
    exact h.symm
  have c3 : w.cell? ⟨pb, 3, none⟩ = some (.map (some mb)) := hp.1.cell 3
  clear hat hc hk hp
  go_enter Try.func15, Try.ntmps15
  go_wp2
  go_ret
  exact ⟨rfl, Below.refl _ _⟩

end Go.Proofs.Ytkpibmnlmmddjaa
