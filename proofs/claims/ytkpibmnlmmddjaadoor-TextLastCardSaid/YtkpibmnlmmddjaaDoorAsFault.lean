/- errors.as at the target *api.Fault; errors.As at both targets; fault.Code and fault.At. -/
import Derived.Test.YtkpibmnlmmddjaaDoorAsWalk
namespace Go.Proofs.YtkpibmnlmmddjaaDoor
open Go.RowKit Go.Extern.Stop Go.Stop Go.Extern

theorem stored_two {w W : World} {t : Nat} {o0 o1 : Value} (hB : Below w.heap.size w W) (h0 : W.cell? ⟨t, 0, none⟩ = some o0) (h1 : W.cell? ⟨t, 1, none⟩ = some o1) (c a : Value) (o : Obj) :
    w.grownBy (((W.setCell ⟨t, 0, none⟩ c).setCell ⟨t, 1, none⟩ a).alloc o) (some t) ∧ (((W.setCell ⟨t, 0, none⟩ c).setCell ⟨t, 1, none⟩ a).alloc o).cell? ⟨t, 0, none⟩ = some c ∧
      (((W.setCell ⟨t, 0, none⟩ c).setCell ⟨t, 1, none⟩ a).alloc o).cell? ⟨t, 1, none⟩ = some a := by
  have e0 : (W.setCell ⟨t, 0, none⟩ c).cell? ⟨t, 0, none⟩ = some c := World.cell?_setCell_same W ⟨t, 0, none⟩ c h0
  have e1 : (W.setCell ⟨t, 0, none⟩ c).cell? ⟨t, 1, none⟩ = some o1 := (World.cell?_setCell_other W ⟨t, 0, none⟩ ⟨t, 1, none⟩ c (by simp)).trans h1
  have f1 : ((W.setCell ⟨t, 0, none⟩ c).setCell ⟨t, 1, none⟩ a).cell? ⟨t, 1, none⟩ = some a := World.cell?_setCell_same (W.setCell ⟨t, 0, none⟩ c) ⟨t, 1, none⟩ a e1
  have f0 : ((W.setCell ⟨t, 0, none⟩ c).setCell ⟨t, 1, none⟩ a).cell? ⟨t, 0, none⟩ = some c := (World.cell?_setCell_other (W.setCell ⟨t, 0, none⟩ c) ⟨t, 1, none⟩ ⟨t, 0, none⟩ a (by simp)).trans e0
  have g1 : w.grownBy (W.setCell ⟨t, 0, none⟩ c) (some t) := grown_store (grown_below hB _) rfl c
  have g2 : w.grownBy ((W.setCell ⟨t, 0, none⟩ c).setCell ⟨t, 1, none⟩ a) (some t) := grown_store g1 rfl a
  exact ⟨grown_alloc g2 o, (World.cell?_alloc_lt _ _ ⟨t, 0, none⟩ (cell_lt f0)).trans f0, (World.cell?_alloc_lt _ _ ⟨t, 1, none⟩ (cell_lt f1)).trans f1⟩

/-- What the search for a fault leaves. -/
def Found (fault : Bool) (t : Nat) (c a : Int) (w : World) (e : Ending) (w' : World) : Prop :=
  if fault = true then e = .returned (.bool true) ∧ w.grownBy w' (some t) ∧ w'.cell? ⟨t, 0, none⟩ = some (.int .i64 c) ∧ w'.cell? ⟨t, 1, none⟩ = some (.int .i64 a)
  else e = .returned (.bool false) ∧ Below w.heap.size w w'

set_option maxRecDepth 100000 in
set_option maxHeartbeats 4000000 in
theorem as_fault (ps : List ByteArray) (fault : Bool) (c a : Int) (t : Nat) (x : Value) (b : Nat) (old old1 : Value) (w : World) (hb : w.cell? ⟨b, 0, none⟩ = some (.pointer (some ⟨t, 0, none⟩))) (ht : w.cell? ⟨t, 0, none⟩ = some old) (ht1 : w.cell? ⟨t, 1, none⟩ = some old1) (hf : w.frozen? ⟨t, 0, none⟩ = false) (hf1 : w.frozen? ⟨t, 1, none⟩ = false) :
    Calls Tryd.prog 46 #[errVal ps fault c a, x, valP 75 b, .iface 100 (.agg #[.pointer (some ⟨6, 72, none⟩)])] w
      fun e w' => Found fault t c a w e w' := by
  have hx41 := @run_callFunc_extern Tryd.prog 41 _ ReflectliteType.typeOf Tryd.func41 (by kernel_rfl) (by kernel_rfl) (by kernel_rfl) (by kernel_rfl)
  have hx89 := @run_callFunc_extern Tryd.prog 89 _ (ReflectliteType.relation "AssignableTo" ReflectliteType.assignableTo) Tryd.func89 (by kernel_rfl) (by kernel_rfl) (by kernel_rfl) (by kernel_rfl)
  have hx43 := @run_callFunc_extern Tryd.prog 43 _ (fun args => ReflectliteValue.unpack (args.getD 0 (.tuple #[]))) Tryd.func43 (by kernel_rfl) (by kernel_rfl) (by kernel_rfl) (by kernel_rfl)
  have hx48 := @run_callFunc_extern Tryd.prog 48 _ (ReflectliteValue.method (ReflectliteValue.valueError "reflectlite.Value.Elem" 0) ReflectliteValue.elem) Tryd.func48 (by kernel_rfl) (by kernel_rfl) (by kernel_rfl) (by kernel_rfl)
  have hx49 := @run_callFunc_extern Tryd.prog 49 _ ReflectliteValue.set Tryd.func49 (by kernel_rfl) (by kernel_rfl) (by kernel_rfl) (by kernel_rfl)
  go_enter Tryd.func46, Tryd.ntmps46
  go_wp2
  go_loopg [0] (ps.length + 1) (fun gf v wr => ∃ qs, v = errVal qs fault c a ∧ qs.length < gf ∧ Below w.heap.size w wr ∧ Rw wr w.heap.size 92 #[.pointer (some ⟨6, 75, none⟩), .pointer (some ⟨b, 0, none⟩), .int .u64 150])
  case atStart => exact ⟨ps, rfl, by omega, (Below.refl _ _).alloc (Nat.le_refl _) _, Rw.made _ _ _⟩
  case round =>
    obtain ⟨qs, rfl, hlen, hB, hbox⟩ := hrel
    have b0 : wr.cell? ⟨w.heap.size, 0, none⟩ = some (.pointer (some ⟨6, 75, none⟩)) := hbox.cell 0
    have b1 : wr.cell? ⟨w.heap.size, 1, none⟩ = some (.pointer (some ⟨b, 0, none⟩)) := hbox.cell 1
    have b2 : wr.cell? ⟨w.heap.size, 2, none⟩ = some (.int .u64 150) := hbox.cell 2
    have mA := mAssignable
    cases qs with
    | nil =>
      cases fault with
      | true =>
        have tO := typeOf_fault
        have aC := assignable_fault
        have hb' : wr.cell? ⟨b, 0, none⟩ = some (.pointer (some ⟨t, 0, none⟩)) := cell_later hB hb
        have ht' : wr.cell? ⟨t, 0, none⟩ = some old := cell_later hB ht
        have ht1' : wr.cell? ⟨t, 1, none⟩ = some old1 := cell_later hB ht1
        have hf' : wr.frozen? ⟨t, 0, none⟩ = false := by rw [hB.frozen (cell_lt ht)]; exact hf
        have hf1' : wr.frozen? ⟨t, 1, none⟩ = false := by rw [hB.frozen (cell_lt ht1)]; exact hf1
        have eV := elemV_fault ⟨b, 0, none⟩ ⟨t, 0, none⟩ wr hb'
        have vE := valueOfE_fault c a wr
        have hlt : t < wr.heap.size := by
          have := cell_lt ht
          have := hB.size
          simp at *
          omega
        have sC := set_fault t wr.heap.size c a old old1 (wr.alloc (.cells #[.int .i64 c, .int .i64 a] 72)) (by simp) (by simp)
          (by rw [World.cell?_alloc_lt _ _ ⟨t, 0, none⟩ hlt]; exact ht') (by rw [World.cell?_alloc_lt _ _ ⟨t, 1, none⟩ hlt]; exact ht1')
          (by rw [World.frozen?_alloc_old _ _ ⟨t, 0, none⟩ (Nat.ne_of_lt hlt)]; exact hf') (by rw [World.frozen?_alloc_old _ _ ⟨t, 1, none⟩ (Nat.ne_of_lt hlt)]; exact hf1')
        clear hlen
        simp only [errVal, if_true]
        go_wp2
        go_ret
        exact ⟨rfl, stored_two hB ht' ht1' _ _ _⟩
      | false =>
        have tO := typeOf_code
        have aC := code_fault
        have nA := noAs_code
        have nU := noUnwrap_code
        have nUs := noUnwraps_code
        simp only [errVal, Bool.false_eq_true, if_false]
        clear hlen
        go_wp2
        go_ret
        exact ⟨rfl, hB⟩
    | cons p r =>
      obtain ⟨T, v0, hTv⟩ := errVal_iface r fault c a
      have tO := typeOf_inner
      have aC := inner_fault
      have nA := noAs_inner
      have yU := unwrap_inner
      have mU := mUnwrapI p (.iface T v0)
      obtain ⟨g', rfl⟩ : ∃ g', gk = g' + 1 := ⟨gk - 1, by simp at hlen; omega⟩
      have hl2 : r.length < g' := by simp at hlen; omega
      have HL2 := Lib.hid hl2
      have HTV := Lib.hid hTv
      clear hlen hl2
      simp only [errVal]
      rw [hTv]
      clear hTv
      go_wp2_with (go_at_call 84; refine (innerUnwrap _ _ _).mono ?_; rintro e w1 ⟨rfl, hB1⟩)
      go_roundg g'
      case measure => omega
      case rel => exact ⟨r, HTV.out.symm, HL2.out, below_then hB hB1 hB.size, hbox.later hB1⟩

end Go.Proofs.YtkpibmnlmmddjaaDoor
