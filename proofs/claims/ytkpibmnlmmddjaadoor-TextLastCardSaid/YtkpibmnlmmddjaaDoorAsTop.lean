/- errors.As at both targets. -/
import Derived.Test.YtkpibmnlmmddjaaDoorAsFault
namespace Go.Proofs.YtkpibmnlmmddjaaDoor
open Go.RowKit Go.Extern.Stop Go.Stop Go.Extern

/-- The variable errors.errorType, as its initialiser lays it. -/
def ErrType (w : World) : Prop := w.cell? ⟨2, 0, none⟩ = some (.iface 100 (.agg #[.pointer (some ⟨6, 26, none⟩)]))
theorem ErrType.later {w w' : World} (h : ErrType w) (hb : Below w.heap.size w w') : ErrType w' := cell_later hb h

theorem mKind (h : Value) (w : World) : (Go.method 257 100 (.agg #[h]) "Kind").run Tryd.prog w = .ok (76, h) w := by kernel_rfl
theorem mElem (h : Value) (w : World) : (Go.method 257 100 (.agg #[h]) "Elem").run Tryd.prog w = .ok (91, .agg #[h]) w := by kernel_rfl
theorem mImplements (h : Value) (w : World) : (Go.method 257 100 (.agg #[h]) "Implements").run Tryd.prog w = .ok (92, .agg #[h]) w := by kernel_rfl

theorem As_nil (t : Value) (w : World) : Calls Tryd.prog 38 #[.nilIface, t] w fun e w' => e = .returned (.bool false) ∧ w = w' := by
  go_enter Tryd.func38, Tryd.ntmps38
  go_wp2
  go_ret
  exact ⟨rfl, rfl⟩

set_option maxRecDepth 100000 in
set_option maxHeartbeats 400000 in
theorem As_code (ps : List ByteArray) (fault : Bool) (c a : Int) (t : Nat) (old : Value) (w : World) (hg : ErrType w) (hc : w.cell? ⟨t, 0, none⟩ = some old) (hf : w.frozen? ⟨t, 0, none⟩ = false) :
    Calls Tryd.prog 38 #[errVal ps fault c a, .iface 74 (.pointer (some ⟨t, 0, none⟩))] w fun e w' => e = .returned (.bool true) ∧ w.grownBy w' (some t) ∧ w'.cell? ⟨t, 0, none⟩ = some (.int .i64 c) := by
  have h43 := @run_callFunc_extern Tryd.prog 43 _ (fun args => ReflectliteValue.unpack (args.getD 0 (.tuple #[]))) Tryd.func43 (by kernel_rfl) (by kernel_rfl) (by kernel_rfl) (by kernel_rfl)
  have h44 := @run_callFunc_extern Tryd.prog 44 _ (ReflectliteValue.methodAny (ReflectliteValue.valueError "reflectlite.Value.Type" 0) (fun t _ _ _ => ReflectliteType.toType t)) Tryd.func44 (by kernel_rfl) (by kernel_rfl) (by kernel_rfl) (by kernel_rfl)
  have h45 := @run_callFunc_extern Tryd.prog 45 _ (ReflectliteValue.method (ReflectliteValue.valueError "reflectlite.Value.IsNil" 0) ReflectliteValue.isNil) Tryd.func45 (by kernel_rfl) (by kernel_rfl) (by kernel_rfl) (by kernel_rfl)
  have h76 := @run_callFunc_extern Tryd.prog 76 _ (ReflectliteType.abiMethod fun t => do pure (.int .u8 (← Rtype.kind t))) Tryd.func76 (by kernel_rfl) (by kernel_rfl) (by kernel_rfl) (by kernel_rfl)
  have h91 := @run_callFunc_extern Tryd.prog 91 _ (ReflectliteType.method ReflectliteType.elem) Tryd.func91 (by kernel_rfl) (by kernel_rfl) (by kernel_rfl) (by kernel_rfl)
  have h92 := @run_callFunc_extern Tryd.prog 92 _ (ReflectliteType.relation "Implements" ReflectliteType.implements_) Tryd.func92 (by kernel_rfl) (by kernel_rfl) (by kernel_rfl) (by kernel_rfl)
  obtain ⟨T, v0, hTv⟩ := errVal_iface ps fault c a
  have HTV := Lib.hid hTv
  have vP := valueOf_code ⟨t, 0, none⟩ w
  have tT := type_code
  have mK := mKind
  have mE := mElem
  have mI := mImplements
  have kP := kindP_code
  have kE := kindE_code
  have eT := elemT_code
  have im := implements_code
  have ht : t < w.heap.size := cell_lt hc
  have hgl : 2 < w.heap.size := cell_lt hg
  unfold ErrType at hg
  have hg2 : ((w.alloc (.cells #[.pointer (some ⟨t, 0, none⟩)] 74)).alloc (.cells #[.pointer (some ⟨6, 74, none⟩), .pointer (some ⟨w.heap.size, 0, none⟩), .int .u64 150] 92)).cell? ⟨2, 0, none⟩ = some (.iface 100 (.agg #[.pointer (some ⟨6, 26, none⟩)])) := by
    rw [World.cell?_alloc_lt _ _ ⟨2, 0, none⟩ (by simp; omega), World.cell?_alloc_lt _ _ ⟨2, 0, none⟩ hgl]
    exact hg
  have n8 := isNil_code ⟨w.heap.size, 0, none⟩ ⟨t, 0, none⟩ ((w.alloc (.cells #[.pointer (some ⟨t, 0, none⟩)] 74)).alloc (.cells #[.pointer (some ⟨6, 74, none⟩), .pointer (some ⟨w.heap.size, 0, none⟩), .int .u64 150] 92)) (by simp)
  have k0 : ((w.alloc (.cells #[.pointer (some ⟨t, 0, none⟩)] 74)).alloc (.cells #[.pointer (some ⟨6, 74, none⟩), .pointer (some ⟨w.heap.size, 0, none⟩), .int .u64 150] 92)).cell? ⟨t, 0, none⟩ = some old := by
    rw [World.cell?_alloc_lt _ _ ⟨t, 0, none⟩ (by simp; omega), World.cell?_alloc_lt _ _ ⟨t, 0, none⟩ ht]
    exact hc
  have l0 : ((w.alloc (.cells #[.pointer (some ⟨t, 0, none⟩)] 74)).alloc (.cells #[.pointer (some ⟨6, 74, none⟩), .pointer (some ⟨w.heap.size, 0, none⟩), .int .u64 150] 92)).frozen? ⟨t, 0, none⟩ = false := by
    rw [World.frozen?_alloc_old _ _ ⟨t, 0, none⟩ (by simp; omega), World.frozen?_alloc_old _ _ ⟨t, 0, none⟩ (Nat.ne_of_lt ht)]
    exact hf
  have CC := as_code ps fault c a ⟨t, 0, none⟩ (.iface 74 (.pointer (some ⟨t, 0, none⟩))) w.heap.size old _ (by simp) k0 l0
  rw [hTv] at CC
  have HC := Lib.hid CC
  clear CC
  rw [hTv]
  clear hTv
  go_enter Tryd.func38, Tryd.ntmps38
  clear k0 l0
  go_wp2_with (go_at_call 46; fail)
  refine (HC.out).mono ?_
  rintro e w3 ⟨rfl, W, hB, rfl⟩
  go_wp2
  go_ret
  have hB2 : Below w.heap.size w W := below_then (((Below.refl _ _).alloc (Nat.le_refl _) _).alloc (by simp) _) hB (by simp; omega)
  exact ⟨rfl, grown_store (grown_below hB2 _) rfl _, World.cell?_setCell_same W ⟨t, 0, none⟩ _ (cell_later hB2 hc)⟩

set_option maxRecDepth 100000 in
set_option maxHeartbeats 400000 in
theorem As_fault (ps : List ByteArray) (fault : Bool) (c a : Int) (t : Nat) (old old1 : Value) (w : World) (hg : ErrType w) (hc : w.cell? ⟨t, 0, none⟩ = some old) (hc1 : w.cell? ⟨t, 1, none⟩ = some old1) (hf : w.frozen? ⟨t, 0, none⟩ = false) (hf1 : w.frozen? ⟨t, 1, none⟩ = false) :
    Calls Tryd.prog 38 #[errVal ps fault c a, .iface 75 (.pointer (some ⟨t, 0, none⟩))] w fun e w' => Found fault t c a w e w' := by
  have h43 := @run_callFunc_extern Tryd.prog 43 _ (fun args => ReflectliteValue.unpack (args.getD 0 (.tuple #[]))) Tryd.func43 (by kernel_rfl) (by kernel_rfl) (by kernel_rfl) (by kernel_rfl)
  have h44 := @run_callFunc_extern Tryd.prog 44 _ (ReflectliteValue.methodAny (ReflectliteValue.valueError "reflectlite.Value.Type" 0) (fun t _ _ _ => ReflectliteType.toType t)) Tryd.func44 (by kernel_rfl) (by kernel_rfl) (by kernel_rfl) (by kernel_rfl)
  have h45 := @run_callFunc_extern Tryd.prog 45 _ (ReflectliteValue.method (ReflectliteValue.valueError "reflectlite.Value.IsNil" 0) ReflectliteValue.isNil) Tryd.func45 (by kernel_rfl) (by kernel_rfl) (by kernel_rfl) (by kernel_rfl)
  have h76 := @run_callFunc_extern Tryd.prog 76 _ (ReflectliteType.abiMethod fun t => do pure (.int .u8 (← Rtype.kind t))) Tryd.func76 (by kernel_rfl) (by kernel_rfl) (by kernel_rfl) (by kernel_rfl)
  have h91 := @run_callFunc_extern Tryd.prog 91 _ (ReflectliteType.method ReflectliteType.elem) Tryd.func91 (by kernel_rfl) (by kernel_rfl) (by kernel_rfl) (by kernel_rfl)
  have h92 := @run_callFunc_extern Tryd.prog 92 _ (ReflectliteType.relation "Implements" ReflectliteType.implements_) Tryd.func92 (by kernel_rfl) (by kernel_rfl) (by kernel_rfl) (by kernel_rfl)
  obtain ⟨T, v0, hTv⟩ := errVal_iface ps fault c a
  have HTV := Lib.hid hTv
  have vP := valueOf_fault ⟨t, 0, none⟩ w
  have tT := type_fault
  have mK := mKind
  have mE := mElem
  have mI := mImplements
  have kP := kindP_fault
  have kE := kindE_fault
  have eT := elemT_fault
  have im := implements_fault
  have ht : t < w.heap.size := cell_lt hc
  have hgl : 2 < w.heap.size := cell_lt hg
  unfold ErrType at hg
  have hg2 : ((w.alloc (.cells #[.pointer (some ⟨t, 0, none⟩)] 75)).alloc (.cells #[.pointer (some ⟨6, 75, none⟩), .pointer (some ⟨w.heap.size, 0, none⟩), .int .u64 150] 92)).cell? ⟨2, 0, none⟩ = some (.iface 100 (.agg #[.pointer (some ⟨6, 26, none⟩)])) := by
    rw [World.cell?_alloc_lt _ _ ⟨2, 0, none⟩ (by simp; omega), World.cell?_alloc_lt _ _ ⟨2, 0, none⟩ hgl]
    exact hg
  have n8 := isNil_fault ⟨w.heap.size, 0, none⟩ ⟨t, 0, none⟩ ((w.alloc (.cells #[.pointer (some ⟨t, 0, none⟩)] 75)).alloc (.cells #[.pointer (some ⟨6, 75, none⟩), .pointer (some ⟨w.heap.size, 0, none⟩), .int .u64 150] 92)) (by simp)
  have k0 : ((w.alloc (.cells #[.pointer (some ⟨t, 0, none⟩)] 75)).alloc (.cells #[.pointer (some ⟨6, 75, none⟩), .pointer (some ⟨w.heap.size, 0, none⟩), .int .u64 150] 92)).cell? ⟨t, 0, none⟩ = some old := by
    rw [World.cell?_alloc_lt _ _ ⟨t, 0, none⟩ (by simp; omega), World.cell?_alloc_lt _ _ ⟨t, 0, none⟩ ht]
    exact hc
  have l0 : ((w.alloc (.cells #[.pointer (some ⟨t, 0, none⟩)] 75)).alloc (.cells #[.pointer (some ⟨6, 75, none⟩), .pointer (some ⟨w.heap.size, 0, none⟩), .int .u64 150] 92)).frozen? ⟨t, 0, none⟩ = false := by
    rw [World.frozen?_alloc_old _ _ ⟨t, 0, none⟩ (by simp; omega), World.frozen?_alloc_old _ _ ⟨t, 0, none⟩ (Nat.ne_of_lt ht)]
    exact hf
  have k1 : ((w.alloc (.cells #[.pointer (some ⟨t, 0, none⟩)] 75)).alloc (.cells #[.pointer (some ⟨6, 75, none⟩), .pointer (some ⟨w.heap.size, 0, none⟩), .int .u64 150] 92)).cell? ⟨t, 1, none⟩ = some old1 := by
    rw [World.cell?_alloc_lt _ _ ⟨t, 1, none⟩ (by simp; omega), World.cell?_alloc_lt _ _ ⟨t, 1, none⟩ ht]
    exact hc1
  have l1 : ((w.alloc (.cells #[.pointer (some ⟨t, 0, none⟩)] 75)).alloc (.cells #[.pointer (some ⟨6, 75, none⟩), .pointer (some ⟨w.heap.size, 0, none⟩), .int .u64 150] 92)).frozen? ⟨t, 1, none⟩ = false := by
    rw [World.frozen?_alloc_old _ _ ⟨t, 1, none⟩ (by simp; omega), World.frozen?_alloc_old _ _ ⟨t, 1, none⟩ (Nat.ne_of_lt ht)]
    exact hf1
  have CC := as_fault ps fault c a t (.iface 75 (.pointer (some ⟨t, 0, none⟩))) w.heap.size old old1 _ (by simp) k0 k1 l0 l1
  rw [hTv] at CC
  have HC := Lib.hid CC
  clear CC
  rw [hTv]
  clear hTv
  go_enter Tryd.func38, Tryd.ntmps38
  clear k0 l0 k1 l1
  go_wp2_with (go_at_call 46; fail)
  refine (HC.out).mono ?_
  intro e w3 hF
  have hB0 : Below w.heap.size w ((w.alloc (.cells #[.pointer (some ⟨t, 0, none⟩)] 75)).alloc (.cells #[.pointer (some ⟨6, 75, none⟩), .pointer (some ⟨w.heap.size, 0, none⟩), .int .u64 150] 92)) := ((Below.refl _ _).alloc (Nat.le_refl _) _).alloc (by simp) _
  cases fault with
  | true =>
    obtain ⟨rfl, hg3, q0, q1⟩ := hF
    have hG := grown_then (grown_below hB0 (some t)) hg3
    clear hg3
    go_wp2
    go_ret
    exact ⟨rfl, hG, q0, q1⟩
  | false =>
    obtain ⟨rfl, hB⟩ := hF
    have hB2 := below_then hB0 hB (by simp; omega)
    clear hB
    go_wp2
    go_ret
    exact ⟨rfl, hB2⟩
end Go.Proofs.YtkpibmnlmmddjaaDoor
