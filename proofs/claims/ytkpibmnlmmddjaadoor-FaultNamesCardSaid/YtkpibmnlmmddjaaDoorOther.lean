/- errors.New, and what fault.Code, At and Text say of such an error. -/
import Derived.Test.YtkpibmnlmmddjaaDoorFaultAwake
namespace Go.Proofs.YtkpibmnlmmddjaaDoor
open Go.RowKit Go.Extern.Stop Go.Stop Go.Extern

theorem noAs_other (v : Value) (x : TypeId) (w : World) : (Instr.typeAssert (.iface 77 v) x 110 true).run Tryd.prog w = .ok (.tuple #[.nilIface, .bool false]) w := run_typeAssert_lacksB Tryd.underlying110 (by kernel_rfl) (by kernel_rfl) v x w
theorem noUnwrap_other (v : Value) (x : TypeId) (w : World) : (Instr.typeAssert (.iface 77 v) x 82 true).run Tryd.prog w = .ok (.tuple #[.nilIface, .bool false]) w := run_typeAssert_lacksB Tryd.underlying82 (by kernel_rfl) (by kernel_rfl) v x w
theorem noUnwraps_other (v : Value) (x : TypeId) (w : World) : (Instr.typeAssert (.iface 77 v) x 105 true).run Tryd.prog w = .ok (.tuple #[.nilIface, .bool false]) w := run_typeAssert_lacksB Tryd.underlying105 (by kernel_rfl) (by kernel_rfl) v x w
theorem typeOf_other (v : Value) (w : World) : (ReflectliteType.typeOf #[.iface 77 v]).run Tryd.prog w = .ok (.iface 100 (.agg #[.pointer (some ⟨6, 77, none⟩)])) w := by kernel_rfl

theorem new_other (s : ByteArray) (w : World) : Calls Tryd.prog 31 #[.string s] w fun e w' => e = .returned (.iface 77 (.pointer (some ⟨w.heap.size, 0, none⟩))) ∧ Below w.heap.size w w' := by
  go_enter Tryd.func31, Tryd.ntmps31
  go_wp2
  go_ret
  exact ⟨rfl, (Below.refl _ _).alloc (Nat.le_refl _) _⟩

theorem other_code (w : World) : (ReflectliteType.relation "AssignableTo" ReflectliteType.assignableTo #[.agg #[.pointer (some ⟨6, 77, none⟩)], .iface 100 (.agg #[.pointer (some ⟨6, 45, none⟩)])]).run Tryd.prog w = .ok (.bool false) w := by kernel_rfl

set_option maxRecDepth 100000 in
set_option maxHeartbeats 1000000 in
theorem as_other_code (v x y0 y1 y2 : Value) (w : World) :
    Calls Tryd.prog 46 #[.iface 77 v, x, .agg #[y0, y1, y2], .iface 100 (.agg #[.pointer (some ⟨6, 45, none⟩)])] w fun e w' => e = .returned (.bool false) ∧ Below w.heap.size w w' := by
  have hx41 := @run_callFunc_extern Tryd.prog 41 _ ReflectliteType.typeOf Tryd.func41 (by kernel_rfl) (by kernel_rfl) (by kernel_rfl) (by kernel_rfl)
  have hx89 := @run_callFunc_extern Tryd.prog 89 _ (ReflectliteType.relation "AssignableTo" ReflectliteType.assignableTo) Tryd.func89 (by kernel_rfl) (by kernel_rfl) (by kernel_rfl) (by kernel_rfl)
  have tO := typeOf_other
  have aC := other_code
  have nA := noAs_other
  have nU := noUnwrap_other
  have nV := noUnwraps_other
  have mA := mAssignable
  go_enter Tryd.func46, Tryd.ntmps46
  go_wp2
  refine wp_loop_rounds 1 ?_
  rw [rounds_succ]
  go_wp2
  go_ret
  exact ⟨rfl, (Below.refl _ _).alloc (Nat.le_refl _) _⟩

set_option maxRecDepth 100000 in
set_option maxHeartbeats 1000000 in
theorem As_other_code (v : Value) (t : Nat) (w : World) (hg : ErrType w) (ht : t < w.heap.size) :
    Calls Tryd.prog 38 #[.iface 77 v, .iface 74 (.pointer (some ⟨t, 0, none⟩))] w fun e w' => e = .returned (.bool false) ∧ Below w.heap.size w w' := by
  have h43 := @run_callFunc_extern Tryd.prog 43 _ (fun args => ReflectliteValue.unpack (args.getD 0 (.tuple #[]))) Tryd.func43 (by kernel_rfl) (by kernel_rfl) (by kernel_rfl) (by kernel_rfl)
  have h44 := @run_callFunc_extern Tryd.prog 44 _ (ReflectliteValue.methodAny (ReflectliteValue.valueError "reflectlite.Value.Type" 0) (fun t _ _ _ => ReflectliteType.toType t)) Tryd.func44 (by kernel_rfl) (by kernel_rfl) (by kernel_rfl) (by kernel_rfl)
  have h45 := @run_callFunc_extern Tryd.prog 45 _ (ReflectliteValue.method (ReflectliteValue.valueError "reflectlite.Value.IsNil" 0) ReflectliteValue.isNil) Tryd.func45 (by kernel_rfl) (by kernel_rfl) (by kernel_rfl) (by kernel_rfl)
  have h76 := @run_callFunc_extern Tryd.prog 76 _ (ReflectliteType.abiMethod fun t => do pure (.int .u8 (← Rtype.kind t))) Tryd.func76 (by kernel_rfl) (by kernel_rfl) (by kernel_rfl) (by kernel_rfl)
  have h91 := @run_callFunc_extern Tryd.prog 91 _ (ReflectliteType.method ReflectliteType.elem) Tryd.func91 (by kernel_rfl) (by kernel_rfl) (by kernel_rfl) (by kernel_rfl)
  have h92 := @run_callFunc_extern Tryd.prog 92 _ (ReflectliteType.relation "Implements" ReflectliteType.implements_) Tryd.func92 (by kernel_rfl) (by kernel_rfl) (by kernel_rfl) (by kernel_rfl)
  have vP := valueOf_code ⟨t, 0, none⟩ w
  have tT := type_code
  have mK := mKind
  have mE := mElem
  have mI := mImplements
  have kP := kindP_code
  have kE := kindE_code
  have eT := elemT_code
  have im := implements_code
  have hgl : 2 < w.heap.size := cell_lt hg
  unfold ErrType at hg
  have hg2 : ((w.alloc (.cells #[.pointer (some ⟨t, 0, none⟩)] 74)).alloc (.cells #[.pointer (some ⟨6, 74, none⟩), .pointer (some ⟨w.heap.size, 0, none⟩), .int .u64 150] 92)).cell? ⟨2, 0, none⟩ = some (.iface 100 (.agg #[.pointer (some ⟨6, 26, none⟩)])) := by
    rw [World.cell?_alloc_lt _ _ ⟨2, 0, none⟩ (by simp; omega), World.cell?_alloc_lt _ _ ⟨2, 0, none⟩ hgl]
    exact hg
  have n8 := isNil_code ⟨w.heap.size, 0, none⟩ ⟨t, 0, none⟩ ((w.alloc (.cells #[.pointer (some ⟨t, 0, none⟩)] 74)).alloc (.cells #[.pointer (some ⟨6, 74, none⟩), .pointer (some ⟨w.heap.size, 0, none⟩), .int .u64 150] 92)) (by simp)
  go_enter Tryd.func38, Tryd.ntmps38
  go_wp2_with (go_at_call 46; fail)
  refine (as_other_code _ _ _ _ _ _).mono ?_
  rintro e w3 ⟨rfl, hB⟩
  have hB2 : Below w.heap.size w w3 := below_then (((Below.refl _ _).alloc (Nat.le_refl _) _).alloc (by simp) _) hB (by simp; omega)
  go_wp2
  go_ret
  exact ⟨rfl, hB2⟩

theorem other_fault (w : World) : (ReflectliteType.relation "AssignableTo" ReflectliteType.assignableTo #[.agg #[.pointer (some ⟨6, 77, none⟩)], .iface 100 (.agg #[.pointer (some ⟨6, 72, none⟩)])]).run Tryd.prog w = .ok (.bool false) w := by kernel_rfl

set_option maxRecDepth 100000 in
set_option maxHeartbeats 1000000 in
theorem as_other_fault (v x y0 y1 y2 : Value) (w : World) :
    Calls Tryd.prog 46 #[.iface 77 v, x, .agg #[y0, y1, y2], .iface 100 (.agg #[.pointer (some ⟨6, 72, none⟩)])] w fun e w' => e = .returned (.bool false) ∧ Below w.heap.size w w' := by
  have hx41 := @run_callFunc_extern Tryd.prog 41 _ ReflectliteType.typeOf Tryd.func41 (by kernel_rfl) (by kernel_rfl) (by kernel_rfl) (by kernel_rfl)
  have hx89 := @run_callFunc_extern Tryd.prog 89 _ (ReflectliteType.relation "AssignableTo" ReflectliteType.assignableTo) Tryd.func89 (by kernel_rfl) (by kernel_rfl) (by kernel_rfl) (by kernel_rfl)
  have tO := typeOf_other
  have aC := other_fault
  have nA := noAs_other
  have nU := noUnwrap_other
  have nV := noUnwraps_other
  have mA := mAssignable
  go_enter Tryd.func46, Tryd.ntmps46
  go_wp2
  refine wp_loop_rounds 1 ?_
  rw [rounds_succ]
  go_wp2
  go_ret
  exact ⟨rfl, (Below.refl _ _).alloc (Nat.le_refl _) _⟩

set_option maxRecDepth 100000 in
set_option maxHeartbeats 1000000 in
theorem As_other_fault (v : Value) (t : Nat) (w : World) (hg : ErrType w) (ht : t < w.heap.size) :
    Calls Tryd.prog 38 #[.iface 77 v, .iface 75 (.pointer (some ⟨t, 0, none⟩))] w fun e w' => e = .returned (.bool false) ∧ Below w.heap.size w w' := by
  have h43 := @run_callFunc_extern Tryd.prog 43 _ (fun args => ReflectliteValue.unpack (args.getD 0 (.tuple #[]))) Tryd.func43 (by kernel_rfl) (by kernel_rfl) (by kernel_rfl) (by kernel_rfl)
  have h44 := @run_callFunc_extern Tryd.prog 44 _ (ReflectliteValue.methodAny (ReflectliteValue.valueError "reflectlite.Value.Type" 0) (fun t _ _ _ => ReflectliteType.toType t)) Tryd.func44 (by kernel_rfl) (by kernel_rfl) (by kernel_rfl) (by kernel_rfl)
  have h45 := @run_callFunc_extern Tryd.prog 45 _ (ReflectliteValue.method (ReflectliteValue.valueError "reflectlite.Value.IsNil" 0) ReflectliteValue.isNil) Tryd.func45 (by kernel_rfl) (by kernel_rfl) (by kernel_rfl) (by kernel_rfl)
  have h76 := @run_callFunc_extern Tryd.prog 76 _ (ReflectliteType.abiMethod fun t => do pure (.int .u8 (← Rtype.kind t))) Tryd.func76 (by kernel_rfl) (by kernel_rfl) (by kernel_rfl) (by kernel_rfl)
  have h91 := @run_callFunc_extern Tryd.prog 91 _ (ReflectliteType.method ReflectliteType.elem) Tryd.func91 (by kernel_rfl) (by kernel_rfl) (by kernel_rfl) (by kernel_rfl)
  have h92 := @run_callFunc_extern Tryd.prog 92 _ (ReflectliteType.relation "Implements" ReflectliteType.implements_) Tryd.func92 (by kernel_rfl) (by kernel_rfl) (by kernel_rfl) (by kernel_rfl)
  have vP := valueOf_fault ⟨t, 0, none⟩ w
  have tT := type_fault
  have mK := mKind
  have mE := mElem
  have mI := mImplements
  have kP := kindP_fault
  have kE := kindE_fault
  have eT := elemT_fault
  have im := implements_fault
  have hgl : 2 < w.heap.size := cell_lt hg
  unfold ErrType at hg
  have hg2 : ((w.alloc (.cells #[.pointer (some ⟨t, 0, none⟩)] 75)).alloc (.cells #[.pointer (some ⟨6, 75, none⟩), .pointer (some ⟨w.heap.size, 0, none⟩), .int .u64 150] 92)).cell? ⟨2, 0, none⟩ = some (.iface 100 (.agg #[.pointer (some ⟨6, 26, none⟩)])) := by
    rw [World.cell?_alloc_lt _ _ ⟨2, 0, none⟩ (by simp; omega), World.cell?_alloc_lt _ _ ⟨2, 0, none⟩ hgl]
    exact hg
  have n8 := isNil_fault ⟨w.heap.size, 0, none⟩ ⟨t, 0, none⟩ ((w.alloc (.cells #[.pointer (some ⟨t, 0, none⟩)] 75)).alloc (.cells #[.pointer (some ⟨6, 75, none⟩), .pointer (some ⟨w.heap.size, 0, none⟩), .int .u64 150] 92)) (by simp)
  go_enter Tryd.func38, Tryd.ntmps38
  go_wp2_with (go_at_call 46; fail)
  refine (as_other_fault _ _ _ _ _ _).mono ?_
  rintro e w3 ⟨rfl, hB⟩
  have hB2 : Below w.heap.size w w3 := below_then (((Below.refl _ _).alloc (Nat.le_refl _) _).alloc (by simp) _) hB (by simp; omega)
  go_wp2
  go_ret
  exact ⟨rfl, hB2⟩

theorem code_other (v : Value) (w : World) (hg : ErrType w) : Calls Tryd.prog 23 #[.iface 77 v] w fun e w' => e = .returned (.tuple #[.int .i64 0, .bool false]) ∧ Below w.heap.size w w' := by
  have CC := As_other_code v w.heap.size (w.alloc (.cells #[.int .i64 0] 45)) (hg.later ((Below.refl _ _).alloc (Nat.le_refl _) _)) (by simp)
  have HC := Lib.hid CC
  clear CC
  go_enter Tryd.func23, Tryd.ntmps23
  go_wp2_with (go_at_call 38; fail)
  refine (HC.out).mono ?_
  rintro e w3 ⟨rfl, hB⟩
  have q1 : w3.cell? ⟨w.heap.size, 0, none⟩ = some (.int .i64 0) := cell_later hB (by simp)
  go_wp2
  go_ret2
  exact ⟨rfl, below_then ((Below.refl _ _).alloc (Nat.le_refl _) _) hB (by simp)⟩

theorem at_other (v : Value) (w : World) (hg : ErrType w) : Calls Tryd.prog 24 #[.iface 77 v] w fun e w' => e = .returned (.tuple #[.int .i64 0, .bool false]) ∧ Below w.heap.size w w' := by
  have CC := As_other_fault v w.heap.size (w.alloc (.cells #[.int .i64 0, .int .i64 0] 72)) (hg.later ((Below.refl _ _).alloc (Nat.le_refl _) _)) (by simp)
  have HC := Lib.hid CC
  clear CC
  go_enter Tryd.func24, Tryd.ntmps24
  go_wp2_with (go_at_call 38; fail)
  refine (HC.out).mono ?_
  rintro e w3 ⟨rfl, hB⟩
  have q1 : w3.cell? ⟨w.heap.size, 1, none⟩ = some (.int .i64 0) := cell_later hB (by simp)
  go_wp2
  go_ret2
  exact ⟨rfl, below_then ((Below.refl _ _).alloc (Nat.le_refl _) _) hB (by simp)⟩

theorem text_other (v : Value) (w : World) (hg : ErrType w) : Calls Tryd.prog 29 #[.iface 77 v] w fun e w' => e = .returned (.string ⟨#[101, 114, 114, 111, 114]⟩) ∧ Below w.heap.size w w' := by
  go_enter Tryd.func29, Tryd.ntmps29
  go_wp2_with fail
  refine (code_other _ _ hg).mono ?_
  rintro e w1 ⟨rfl, hB1⟩
  go_wp2_with fail
  refine (at_other _ _ (hg.later hB1)).mono ?_
  rintro e w2 ⟨rfl, hB2⟩
  go_wp2_with fail
  go_ret
  exact ⟨rfl, below_then hB1 hB2 hB1.size⟩
end Go.Proofs.YtkpibmnlmmddjaaDoor
