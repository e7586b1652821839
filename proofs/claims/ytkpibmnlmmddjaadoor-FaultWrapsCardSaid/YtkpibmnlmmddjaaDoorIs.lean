/- errors.is, errors.Is and errors.Unwrap at the program's errors, the target a code. -/
import Derived.Test.YtkpibmnlmmddjaaDoorFault
import Derived.Lib.IfaceEq
namespace Go.Proofs.YtkpibmnlmmddjaaDoor
open Go.RowKit Go.Extern.Stop Go.Stop Go.Extern

theorem noIs_inner (v : Value) (x : TypeId) (w : World) : (Instr.typeAssert (.iface 81 v) x 102 true).run Tryd.prog w = .ok (.tuple #[.nilIface, .bool false]) w := run_typeAssert_lacksB Tryd.underlying102 (by kernel_rfl) (by kernel_rfl) v x w
theorem noIs_fault (v : Value) (x : TypeId) (w : World) : (Instr.typeAssert (.iface 72 v) x 102 true).run Tryd.prog w = .ok (.tuple #[.nilIface, .bool false]) w := run_typeAssert_lacksB Tryd.underlying102 (by kernel_rfl) (by kernel_rfl) v x w
theorem noIs_code (v : Value) (x : TypeId) (w : World) : (Instr.typeAssert (.iface 45 v) x 102 true).run Tryd.prog w = .ok (.tuple #[.nilIface, .bool false]) w := run_typeAssert_lacksB Tryd.underlying102 (by kernel_rfl) (by kernel_rfl) v x w

theorem eql_inner (v : Value) (x : Int) (w : World) : (binOp .eql 26 (.iface 81 v) (.iface 45 (.int .i64 x))).run Tryd.prog w = .ok (.bool false) w := run_eql_iface_types _ _ _ _ Tryd.underlying26 (by decide) w
theorem eql_fault (v : Value) (x : Int) (w : World) : (binOp .eql 26 (.iface 72 v) (.iface 45 (.int .i64 x))).run Tryd.prog w = .ok (.bool false) w := run_eql_iface_types _ _ _ _ Tryd.underlying26 (by decide) w
theorem eql_code (c x : Int) (w : World) : (binOp .eql 26 (.iface 45 (.int .i64 c)) (.iface 45 (.int .i64 x))).run Tryd.prog w = .ok (.bool (c == x)) w := Lib.run_eql_iface_int w c x Tryd.underlying26 (by kernel_rfl) Tryd.underlying45

set_option maxRecDepth 100000 in
set_option maxHeartbeats 4000000 in
theorem is_code (ps : List ByteArray) (fault : Bool) (c a x : Int) (w : World) :
    Calls Tryd.prog 42 #[errVal ps fault c a, .iface 45 (.int .i64 x), .bool true] w
      fun e w' => e = .returned (.bool (c == x)) ∧ Below w.heap.size w w' := by
  go_enter Tryd.func42, Tryd.ntmps42
  go_wp2
  go_loopg [0] (ps.length + 2) (fun gf v wr => ∃ qs flt, v = errVal qs flt c a ∧ qs.length + (if flt = true then 1 else 0) < gf ∧ Below w.heap.size w wr)
  case atStart => exact ⟨ps, fault, rfl, by split <;> omega, Below.refl _ _⟩
  case round =>
    obtain ⟨qs, flt, rfl, hlen, hB⟩ := hrel
    cases qs with
    | nil =>
      cases flt with
      | false =>
        have eQ := eql_code c x
        have nI := noIs_code
        have nU := noUnwrap_code
        have nV := noUnwraps_code
        clear hlen
        simp only [errVal, Bool.false_eq_true, if_false]
        by_cases hcx : c = x
        · subst hcx
          simp only [beq_self_eq_true] at eQ
          go_wp2
          go_ret
          exact ⟨retB (by simp), hB⟩
        · have hf : (c == x) = false := by simpa using hcx
          simp only [hf] at eQ
          clear hf
          go_wp2
          go_ret
          exact ⟨retB (by simpa using hcx), hB⟩
      | true =>
        have eQ := eql_fault
        have nI := noIs_fault
        have yU := unwrap_fault
        simp only [errVal, if_true]
        have mU := mUnwrapF c a
        obtain ⟨g', rfl⟩ : ∃ g', gk = g' + 1 := ⟨gk - 1, by simp at hlen; omega⟩
        have hl2 : 0 < g' := by simp at hlen; omega
        clear hlen
        go_wp2_with (go_at_call 81; refine (faultUnwrap _ _ _).mono ?_; rintro e w1 ⟨rfl, hB1⟩)
        go_roundg g'
        case measure => omega
        case rel => exact ⟨[], false, rfl, by simpa using hl2, below_then hB hB1 hB.size⟩
    | cons p r =>
      obtain ⟨T, v0, hTv⟩ := errVal_iface r flt c a
      have eQ := eql_inner
      have nI := noIs_inner
      have yU := unwrap_inner
      have mU := mUnwrapI p (.iface T v0)
      obtain ⟨g', rfl⟩ : ∃ g', gk = g' + 1 := ⟨gk - 1, by simp at hlen; omega⟩
      have hl2 : r.length + (if flt = true then 1 else 0) < g' := by simp at hlen ⊢; omega
      have HL2 := Lib.hid hl2
      have HTV := Lib.hid hTv
      clear hlen hl2
      simp only [errVal]
      rw [hTv]
      clear hTv
      go_wp2_with (go_at_call 84; refine (innerUnwrap _ _ _).mono ?_; rintro e w1 ⟨rfl, hB1⟩)
      go_roundg g'
      case measure => omega
      case rel => exact ⟨r, flt, HTV.out.symm, HL2.out, below_then hB hB1 hB.size⟩

theorem mComparable (h : Value) (w : World) : (Go.method 257 100 (.agg #[h]) "Comparable").run Tryd.prog w = .ok (90, .agg #[h]) w := by kernel_rfl

set_option maxRecDepth 100000 in
set_option maxHeartbeats 1000000 in
theorem Unwrap_in (p : ByteArray) (ps : List ByteArray) (fault : Bool) (c a : Int) (w : World) :
    Calls Tryd.prog 33 #[errVal (p :: ps) fault c a] w fun e w' => e = .returned (errVal ps fault c a) ∧ Below w.heap.size w w' := by
  obtain ⟨T, v0, hTv⟩ := errVal_iface ps fault c a
  have yU := unwrap_inner
  have mU := mUnwrapI p (.iface T v0)
  simp only [errVal]
  rw [hTv]
  clear hTv
  go_enter Tryd.func33, Tryd.ntmps33
  go_wp2_with (go_at_call 84; refine (innerUnwrap _ _ _).mono ?_; rintro e w1 ⟨rfl, hB1⟩)
  go_ret
  exact ⟨rfl, hB1⟩
theorem comparable_code (w : World) : (ReflectliteType.method (fun t => do Rtype.noPackHeld "Comparable" t; (fun a => Value.bool a.comparable) <$> typeInfo t) #[.agg #[.pointer (some ⟨6, 45, none⟩)]]).run Tryd.prog w = .ok (.bool true) w := by kernel_rfl

set_option maxRecDepth 100000 in
set_option maxHeartbeats 1000000 in
theorem Is_code (ps : List ByteArray) (fault : Bool) (c a x : Int) (w : World) :
    Calls Tryd.prog 34 #[errVal ps fault c a, .iface 45 (.int .i64 x)] w fun e w' => e = .returned (.bool (c == x)) ∧ Below w.heap.size w w' := by
  have hx41 := @run_callFunc_extern Tryd.prog 41 _ ReflectliteType.typeOf Tryd.func41 (by kernel_rfl) (by kernel_rfl) (by kernel_rfl) (by kernel_rfl)
  have hx90 := @run_callFunc_extern Tryd.prog 90 _ (ReflectliteType.method (fun t => do Rtype.noPackHeld "Comparable" t; pure (.bool (← typeInfo t).comparable))) Tryd.func90 (by kernel_rfl) (by kernel_rfl) (by kernel_rfl) (by kernel_rfl)
  obtain ⟨T, v0, hTv⟩ := errVal_iface ps fault c a
  have CC := is_code ps fault c a x
  rw [hTv] at CC
  have HC := Lib.hid CC
  clear CC
  rw [hTv]
  clear hTv
  have tO := typeOf_code
  have cO := comparable_code
  have mC := mComparable
  go_enter Tryd.func34, Tryd.ntmps34
  go_wp2_with (go_at_call 42; fail)
  refine (HC.out _).mono ?_
  rintro e w1 ⟨rfl, hB1⟩
  go_wp2
  go_ret
  exact ⟨rfl, hB1⟩
end Go.Proofs.YtkpibmnlmmddjaaDoor
