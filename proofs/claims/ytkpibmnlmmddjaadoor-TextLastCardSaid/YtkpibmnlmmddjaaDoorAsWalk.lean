/- errors.as and errors.As, walked once at the two targets that the program has, over an error that is a code or a fault, wrapped any number of times. -/
import Derived.Test.YtkpibmnlmmddjaaDoorAsSet
import Derived.Deep.LoopGhost
import Derived.WalkLawsBesides
import Derived.WalkSpells
import Derived.Outline
import Derived.Deep.RegionWith
namespace Go.Proofs.YtkpibmnlmmddjaaDoor
open Go.RowKit Go.Extern.Stop Go.Stop Go.Extern

/-- The value of an error: a code, or a fault with its offset, in parts (the outermost first). -/
def errVal (ps : List ByteArray) (fault : Bool) (c a : Int) : Value :=
  match ps with
  | [] => if fault then .iface 72 (.agg #[.int .i64 c, .int .i64 a]) else .iface 45 (.int .i64 c)
  | p :: r => .iface 81 (.agg #[.string p, errVal r fault c a])

theorem noAs_inner (v : Value) (x : TypeId) (w : World) : (Instr.typeAssert (.iface 81 v) x 110 true).run Tryd.prog w = .ok (.tuple #[.nilIface, .bool false]) w := run_typeAssert_lacksB Tryd.underlying110 (by kernel_rfl) (by kernel_rfl) v x w
theorem noAs_fault (v : Value) (x : TypeId) (w : World) : (Instr.typeAssert (.iface 72 v) x 110 true).run Tryd.prog w = .ok (.tuple #[.nilIface, .bool false]) w := run_typeAssert_lacksB Tryd.underlying110 (by kernel_rfl) (by kernel_rfl) v x w
theorem noAs_code (v : Value) (x : TypeId) (w : World) : (Instr.typeAssert (.iface 45 v) x 110 true).run Tryd.prog w = .ok (.tuple #[.nilIface, .bool false]) w := run_typeAssert_lacksB Tryd.underlying110 (by kernel_rfl) (by kernel_rfl) v x w
theorem unwrap_inner (v : Value) (x : TypeId) (w : World) : (Instr.typeAssert (.iface 81 v) x 82 true).run Tryd.prog w = .ok (.tuple #[.iface 81 v, .bool true]) w := run_typeAssert_hasB Tryd.underlying82 (by kernel_rfl) v x w
theorem unwrap_fault (v : Value) (x : TypeId) (w : World) : (Instr.typeAssert (.iface 72 v) x 82 true).run Tryd.prog w = .ok (.tuple #[.iface 72 v, .bool true]) w := run_typeAssert_hasB Tryd.underlying82 (by kernel_rfl) v x w
theorem noUnwrap_code (v : Value) (x : TypeId) (w : World) : (Instr.typeAssert (.iface 45 v) x 82 true).run Tryd.prog w = .ok (.tuple #[.nilIface, .bool false]) w := run_typeAssert_lacksB Tryd.underlying82 (by kernel_rfl) (by kernel_rfl) v x w
theorem noUnwraps_code (v : Value) (x : TypeId) (w : World) : (Instr.typeAssert (.iface 45 v) x 105 true).run Tryd.prog w = .ok (.tuple #[.nilIface, .bool false]) w := run_typeAssert_lacksB Tryd.underlying105 (by kernel_rfl) (by kernel_rfl) v x w

theorem typeOf_inner (v : Value) (w : World) : (ReflectliteType.typeOf #[.iface 81 v]).run Tryd.prog w = .ok (.iface 100 (.agg #[.pointer (some ⟨6, 81, none⟩)])) w := by kernel_rfl
theorem inner_code (w : World) : (ReflectliteType.relation "AssignableTo" ReflectliteType.assignableTo #[.agg #[.pointer (some ⟨6, 81, none⟩)], .iface 100 (.agg #[.pointer (some ⟨6, 45, none⟩)])]).run Tryd.prog w = .ok (.bool false) w := by kernel_rfl
theorem inner_fault (w : World) : (ReflectliteType.relation "AssignableTo" ReflectliteType.assignableTo #[.agg #[.pointer (some ⟨6, 81, none⟩)], .iface 100 (.agg #[.pointer (some ⟨6, 72, none⟩)])]).run Tryd.prog w = .ok (.bool false) w := by kernel_rfl
theorem fault_code (w : World) : (ReflectliteType.relation "AssignableTo" ReflectliteType.assignableTo #[.agg #[.pointer (some ⟨6, 72, none⟩)], .iface 100 (.agg #[.pointer (some ⟨6, 45, none⟩)])]).run Tryd.prog w = .ok (.bool false) w := by kernel_rfl
theorem code_fault (w : World) : (ReflectliteType.relation "AssignableTo" ReflectliteType.assignableTo #[.agg #[.pointer (some ⟨6, 45, none⟩)], .iface 100 (.agg #[.pointer (some ⟨6, 72, none⟩)])]).run Tryd.prog w = .ok (.bool false) w := by kernel_rfl

theorem innerUnwrap (p : ByteArray) (v : Value) (w : World) : Calls Tryd.prog 84 #[.agg #[.string p, v]] w fun e w' => e = .returned v ∧ Below w.heap.size w w' := by
  go_enter Tryd.func84, Tryd.ntmps84
  go_wp2
  go_ret
  exact ⟨rfl, (Below.refl _ _).alloc (Nat.le_refl _) _⟩

theorem faultUnwrap (c a : Int) (w : World) : Calls Tryd.prog 81 #[.agg #[.int .i64 c, .int .i64 a]] w fun e w' => e = .returned (.iface 45 (.int .i64 c)) ∧ Below w.heap.size w w' := by
  go_enter Tryd.func81, Tryd.ntmps81
  go_wp2
  go_ret
  exact ⟨rfl, (Below.refl _ _).alloc (Nat.le_refl _) _⟩

theorem mAssignable (h : Value) (w : World) : (Go.method 257 100 (.agg #[h]) "AssignableTo").run Tryd.prog w = .ok (89, .agg #[h]) w := by kernel_rfl

theorem mUnwrapI (p : ByteArray) (v : Value) (w : World) : (Go.method 257 81 (.agg #[.string p, v]) "Unwrap").run Tryd.prog w = .ok (84, .agg #[.string p, v]) w := by kernel_rfl
theorem mUnwrapF (c a : Int) (w : World) : (Go.method 257 72 (.agg #[.int .i64 c, .int .i64 a]) "Unwrap").run Tryd.prog w = .ok (81, .agg #[.int .i64 c, .int .i64 a]) w := by kernel_rfl

theorem errVal_iface (ps : List ByteArray) (fault : Bool) (c a : Int) : ∃ T v, errVal ps fault c a = .iface T v := by
  cases ps with
  | nil => cases fault <;> exact ⟨_, _, rfl⟩
  | cons p r => exact ⟨_, _, rfl⟩

/-- The Value that errors.As hands on. -/
abbrev valP (T : TypeId) (b : Nat) : Value := .agg #[.pointer (some ⟨6, T, none⟩), .pointer (some ⟨b, 0, none⟩), .int .u64 150]

set_option maxRecDepth 100000 in
set_option maxHeartbeats 4000000 in
theorem as_code (ps : List ByteArray) (fault : Bool) (c a : Int) (t : Addr) (x : Value) (b : Nat) (old : Value) (w : World) (hb : w.cell? ⟨b, 0, none⟩ = some (.pointer (some t))) (ht : w.cell? t = some old) (hf : w.frozen? t = false) :
    Calls Tryd.prog 46 #[errVal ps fault c a, x, valP 74 b, .iface 100 (.agg #[.pointer (some ⟨6, 45, none⟩)])] w
      fun e w' => e = .returned (.bool true) ∧ ∃ W, Below w.heap.size w W ∧ w' = W.setCell t (.int .i64 c) := by
  have hx41 := @run_callFunc_extern Tryd.prog 41 _ ReflectliteType.typeOf Tryd.func41 (by kernel_rfl) (by kernel_rfl) (by kernel_rfl) (by kernel_rfl)
  have hx89 := @run_callFunc_extern Tryd.prog 89 _ (ReflectliteType.relation "AssignableTo" ReflectliteType.assignableTo) Tryd.func89 (by kernel_rfl) (by kernel_rfl) (by kernel_rfl) (by kernel_rfl)
  have hx43 := @run_callFunc_extern Tryd.prog 43 _ (fun args => ReflectliteValue.unpack (args.getD 0 (.tuple #[]))) Tryd.func43 (by kernel_rfl) (by kernel_rfl) (by kernel_rfl) (by kernel_rfl)
  have hx48 := @run_callFunc_extern Tryd.prog 48 _ (ReflectliteValue.method (ReflectliteValue.valueError "reflectlite.Value.Elem" 0) ReflectliteValue.elem) Tryd.func48 (by kernel_rfl) (by kernel_rfl) (by kernel_rfl) (by kernel_rfl)
  have hx49 := @run_callFunc_extern Tryd.prog 49 _ ReflectliteValue.set Tryd.func49 (by kernel_rfl) (by kernel_rfl) (by kernel_rfl) (by kernel_rfl)
  go_enter Tryd.func46, Tryd.ntmps46
  go_wp2
  go_loopg [0] (ps.length + 2) (fun gf v wr => ∃ qs flt, v = errVal qs flt c a ∧ qs.length + (if flt = true then 1 else 0) < gf ∧ Below w.heap.size w wr ∧ Rw wr w.heap.size 92 #[.pointer (some ⟨6, 74, none⟩), .pointer (some ⟨b, 0, none⟩), .int .u64 150])
  case atStart => exact ⟨ps, fault, rfl, by split <;> omega, (Below.refl _ _).alloc (Nat.le_refl _) _, Rw.made _ _ _⟩
  case round =>
    obtain ⟨qs, flt, rfl, hlen, hB, hbox⟩ := hrel
    have b0 : wr.cell? ⟨w.heap.size, 0, none⟩ = some (.pointer (some ⟨6, 74, none⟩)) := hbox.cell 0
    have b1 : wr.cell? ⟨w.heap.size, 1, none⟩ = some (.pointer (some ⟨b, 0, none⟩)) := hbox.cell 1
    have b2 : wr.cell? ⟨w.heap.size, 2, none⟩ = some (.int .u64 150) := hbox.cell 2
    have mA := mAssignable
    cases qs with
    | nil =>
      cases flt with
      | false =>
        have tO := typeOf_code
        have aC := assignable_code
        have hb' : wr.cell? ⟨b, 0, none⟩ = some (.pointer (some t)) := cell_later hB hb
        have ht' : wr.cell? t = some old := cell_later hB ht
        have hf' : wr.frozen? t = false := by rw [hB.frozen (cell_lt ht)]; exact hf
        have eV := elemV_code ⟨b, 0, none⟩ t wr hb'
        have vE := valueOfE_code c wr
        have hlt : t.block < wr.heap.size := by have := cell_lt ht; have := hB.size; omega
        have sC := set_code t ⟨wr.heap.size, 0, none⟩ c old (wr.alloc (.cells #[.int .i64 c] 45)) (by simp) (by rw [World.cell?_alloc_lt _ _ t hlt]; exact ht') (by rw [World.frozen?_alloc_old _ _ t (Nat.ne_of_lt hlt)]; exact hf')
        clear hlen
        simp only [errVal, Bool.false_eq_true, if_false]
        go_wp2
        go_ret
        exact ⟨rfl, _, hB.alloc hB.size _, rfl⟩
      | true =>
        have tO := typeOf_fault
        have aC := fault_code
        have nA := noAs_fault
        have yU := unwrap_fault
        simp only [errVal, if_true]
        have mU := mUnwrapF c a
        obtain ⟨g', rfl⟩ : ∃ g', gk = g' + 1 := ⟨gk - 1, by simp at hlen; omega⟩
        have hl2 : 0 < g' := by simp at hlen; omega
        clear hlen
        go_wp2_with (go_at_call 81; refine (faultUnwrap _ _ _).mono ?_; rintro e w1 ⟨rfl, hB1⟩)
        go_roundg g'
        case measure => omega
        case rel => exact ⟨[], false, rfl, by simpa using hl2, below_then hB hB1 hB.size, hbox.later hB1⟩
    | cons p r =>
      obtain ⟨T, v0, hTv⟩ := errVal_iface r flt c a
      have tO := typeOf_inner
      have aC := inner_code
      have nA := noAs_inner
      have yU := unwrap_inner
      have mU := mUnwrapI p (.iface T v0)
      obtain ⟨g', rfl⟩ : ∃ g', gk = g' + 1 := ⟨gk - 1, by simp at hlen; omega⟩
      have hl2 : r.length + (if flt = true then 1 else 0) < g' := by simp at hlen ⊢; omega
      have HL2 := Lib.hid hl2
      have HTV := Lib.hid hTv
      clear hlen hl2
      simp only [errVal]
      rw [hTv]
      clear hTv
      go_wp2_with (go_at_call 84; refine (innerUnwrap _ _ _).mono ?_; rintro e w1 ⟨rfl, hB1⟩)
      go_roundg g'
      case measure => omega
      case rel => exact ⟨r, flt, HTV.out.symm, HL2.out, below_then hB hB1 hB.size, hbox.later hB1⟩
end Go.Proofs.YtkpibmnlmmddjaaDoor
