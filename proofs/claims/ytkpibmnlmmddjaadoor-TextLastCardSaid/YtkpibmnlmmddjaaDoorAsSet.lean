/- (reflectlite.Value).Set at the two kinds of targets: what it stores, and where. -/
import Derived.Test.YtkpibmnlmmddjaaDoorAs
namespace Go.Proofs.YtkpibmnlmmddjaaDoor
open Go.RowKit Go.Extern.Stop Go.Stop Go.Extern

theorem set_eq (v x : Value) : ReflectliteValue.set #[v, x] = (do
    let (some (dst, a, fl), some (src, b, _)) := (← ReflectliteValue.parts v, ← ReflectliteValue.parts x)
      | unsupported (.noEntry "extern/(internal/reflectlite.Value).Set.zeroValue")
    if fl / ReflectliteValue.flagAddr % 2 == 0 then unsupported (.noEntry "extern/(internal/reflectlite.Value).Set.unaddressable")
    let val ← loadVar src b
    if ← Rtype.directlyAssignable dst src then storeVar dst a val
    else if ← Rtype.implements dst src then
      if (← Rtype.kind src) == 20 then
        match val with
        | .nilIface => unsupported (.noEntry "extern/reflectlite: a nil value of one interface type handed on as a value of another")
        | _ => storeVar dst a val
      else storeVar dst a (.iface src val)
    else panicString ("reflectlite.Set: value of type " ++ (← Rtype.spelt src) ++ " is not assignable to type " ++ (← Rtype.spelt dst))
    pure (.tuple #[])) := rfl

theorem set_code (ta b : Addr) (c : Int) (old : Value) (W : World) (hb : W.cell? b = some (.int .i64 c)) (ht : W.cell? ta = some old) (hf : W.frozen? ta = false) :
    (ReflectliteValue.set #[.agg #[.pointer (some ⟨6, 45, none⟩), .pointer (some ta), .int .u64 386], .agg #[.pointer (some ⟨6, 45, none⟩), .pointer (some b), .int .u64 130]]).run Tryd.prog W
      = .ok (.tuple #[]) (W.setCell ta (.int .i64 c)) := by
  rw [set_eq]
  simp only [Sem.run_bind, partsA_code, partsE_code, Result.andThen]
  simp [ReflectliteValue.flagAddr, loadVar, isAgg, underlying, Tryd.underlying45, hb, Result.andThen, direct_code, storeVar, Value.cells, storeCells, Addr.add]
  rw [run_store Tryd.prog W ta _ _ (by rfl)]
  simp [ht, hf]

theorem set_fault (t b : Nat) (c a : Int) (o0 o1 : Value) (W : World) (hb : W.cell? ⟨b, 0, none⟩ = some (.int .i64 c)) (hb1 : W.cell? ⟨b, 1, none⟩ = some (.int .i64 a)) (h0 : W.cell? ⟨t, 0, none⟩ = some o0) (h1 : W.cell? ⟨t, 1, none⟩ = some o1) (f0 : W.frozen? ⟨t, 0, none⟩ = false) (f1 : W.frozen? ⟨t, 1, none⟩ = false) :
    (ReflectliteValue.set #[.agg #[.pointer (some ⟨6, 72, none⟩), .pointer (some ⟨t, 0, none⟩), .int .u64 409], .agg #[.pointer (some ⟨6, 72, none⟩), .pointer (some ⟨b, 0, none⟩), .int .u64 153]]).run Tryd.prog W
      = .ok (.tuple #[]) ((W.setCell ⟨t, 0, none⟩ (.int .i64 c)).setCell ⟨t, 1, none⟩ (.int .i64 a)) := by
  rw [set_eq]
  simp only [Sem.run_bind, partsA_fault, partsE_fault, Result.andThen]
  simp [ReflectliteValue.flagAddr, loadVar, isAgg, underlying, Tryd.underlying72, hb, hb1, Result.andThen, direct_fault, storeVar, Value.cells, storeCells, Addr.add, loadCells, size_fault]
  have hl : (loadCellsFrom ⟨b, 0, none⟩ 0 2 #[]).run Tryd.prog W = .ok #[.int .i64 c, .int .i64 a] W := by
    simp [go_sem, loadCellsFrom, hb, hb1, Addr.add]
  have h1' : (W.setCell ⟨t, 0, none⟩ (.int .i64 c)).cell? ⟨t, 1, none⟩ = some o1 := (World.cell?_setCell_other W ⟨t, 0, none⟩ ⟨t, 1, none⟩ _ (by simp)).trans h1
  have f1' : (W.setCell ⟨t, 0, none⟩ (.int .i64 c)).frozen? ⟨t, 1, none⟩ = false := by rw [World.frozen?_setCell]; exact f1
  rw [hl]
  simp [storeCells, Addr.add, Result.andThen]
  rw [run_store Tryd.prog W ⟨t, 0, none⟩ _ _ (by rfl)]
  simp [h0, f0, stored]
  rw [run_store Tryd.prog _ ⟨t, 1, none⟩ _ _ (by rfl)]
  simp [h1', f1', stored]
end Go.Proofs.YtkpibmnlmmddjaaDoor
