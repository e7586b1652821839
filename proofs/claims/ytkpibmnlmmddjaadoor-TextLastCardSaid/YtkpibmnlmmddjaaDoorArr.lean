/- Whole arrays of bytes in blocks: what is loaded, what is stored, what a function with such a result gives back. -/
import Derived.Test.YtkpibmnlmmddjaaDoorOwn
import Derived.Deep.MidRow
import Derived.Laws.ResultCell
namespace Go.Proofs.YtkpibmnlmmddjaaDoor
open Go.RowKit

/-- An array of bytes as a value. -/
def cells8 (l : List Nat) : List Value := l.map fun n : Nat => Value.int .u8 (n : Int)
def arr (l : List Nat) : Value := .agg (cells8 l).toArray

theorem cells8_length (l : List Nat) : (cells8 l).length = l.length := by simp [cells8]
theorem cells8_one (l : List Nat) : ∀ v ∈ cells8 l, v.oneCell' = true := by
  intro v hv
  obtain ⟨n, _, rfl⟩ := List.mem_map.1 hv
  rfl
theorem cells8_get (l : List Nat) {i : Nat} (h : i < l.length) : (cells8 l)[i]? = some (.int .u8 (l.getD i 0 : Nat)) := by simp [cells8, List.getD, h]

section
variable {w w' : World} {g : Nat} {t : TypeId} {l : List Nat} {B : Nat} {a : World}
theorem Rw.range (h : Rw w g t (cells8 l).toArray) : w.rangeAt g 0 (cells8 l) := fun j v hv => by
  rw [Nat.zero_add, h.cell j]
  simpa using hv
theorem Rw.there {cs : Array Value} (h : Rw w g t cs) {n : Nat} (hn : cs.size = n) : w.there g 0 n := fun j hj => by
  rw [Nat.zero_add, h.cell j, h.free j, Array.getElem?_eq_getElem (by omega)]
  exact ⟨rfl, rfl⟩
theorem Rw.cell8 (h : Rw w g t (cells8 l).toArray) {i : Nat} (hi : i < l.length) : w.cell? ⟨g, i, none⟩ = some (.int .u8 (l.getD i 0 : Nat)) := by
  rw [h.cell i]
  simpa using cells8_get l hi
theorem Rw.put8 (h : Rw w g t (cells8 l).toArray) (i n : Nat) : Rw (w.setCell ⟨g, i, none⟩ (.int .u8 (n : Int))) g t (cells8 (l.set i n)).toArray := by
  have := h.store i (.int .u8 (n : Int))
  have e : ((cells8 l).toArray.setIfInBounds i (.int .u8 (n : Int))) = (cells8 (l.set i n)).toArray := by
    simp [cells8, List.map_set]
  rw [e] at this
  exact this

theorem Rw.setCells (h : Rw w g t (cells8 l).toArray) {m : List Nat} (hm : m.length = l.length) : Rw (w.setCells g 0 (cells8 m)) g t (cells8 m).toArray := by
  have key : ∀ (vs : List Value) (o : Nat) (W : World) (cs : List Value), Rw W g t cs.toArray → o + vs.length ≤ cs.length → Rw (W.setCells g o vs) g t (cs.take o ++ vs ++ cs.drop (o + vs.length)).toArray := by
    intro vs
    induction vs with
    | nil => intro o W cs hW hle; simpa [World.setCells] using hW
    | cons v vs ih =>
      intro o W cs hW hle
      simp only [List.length_cons] at hle
      have h1 : Rw (W.setCell ⟨g, o, none⟩ v) g t (cs.set o v).toArray := by simpa using hW.store o v
      have h2 := ih (o + 1) _ _ h1 (by simp; omega)
      have e : (cs.set o v).take (o + 1) ++ vs ++ (cs.set o v).drop (o + 1 + vs.length) = cs.take o ++ v :: vs ++ cs.drop (o + (v :: vs).length) := by
        have e1 : (cs.set o v).take (o + 1) = cs.take o ++ [v] := by
          rw [List.take_succ_eq_append_getElem (by simp; omega)]
          simp [List.take_set_of_le]
        rw [List.drop_set_of_lt (by omega), e1]
        simp [Nat.add_assoc, Nat.add_comm 1]
      rw [e] at h2
      exact h2
  have := key (cells8 m) 0 w (cells8 l) h (by simp [cells8_length, hm])
  have hd : (cells8 l).drop (cells8 m).length = [] := List.drop_eq_nil_of_le (by simp [cells8_length, hm])
  simpa [hd] using this

theorem below_setCells (hg : B ≤ g) : ∀ (vs : List Value) (o : Nat) (w : World), Below B a w → Below B a (w.setCells g o vs)
  | [], _, _, h => h
  | v :: vs, o, w, h => below_setCells hg vs (o + 1) _ (h.setCell hg v)
end

theorem ret_cell_tmp {P : Program} {fn : Func} {p u : Tmp} {ty : TypeId} (h : fn.results = #[.cell p ty, .tmp u]) {tmps : Array Value} {w : World} {g : Nat} {cs : List Value} {d : TypeDesc}
    (hp : tmps.getD p undef = .pointer (some ⟨g, 0, none⟩)) (hc : w.rangeAt g 0 cs) (hu : P.underlying ty = some d) (hd : d.isRow = true) (hi : (P.info? ty).map (·.size) = some cs.length) :
    (results fn tmps).run P w = .ok (.tuple #[.agg cs.toArray, tmps.getD u undef]) w := by
  rw [results_cell_tmp h, hp]
  simp [asAddr, Result.andThen, run_loadVar_mid w g 0 ty cs d hc hu hd hi]

theorem ret_cell {P : Program} {fn : Func} {p : Tmp} {ty : TypeId} (h : fn.results = #[.cell p ty]) {tmps : Array Value} {w : World} {g : Nat} {cs : List Value} {d : TypeDesc}
    (hp : tmps.getD p undef = .pointer (some ⟨g, 0, none⟩)) (hc : w.rangeAt g 0 cs) (hu : P.underlying ty = some d) (hd : d.isRow = true) (hi : (P.info? ty).map (·.size) = some cs.length) :
    (results fn tmps).run P w = .ok (.agg cs.toArray) w := by
  have hp' : tmps[p]?.getD undef = .pointer (some ⟨g, 0, none⟩) := by simpa using hp
  simp [results, h, hp', asAddr, run_loadVar_mid w g 0 ty cs d hc hu hd hi]

theorem ret_cell_tmp2 {P : Program} {fn : Func} {p u v : Tmp} {ty : TypeId} (h : fn.results = #[.cell p ty, .tmp u, .tmp v]) {tmps : Array Value} {w : World} {g : Nat} {cs : List Value} {d : TypeDesc}
    (hp : tmps.getD p undef = .pointer (some ⟨g, 0, none⟩)) (hc : w.rangeAt g 0 cs) (hu : P.underlying ty = some d) (hd : d.isRow = true) (hi : (P.info? ty).map (·.size) = some cs.length) :
    (results fn tmps).run P w = .ok (.tuple #[.agg cs.toArray, tmps.getD u undef, tmps.getD v undef]) w := by
  have hp' : tmps[p]?.getD undef = .pointer (some ⟨g, 0, none⟩) := by simpa using hp
  simp [results, h, hp', asAddr, run_loadVar_mid w g 0 ty cs d hc hu hd hi]
end Go.Proofs.YtkpibmnlmmddjaaDoor
