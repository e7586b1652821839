/- Small words for memory: a block of cells known whole, and what keeps it; what a world's relation 'Below' gives at once. -/
import Derived.WalkKit
import Derived.Below
import Derived.Laws.OwnMore
import Derived.Deep.Draws
import Derived.Laws.Rows
import Derived.Lib.Hide
import Derived.Maps.OwnOps
namespace Go.Proofs.Ytkpibmnlmmddjaa
open Go.RowKit

theorem retB {a b : Bool} (h : a = b) : Ending.returned (.bool a) = .returned (.bool b) := by rw [h]

theorem below_draws (w : World) (n : Nat) : Below w.heap.size w (w.drewN n) := ⟨rfl, rfl, rfl, Nat.le_refl _, fun _ _ => rfl⟩
theorem below_then {B : Nat} {w a b : World} (h : Below B w a) (h2 : Below a.heap.size a b) (hB : B ≤ a.heap.size) : Below B w b := h.trans (h2.mono hB)

/-- Block g is just the cells cs of element type t, and none of them is frozen. -/
def Rw (w : World) (g : Nat) (t : TypeId) (cs : Array Value) : Prop := w.heap[g]? = some (.cells cs t (0, 0))

section
variable {w w' : World} {g : Nat} {t : TypeId} {cs : Array Value}
theorem Rw.lt (h : Rw w g t cs) : g < w.heap.size := (Array.getElem?_eq_some_iff.1 h).1
theorem Rw.cell (h : Rw w g t cs) (i : Nat) : w.cell? ⟨g, i, none⟩ = cs[i]? := cell_of_row w g i cs t (0, 0) h
theorem Rw.free (h : Rw w g t cs) (i : Nat) : w.frozen? ⟨g, i, none⟩ = false := by
  unfold Rw at h
  simp [World.frozen?, h]
theorem Rw.made (w : World) (t : TypeId) (cs : Array Value) : Rw (w.alloc (.cells cs t)) w.heap.size t cs := heap_alloc_new w _
theorem Rw.draws (h : Rw w g t cs) (n : Nat) : Rw (w.drewN n) g t cs := h
theorem Rw.drew (h : Rw w g t cs) : Rw w.drew g t cs := h
theorem Rw.alloc (h : Rw w g t cs) (o : Obj) : Rw (w.alloc o) g t cs := (Below.heap_alloc w o g h.lt).trans h
theorem Rw.store (h : Rw w g t cs) (i : Nat) (u : Value) : Rw (w.setCell ⟨g, i, none⟩ u) g t (cs.setIfInBounds i u) := by
  unfold Rw at h ⊢
  simp [World.setCell, Array.getElem?_modify, h]
theorem Rw.other (h : Rw w g t cs) {p : Addr} (hp : g ≠ p.block) (u : Value) : Rw (w.setCell p u) g t cs := (Below.heap_setCell w p u g hp).trans h
theorem Rw.below {B : Nat} (h : Rw w g t cs) (hb : Below B w w') (hg : g < B) : Rw w' g t cs := (hb.block g hg).trans h
theorem Rw.later (h : Rw w g t cs) (hb : Below w.heap.size w w') : Rw w' g t cs := h.below hb h.lt
theorem Rw.grown {row : Option Nat} (h : Rw w g t cs) (hb : w.grownBy w' row) (hg : some g ≠ row) : Rw w' g t cs := (hb.block g h.lt hg).trans h
end

theorem ownsMap_below {H : Type} {P : Program} {k : TypeId} {R : Value → Option (DataW H × List MemPlace)} {w w' : World} {b n B : Nat} {D : DataW H} (h : w.ownsMap P k R b n D) (hb : Below B w w') (hg : b < B) : w'.ownsMap P k R b n D := by
  obtain ⟨es, clock, he, F, hs, hD⟩ := h
  exact ⟨es, clock, (hb.block b hg).trans he, F, hs, hD⟩
theorem ownsMap_later {H : Type} {P : Program} {k : TypeId} {R : Value → Option (DataW H × List MemPlace)} {w w' : World} {b n : Nat} {D : DataW H} (h : w.ownsMap P k R b n D) (hb : Below w.heap.size w w') : w'.ownsMap P k R b n D :=
  ownsMap_below h hb h.lt
theorem ownsMap_store {H : Type} {P : Program} {k : TypeId} {R : Value → Option (DataW H × List MemPlace)} {w : World} {b n : Nat} {D : DataW H} (h : w.ownsMap P k R b n D) {p : Addr} (hp : b ≠ p.block) (u : Value) : (w.setCell p u).ownsMap P k R b n D := by
  obtain ⟨es, clock, he, F, hs, hD⟩ := h
  exact ⟨es, clock, (Below.heap_setCell w p u b hp).trans he, F, hs, hD⟩
end Go.Proofs.Ytkpibmnlmmddjaa
