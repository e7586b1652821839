/- Small words for memory: a block of cells known whole, and what keeps it; what a world's relation 'Below' gives at once. -/
import Derived.WalkKit
import Derived.Below
import Derived.Laws.OwnMore
import Derived.Deep.Draws
import Derived.Laws.Rows
import Derived.Lib.Hide
import Derived.Maps.OwnOps
namespace Go.Proofs.YtkpibmnlmmddjaaDoor
open Go.RowKit

theorem retB {a b : Bool} (h : a = b) : Ending.returned (.bool a) = .returned (.bool b) := by rw [h]

theorem below_draws (w : World) (n : Nat) : Below w.heap.size w (w.drewN n) := ⟨rfl, rfl, rfl, Nat.le_refl _, fun _ _ => rfl⟩
theorem below_then {B : Nat} {w a b : World} (h : Below B w a) (h2 : Below a.heap.size a b) (hB : B ≤ a.heap.size) : Below B w b := h.trans (h2.mono hB)

theorem cell_lt {w : World} {p : Addr} {v : Value} (h : w.cell? p = some v) : p.block < w.heap.size := by
  rcases Nat.lt_or_ge p.block w.heap.size with h' | h'
  · exact h'
  · simp [World.cell?, Array.getElem?_eq_none h'] at h
theorem cell_later {w w' : World} {p : Addr} {v : Value} (hb : Below w.heap.size w w') (h : w.cell? p = some v) : w'.cell? p = some v := (hb.cell (cell_lt h)).trans h

theorem grown_below {w W : World} (h : Below w.heap.size w W) (row : Option Nat) : w.grownBy W row := ⟨h.os, h.tape, h.output, h.size, fun i hi _ => h.block i hi⟩
theorem grown_store {w W : World} {g : Nat} (h : w.grownBy W (some g)) {p : Addr} (hp : p.block = g) (u : Value) : w.grownBy (W.setCell p u) (some g) :=
  ⟨h.os, h.tape, h.output, by simpa [World.setCell] using h.size, fun i hi hne => (Below.heap_setCell W p u i (fun e => hne (by rw [e, hp]))).trans (h.block i hi hne)⟩
theorem grown_alloc {w W : World} {row : Option Nat} (h : w.grownBy W row) (o : Obj) : w.grownBy (W.alloc o) row :=
  ⟨h.os, h.tape, h.output, Nat.le_trans h.size (by simp), fun i hi hne => (Below.heap_alloc W o i (Nat.lt_of_lt_of_le hi h.size)).trans (h.block i hi hne)⟩
theorem grown_then {a b c : World} {row : Option Nat} (h : a.grownBy b row) (k : b.grownBy c row) : a.grownBy c row :=
  ⟨k.os.trans h.os, k.tape.trans h.tape, k.output.trans h.output, Nat.le_trans h.size k.size, fun i hi hne => (k.block i (Nat.lt_of_lt_of_le hi h.size) hne).trans (h.block i hi hne)⟩
/-- What grows on a new block alone leaves all that was below as it was. -/
theorem below_grown {B : Nat} {a b c : World} {g : Nat} (h : Below B a b) (k : b.grownBy c (some g)) (hB : B ≤ b.heap.size) (hg : B ≤ g) : Below B a c := h.grown k hB (fun i hi => by injection hi with hi; omega)

/-- Block g is just the cells cs of element type t, and none of them is frozen. -/
def Rw (w : World) (g : Nat) (t : TypeId) (cs : Array Value) : Prop := w.heap[g]? = some (.cells cs t (0, 0))

section
variable {w w' : World} {g : Nat} {t : TypeId} {cs : Array Value}
theorem Rw.lt (h : Rw w g t cs) : g < w.heap.size := (Array.getElem?_eq_some_iff.1 h).1
theorem Rw.cell (h : Rw w g t cs) (i : Nat) : w.cell? ⟨g, i, none⟩ = cs[i]? := cell_of_row w g i cs t (0, 0) h
theorem Rw.free (h : Rw w g t cs) (i : Nat) : w.frozen? ⟨g, i, none⟩ = false := by
  unfold Rw at h
  simp [World.frozen?, h]
theorem Rw.made (w : World) (t : TypeId) (cs : Array Value) : Rw (w.alloc (.cells cs t)) w.heap.size t cs := heap_alloc_new w _
theorem Rw.draws (h : Rw w g t cs) (n : Nat) : Rw (w.drewN n) g t cs := h
theorem Rw.drew (h : Rw w g t cs) : Rw w.drew g t cs := h
theorem Rw.alloc (h : Rw w g t cs) (o : Obj) : Rw (w.alloc o) g t cs := (Below.heap_alloc w o g h.lt).trans h
theorem Rw.store (h : Rw w g t cs) (i : Nat) (u : Value) : Rw (w.setCell ⟨g, i, none⟩ u) g t (cs.setIfInBounds i u) := by
  unfold Rw at h ⊢
  simp [World.setCell, Array.getElem?_modify, h]
theorem Rw.other (h : Rw w g t cs) {p : Addr} (hp : g ≠ p.block) (u : Value) : Rw (w.setCell p u) g t cs := (Below.heap_setCell w p u g hp).trans h
theorem Rw.below {B : Nat} (h : Rw w g t cs) (hb : Below B w w') (hg : g < B) : Rw w' g t cs := (hb.block g hg).trans h
theorem Rw.later (h : Rw w g t cs) (hb : Below w.heap.size w w') : Rw w' g t cs := h.below hb h.lt
theorem Rw.grown {row : Option Nat} (h : Rw w g t cs) (hb : w.grownBy w' row) (hg : some g ≠ row) : Rw w' g t cs := (hb.block g h.lt hg).trans h
end

theorem ownsMap_below {H : Type} {P : Program} {k : TypeId} {R : Value → Option (DataW H × List MemPlace)} {w w' : World} {b n B : Nat} {D : DataW H} (h : w.ownsMap P k R b n D) (hb : Below B w w') (hg : b < B) : w'.ownsMap P k R b n D := by
  obtain ⟨es, clock, he, F, hs, hD⟩ := h
  exact ⟨es, clock, (hb.block b hg).trans he, F, hs, hD⟩
theorem ownsMap_later {H : Type} {P : Program} {k : TypeId} {R : Value → Option (DataW H × List MemPlace)} {w w' : World} {b n : Nat} {D : DataW H} (h : w.ownsMap P k R b n D) (hb : Below w.heap.size w w') : w'.ownsMap P k R b n D :=
  ownsMap_below h hb h.lt
theorem ownsMap_store {H : Type} {P : Program} {k : TypeId} {R : Value → Option (DataW H × List MemPlace)} {w : World} {b n : Nat} {D : DataW H} (h : w.ownsMap P k R b n D) {p : Addr} (hp : b ≠ p.block) (u : Value) : (w.setCell p u).ownsMap P k R b n D := by
  obtain ⟨es, clock, he, F, hs, hD⟩ := h
  exact ⟨es, clock, (Below.heap_setCell w p u b hp).trans he, F, hs, hD⟩
end Go.Proofs.YtkpibmnlmmddjaaDoor
