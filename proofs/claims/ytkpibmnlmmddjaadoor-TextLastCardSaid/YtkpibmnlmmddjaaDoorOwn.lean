/- What a row that a call owns is good for: its bytes as a string, its length, its cells. -/
import Derived.Test.YtkpibmnlmmddjaaDoorKit
import Derived.Laws.BytesArg
import Derived.OwnWalk
namespace Go.Proofs.YtkpibmnlmmddjaaDoor
open Go.RowKit

section
variable {P : Program} {w : World} {base : Nat} {e : TypeId} {v : Value} {n : Nat}

theorem own_string {xs : List Int} (h : w.ownsRow base e 1 v n (xs.map (Value.int .u8))) (src dst : TypeId) (hs : P.underlying src = some (.slice e)) (he : P.underlying e = some (.int .u8)) (hd : P.underlying dst = some .string) :
    (convert src dst v).run P w = .ok (.string (strOfNums xs)) w := by
  have hl : xs.length = n := by simpa using h.1
  rcases h.2 with ⟨rfl, h0⟩ | ⟨g, cap, cur, rfl, _, hg, hn, hc, hsz, ht⟩
  · obtain rfl : xs = [] := List.eq_nil_of_length_eq_zero (by omega)
    exact run_convert_bytes_nil w src e hs he 0 0 dst hd
  · refine run_convert_bytes_arg w src e hs he g 0 n cap xs hl (fun i hi => ?_) dst hd
    have hc := h.cells (g := g) rfl i (.int .u8 (xs.getD i 0)) (by simp [List.getD, show i < xs.length by omega])
    simpa [Addr.add_lit] using hc

theorem own_len {xs : List Value} (h : w.ownsRow base e 1 v n xs) (t ti : TypeId) (ht : P.underlying t = some (.slice e)) (W : World) : (Builtin.len_ #[t] ti #[v]).run P W = .ok (goInt n) W := by
  rcases h.2 with ⟨rfl, rfl⟩ | ⟨g, cap, cur, rfl, _⟩ <;> simp [Builtin.len_, run_underlying ht]

theorem own_form {xs : List Value} (h : w.ownsRow base e 1 v n xs) (hn : 0 < n) : ∃ g cap, v = .slice (some ⟨g, 0, none⟩) n cap ∧ base ≤ g ∧ g < w.heap.size ∧ n ≤ cap ∧ cap ≤ maxLen ∧ ∀ i u, xs[i]? = some u → w.cell? ⟨g, i, none⟩ = some u := by
  rcases h.2 with ⟨_, rfl⟩ | ⟨g, cap, cur, rfl, hb, hg, hnc, hc, _⟩
  · omega
  · exact ⟨g, cap, rfl, hb, (Array.getElem?_eq_some_iff.1 hg).1, hnc, hc, fun i u hu => by simpa [Addr.add_lit] using h.cells (g := g) rfl i u hu⟩
end
end Go.Proofs.YtkpibmnlmmddjaaDoor
