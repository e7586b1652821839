/- The handle of the type error, out of the rows' list of laid variables. -/
import Derived.Test.YtkpibmnlmmddjaaDoorFault
import Derived.Test.YtkpibmnlmmddjaaDoorLaw
import Derived.Test.YtkpibmnlmmddjaaDoorCards
import Derived.Test.YtkpibmnlmmddjaaDoorTie
namespace Go.Proofs.YtkpibmnlmmddjaaDoor
open Go.Joins Go.ChangeShapes Go.WideShapes Go.RowKit Go.Deep

theorem own : ownKnob Tryd.prog.godebug = none := by kernel_rfl

set_option maxRecDepth 100000 in
theorem handle_of {W : World} (h : ∃ d, d.handleName? = some [101, 114, 114, 111, 114] ∧ d.funcsIn? = Option.none ∧ handlesMet Tryd.prog [("errors.errorType", d)] W) : ErrType W := by
  obtain ⟨d, hd, hf, h⟩ := h
  have h' := h ("errors.errorType", d) (List.mem_singleton.2 rfl)
  simp only [hf] at h'
  obtain ⟨name, u, ty, e1, e2, e3, e4, e5⟩ := h'
  have en : name = [101, 114, 114, 111, 114] := (Option.some.inj (hd.symm.trans e1)).symm
  subst en
  obtain rfl : 100 = u := Option.some.inj ((show (Tryd.prog.cutTypes.find? (·.1 == "internal/reflectlite.rtype")).map (·.2) = some 100 by kernel_rfl).symm.trans e2)
  have hm : ty ∈ (List.range Tryd.prog.types.size).filter fun t => Tryd.prog.rowNamed t [101, 114, 114, 111, 114] := List.mem_filter.2 ⟨List.mem_range.2 e3, e4⟩
  rw [show ((List.range Tryd.prog.types.size).filter fun t => Tryd.prog.rowNamed t [101, 114, 114, 111, 114]) = [26] by kernel_rfl] at hm
  obtain rfl := List.mem_singleton.1 hm
  have hh : typeHandle Tryd.prog 26 = .pointer (some ⟨6, 26, none⟩) := by kernel_rfl
  rw [hh] at e5
  show W.cell? ⟨2, 0, Option.none⟩ = _
  simpa using World.var?_cell (show Tryd.prog.globalNamed "errors.errorType" = some 2 by kernel_rfl) e5 0
end Go.Proofs.YtkpibmnlmmddjaaDoor
