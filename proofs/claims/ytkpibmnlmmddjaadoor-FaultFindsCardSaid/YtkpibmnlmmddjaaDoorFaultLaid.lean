/- What the rows' list of laid variables gives the fault laws: the words of fault.names, the powers of ten, the handle of the type error. A description as an argument, opened. -/
import Derived.Test.YtkpibmnlmmddjaaDoorFaultArg
import Derived.Test.YtkpibmnlmmddjaaDoorLaw
import Derived.Test.YtkpibmnlmmddjaaDoorCards
import Derived.Test.YtkpibmnlmmddjaaDoorTie
import Derived.SliceStrings
namespace Go.Proofs.YtkpibmnlmmddjaaDoor
open Go.Joins Go.ChangeShapes Go.WideShapes Go.RowKit Go.Deep

theorem own : ownKnob Tryd.prog.godebug = none := by kernel_rfl

abbrev faultLaid : List (String × DataW Unit) := Rows.faultShiftsRow.laid

theorem fault_door (os : Os) (args : Array Value) : laidMetH Tryd.prog faultLaid ((World.doorLaid Tryd.prog 400 os).forCall (fun _ _ => 0) ⟨#[], args, []⟩).memory :=
  laidMetH_of_parts3 (fuel := 8) (laidMet_of_run' 8 (by kernel_rfl) (by kernel_rfl)) (by kernel_rfl) (by kernel_rfl)

set_option maxRecDepth 100000 in
theorem handle_of {W : World} (h : ∃ d, d.handleName? = some [101, 114, 114, 111, 114] ∧ d.funcsIn? = Option.none ∧ handlesMet Tryd.prog [("errors.errorType", d)] W) : ErrType W := by
  obtain ⟨d, hd, hf, h⟩ := h
  have h' := h ("errors.errorType", d) (List.mem_singleton.2 rfl)
  simp only [hf] at h'
  obtain ⟨name, u, ty, e1, e2, e3, e4, e5⟩ := h'
  have en : name = [101, 114, 114, 111, 114] := (Option.some.inj (hd.symm.trans e1)).symm
  subst en
  obtain rfl : 100 = u := Option.some.inj ((show (Tryd.prog.cutTypes.find? (·.1 == "internal/reflectlite.rtype")).map (·.2) = some 100 by kernel_rfl).symm.trans e2)
  have hm : ty ∈ (List.range Tryd.prog.types.size).filter fun t => Tryd.prog.rowNamed t [101, 114, 114, 111, 114] := List.mem_filter.2 ⟨List.mem_range.2 e3, e4⟩
  rw [show ((List.range Tryd.prog.types.size).filter fun t => Tryd.prog.rowNamed t [101, 114, 114, 111, 114]) = [26] by kernel_rfl] at hm
  obtain rfl := List.mem_singleton.1 hm
  have hh : typeHandle Tryd.prog 26 = .pointer (some ⟨6, 26, none⟩) := by kernel_rfl
  rw [hh] at e5
  show W.cell? ⟨2, 0, Option.none⟩ = _
  simpa using World.var?_cell (show Tryd.prog.globalNamed "errors.errorType" = some 2 by kernel_rfl) e5 0

set_option maxRecDepth 100000 in
theorem env_of {W : World} (h : laidMetH Tryd.prog faultLaid W) : Env W := by
  have h' : laidMet Tryd.prog (faultLaid.filter fun x => x.2.handleName?.isNone) W ∧ handlesMet Tryd.prog (faultLaid.filter fun x => x.2.handleName?.isSome) W := h
  have e1 : (faultLaid.filter fun x => x.2.handleName?.isNone) = [("math/bits.deBruijn32tab", Rows.laid_math_bits_deBruijn32tab), ("math/bits.deBruijn64tab", Rows.laid_math_bits_deBruijn64tab), ("internal/strconv.uint64pow10", Rows.laid_internal_strconv_uint64pow10), ("mooring/fault.names", Rows.laid_mooring_fault_names)] := by rfl
  have e2 : (faultLaid.filter fun x => x.2.handleName?.isSome) = [("errors.errorType", Rows.laid_errors_errorType)] := by rfl
  rw [e1, e2] at h'
  obtain ⟨h1, h2⟩ := h'
  have h3 := h1.tail.tail
  have h4 := h3.tail
  refine ⟨handle_of ⟨_, by rfl, by rfl, h2⟩, ?_, ?_⟩
  · exact Lib.tabIs_of_head (rest := [("mooring/fault.names", Rows.laid_mooring_fault_names)]) (zs := Lib.pow10Tab) (g := 3) (t := 122) (e := 115) (n := 20) (by kernel_rfl) (by kernel_rfl) Tryd.underlying122 Tryd.underlying115 (by kernel_rfl) (by kernel_rfl) h3
  · obtain ⟨ps, ⟨g', t', cs, fuel, p, q, hg', ht', hvar, hd, _, _⟩, _⟩ := h4
    obtain rfl := Option.some.inj ((show Tryd.prog.globalNamed "mooring/fault.names" = some 1 by kernel_rfl).symm.trans hg')
    obtain rfl := Option.some.inj ((show (Tryd.prog.globals[1]?).map (·.type) = some 76 by kernel_rfl).symm.trans ht')
    obtain ⟨xs, m1, rfl, hx1, hlen, hn3, hel⟩ := DataW.trod_array Tryd.underlying76 hd
    intro i hi
    have hc1 : Tryd.prog.cellsOf 9 = 1 := by kernel_rfl
    have hc : Tryd.prog.cellsOf 76 = 13 := by kernel_rfl
    have hi' := hel i hi
    rw [hc1, Nat.mul_one] at hi'
    have hxi : xs[i]? = some (xs[i]'(by omega)) := List.getElem?_eq_getElem (by omega)
    rw [hxi] at hi'
    obtain ⟨s, e3, e4, _⟩ := DataW.trod_string Tryd.underlying9 hi'
    have hcell := World.var?_cell (show Tryd.prog.globalNamed "mooring/fault.names" = some 1 by kernel_rfl) hvar i
    have hcs : cs[i]? = some (.string s) := by
      have : (cs.toList.drop i).take 1 = [.string s] := e3
      have h5 : ((cs.toList.drop i).take 1)[0]? = some (.string s) := by rw [this]; rfl
      simpa using h5
    rw [hcs] at hcell
    rw [hcell]
    have hx2 : Rows.laid_mooring_fault_names = DataW.agg (xs.map (·.1)) := (Prod.mk.inj hx1).1
    unfold Rows.laid_mooring_fault_names at hx2
    injection hx2 with hx3
    have h6 : (xs.map (·.1))[i]? = some (.lit (.string s.data.toList)) := by
      rw [List.getElem?_map, hxi, e4]
      rfl
    rw [← hx3] at h6
    have h7 : s.data.toList = (nameAt i).data.toList := by
      have hi13 : i = 0 ∨ i = 1 ∨ i = 2 ∨ i = 3 ∨ i = 4 ∨ i = 5 ∨ i = 6 ∨ i = 7 ∨ i = 8 ∨ i = 9 ∨ i = 10 ∨ i = 11 ∨ i = 12 := by omega
      rcases hi13 with rfl | rfl | rfl | rfl | rfl | rfl | rfl | rfl | rfl | rfl | rfl | rfl | rfl <;>
      · simp only [List.getElem?_cons_zero, List.getElem?_cons_succ, Option.some.injEq, DataW.lit.injEq, Lit.string.injEq] at h6
        rw [← h6]
        rfl
    have h8 : s = nameAt i := by
      cases s with
      | mk d =>
        have : d = (nameAt i).data := Array.toList_inj.1 h7
        rw [this]
    rw [h8]

set_option maxRecDepth 100000 in
/-- A description as an argument. -/
theorem open_descr {H : Type} {enc : TypeId × Value → H} {W : World} {base : Nat} {v : Value} {d : DataW H} {p : List MemPlace} (hv : Value.okWide Tryd.prog W .any base 42 v)
    (h : DataW.Trod enc Tryd.prog W 0 (fun _ => true) true 42 v d p) :
    ∃ (nil : Bool) (parts : Value) (ss : List ByteArray) (c a : Int) (fault : Bool), v = descr nil parts c a fault ∧ Strs W parts ss ∧ (Lit.int .i64 c).wf = true ∧ (Lit.int .i64 a).wf = true ∧ ∀ s ∈ ss, s.size ≤ maxLen := by
  obtain ⟨v0, v1, v2, v3, v4, y0, y1, y2, y3, y4, n, rfl, h0, h1, h2, h3, h4⟩ := open_agg5 Tryd.underlying42 (by kernel_rfl) (by kernel_rfl) hv h
  obtain ⟨nil, e0, _⟩ := DataW.trod_bool Tryd.underlying4 h0
  obtain ⟨c, e2, _, w2⟩ := DataW.trod_int Tryd.underlying3 h2
  obtain ⟨a, e3, _, w3⟩ := DataW.trod_int Tryd.underlying3 h3
  obtain ⟨fault, e4, _⟩ := DataW.trod_bool Tryd.underlying4 h4
  injection e0 with e0; injection e2 with e2; injection e3 with e3; injection e4 with e4
  subst e0; subst e2; subst e3; subst e4
  rcases open_strings (t := 40) (e := 9) Tryd.underlying40 Tryd.underlying9 (by kernel_rfl) h1 with ⟨e1, _⟩ | ⟨ad, len, cap, ss, e1, _, hl, hcap, hlen, _, hcell, hsz⟩
  · injection e1 with e1
    exact ⟨nil, v1, [], c, a, fault, rfl, .inl ⟨_, _, e1, rfl⟩, w2, w3, by simp⟩
  · injection e1 with e1
    subst e1
    simp only [if_true] at hlen
    have hm : maxLen ≤ 9223372036854775807 := by decide
    rcases Nat.eq_zero_or_pos len with rfl | hpos
    · exact ⟨nil, _, [], c, a, fault, rfl, .inl ⟨_, _, rfl, rfl⟩, w2, w3, by simp⟩
    · obtain ⟨b, off, spot⟩ := ad
      have hs0 : spot = none := by simpa [Addr.add] using World.cell?_spot (hcell 0 (by omega))
      subst hs0
      refine ⟨nil, _, ss.take len, c, a, fault, rfl, .inr ⟨b, off, cap, ?_, ?_, fun i hi => ?_⟩, w2, w3, fun s hs => hsz s (List.mem_of_mem_take hs)⟩
      · rw [List.length_take, hlen, Nat.min_eq_left hl]
      · rw [List.length_take]; omega
      · rw [List.length_take] at hi
        have h5 := hcell i (by omega)
        have h6 : Addr.add ⟨b, off, none⟩ i = ⟨b, off + i, none⟩ := by
          unfold Addr.add
          split
          · next h => subst h; rfl
          · rfl
        rw [h6] at h5
        rw [h5]
        simp [List.getD, List.getElem?_take, show i < len by omega]
        rfl
end Go.Proofs.YtkpibmnlmmddjaaDoor
