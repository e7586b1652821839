/- What the rows' list of laid variables gives the laws of texts: the ranges of characters, the handle of the type error. A key as an argument, opened. -/
import Derived.Test.YtkpibmnlmmddjaaDoorHandle
import Derived.Test.YtkpibmnlmmddjaaDoorTextCalls
namespace Go.Proofs.YtkpibmnlmmddjaaDoor
open Go.Joins Go.ChangeShapes Go.WideShapes Go.RowKit Go.Deep

abbrev textLaid : List (String × DataW Unit) := Rows.textMatchesReferenceRow.laid

theorem text_door (os : Os) (args : Array Value) : laidMetH Tryd.prog textLaid ((World.doorLaid Tryd.prog 400 os).forCall (fun _ _ => 0) ⟨#[], args, []⟩).memory :=
  laidMetH_of_parts3 (fuel := 8) (laidMet_of_run' 8 (by kernel_rfl) (by kernel_rfl)) (by kernel_rfl) (by kernel_rfl)

set_option maxRecDepth 100000 in
theorem tenv_of {W : World} (h : laidMetH Tryd.prog textLaid W) : TEnv W := by
  have h' : laidMet Tryd.prog (textLaid.filter fun x => x.2.handleName?.isNone) W ∧ handlesMet Tryd.prog (textLaid.filter fun x => x.2.handleName?.isSome) W := h
  have e1 : (textLaid.filter fun x => x.2.handleName?.isNone) = [("mooring/text.ranges", Rows.laid_mooring_text_ranges)] := by rfl
  have e2 : (textLaid.filter fun x => x.2.handleName?.isSome) = [("errors.errorType", Rows.laid_errors_errorType)] := by rfl
  rw [e1, e2] at h'
  obtain ⟨h1, h2⟩ := h'
  refine ⟨handle_of ⟨_, by rfl, by rfl, h2⟩, ?_⟩
  obtain ⟨ps, ⟨g', t', cs, fuel, p, q, hg', ht', hvar, hd, _, _⟩, _⟩ := h1
  obtain rfl := Option.some.inj ((show Tryd.prog.globalNamed "mooring/text.ranges" = some 0 by kernel_rfl).symm.trans hg')
  obtain rfl := Option.some.inj ((show (Tryd.prog.globals[0]?).map (·.type) = some 70 by kernel_rfl).symm.trans ht')
  obtain ⟨xs, m1, rfl, hx1, hlen, hn3, hel⟩ := DataW.trod_array Tryd.underlying70 hd
  have hc1 : Tryd.prog.cellsOf 69 = 3 := by kernel_rfl
  have hc0 : Tryd.prog.cellsOf 3 = 1 := by kernel_rfl
  have hx2 : Rows.laid_mooring_text_ranges = DataW.agg (xs.map (·.1)) := (Prod.mk.inj hx1).1
  unfold Rows.laid_mooring_text_ranges at hx2
  injection hx2 with hx3
  intro k hk
  obtain ⟨i, j, hi, hj, rfl⟩ : ∃ i j, i < 5 ∧ j < 3 ∧ k = i * 3 + j := ⟨k / 3, k % 3, by omega, by omega, by omega⟩
  have hi' := hel i hi
  rw [hc1] at hi'
  have hxi : xs[i]? = some (xs[i]'(by omega)) := List.getElem?_eq_getElem (by omega)
  rw [hxi] at hi'
  obtain ⟨ys, m2, rfl, hy1, hlen2, hn4, hel2⟩ := DataW.trod_array Tryd.underlying69 hi'
  have hj' := hel2 j hj
  rw [hc0, Nat.mul_one] at hj'
  have hyj : ys[j]? = some (ys[j]'(by omega)) := List.getElem?_eq_getElem (by omega)
  rw [hyj] at hj'
  obtain ⟨n, e3, e4, _⟩ := DataW.trod_int Tryd.underlying3 hj'
  have hcell := World.var?_cell (show Tryd.prog.globalNamed "mooring/text.ranges" = some 0 by kernel_rfl) hvar (i * 3 + j)
  have hcs : cs[i * 3 + j]? = some (.int .i64 n) := by
    have h5 : ((((cs.toList.drop (i * 3)).take 3).drop j).take 1)[0]? = some (.int .i64 n) := by rw [e3]; rfl
    have : (cs.toList)[i * 3 + j]? = some (.int .i64 n) := by
      rw [← h5]
      simp [List.getElem?_take, List.getElem?_drop, hj]
    simpa using this
  rw [hcs] at hcell
  rw [hcell]
  have h6 : (xs.map (·.1))[i]? = some (.agg (ys.map (·.1))) := by
    rw [List.getElem?_map, hxi]
    have := congrArg Prod.fst hy1
    simp only at this
    rw [← this]
    rfl
  have h7 : (ys.map (·.1))[j]? = some (.lit (.int .i64 n)) := by
    rw [List.getElem?_map, hyj, e4]
    rfl
  rw [← hx3] at h6
  have hi5 : i = 0 ∨ i = 1 ∨ i = 2 ∨ i = 3 ∨ i = 4 := by omega
  have hj3 : j = 0 ∨ j = 1 ∨ j = 2 := by omega
  rcases hi5 with rfl | rfl | rfl | rfl | rfl <;>
  · simp only [List.getElem?_cons_zero, List.getElem?_cons_succ, Option.some.injEq, DataW.agg.injEq] at h6
    rw [← h6] at h7
    rcases hj3 with rfl | rfl | rfl <;>
    · simp only [List.getElem?_cons_zero, List.getElem?_cons_succ, Option.some.injEq, DataW.lit.injEq, Lit.int.injEq] at h7
      obtain ⟨_, rfl⟩ := h7
      rfl

set_option maxRecDepth 100000 in
/-- A key as an argument. -/
theorem open_key {H : Type} {enc : TypeId × Value → H} {W : World} {base : Nat} {v : Value} {d : DataW H} {p : List MemPlace} (hv : Value.okWide Tryd.prog W .any base 22 v)
    (h : DataW.Trod enc Tryd.prog W 0 (fun _ => true) true 22 v d p) : ∃ (K : List Nat) (Y : List Value), v = .agg Y.toArray ∧ Key K Y := by
  have hu := Tryd.underlying22
  have hc0 : Tryd.prog.cellsOf 5 = 1 := by kernel_rfl
  simp only [Value.okWide, hu] at hv
  obtain ⟨cs, rfl, hsz, _⟩ := hv
  have hsz16 : cs.size = 16 := hsz.trans (by kernel_rfl)
  obtain ⟨fuel, hf⟩ := h
  obtain ⟨xs, m, rfl, hx, hlen, hn, hel⟩ := DataW.trod_array hu hf
  have hcell : ∀ i, i < 16 → ∃ n : Nat, n < 256 ∧ cs[i]? = some (.int .u8 (n : Int)) := by
    intro i hi
    have h1 := hel i hi
    rw [hc0, Nat.mul_one] at h1
    have hxi : xs[i]? = some (xs[i]'(by omega)) := List.getElem?_eq_getElem (by omega)
    rw [hxi] at h1
    obtain ⟨n, e1, _, hw⟩ := DataW.trod_int Tryd.underlying5 h1
    have hw' : 0 ≤ n ∧ n ≤ 255 := by simpa [Lit.wf, IntKind.min, IntKind.max, IntKind.signed, IntKind.bits] using hw
    refine ⟨n.toNat, by omega, ?_⟩
    have h5 : (((Value.agg cs).cells.toList.drop i).take 1)[0]? = some (.int .u8 n) := by rw [e1]; rfl
    have h6 : cs.toList[i]? = some (.int .u8 n) := by
      rw [← h5]
      simp [Value.cells]
    rw [show ((n.toNat : Nat) : Int) = n by omega]
    simpa using h6
  refine ⟨(List.range 16).map fun i => match cs[i]? with | some (Value.int IntKind.u8 n) => n.toNat | _ => 0, cs.toList, by simp, ?_, by simp, ?_⟩
  · apply List.ext_getElem?
    intro i
    by_cases hi : i < 16
    · obtain ⟨n, hn1, hn2⟩ := hcell i hi
      have h7 : cs.toList[i]? = some (.int .u8 (n : Int)) := by simpa using hn2
      rw [h7, cells8_get _ (by simpa using hi)]
      simp [List.getD, hi, hn2]
    · rw [List.getElem?_eq_none (by simp; omega), List.getElem?_eq_none (by rw [cells8_length]; simp; omega)]
  · intro x hx
    obtain ⟨i, hi, rfl⟩ := List.mem_map.1 hx
    obtain ⟨n, hn1, hn2⟩ := hcell i (List.mem_range.1 hi)
    simp only [hn2]
    omega
end Go.Proofs.YtkpibmnlmmddjaaDoor
