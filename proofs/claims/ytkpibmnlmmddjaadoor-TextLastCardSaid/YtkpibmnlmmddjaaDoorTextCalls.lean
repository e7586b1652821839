/- The calls of the laws of texts, with the arrays' cells as letters; a whole array into the block that was made last. -/
import Derived.Test.YtkpibmnlmmddjaaDoorTextLawPure
import Derived.Test.YtkpibmnlmmddjaaDoorRefParse
import Derived.Test.YtkpibmnlmmddjaaDoorTextTold
import Derived.Stop.BytesEq
namespace Go.Proofs.YtkpibmnlmmddjaaDoor
open Go.RowKit

theorem wpList_store_new {P : Program} {w : World} {ops : Array Oper} {rest : List Oper} {op : Oper} {a : Act} {Q : Exit → Act → World → Prop} (hgd : op.guard = none) (ty : TypeId) (x y : Operand) (ho : op.op = .store ty x y) (c c' : Array Value)
    (hx : a.eval x = .pointer (some ⟨w.heap.size, 0, none⟩)) (hy : a.eval y = .agg c') (hi : (P.info? ty).map (·.size) = some c'.size) (hs : c.size = c'.size) (h1 : c'.all (·.oneCell') = true)
    (h : wpList P ops Q rest (a.put op.dst undef) (w.alloc (.cells c' ty))) : wpList P ops Q (op :: rest) a (w.alloc (.cells c ty)) := by
  refine wpList_plain hgd fun K hK => ?_
  have hr := run_storeAt_new (P := P) w ty c c' hi hs h1
  unfold Oper.wp execOp
  simp only [ho, hx, hy, Sem.run_bind, Sem.run_pure, Result.andThen_ok, hr]
  exact hK _ _ h

/-- A load behind a guard that holds. -/
theorem wpList_load_g {P : Program} {ops : Array Oper} {rest : List Oper} {op : Oper} {a : Act} {w : World} {Q : Exit → Act → World → Prop} (ty : TypeId) (x : Operand) (ho : op.op = .load ty x) (hw : Region.wanted op (yielded ops a.tmps) = true)
    (b o : Nat) (hx : a.eval x = .pointer (some ⟨b, o, none⟩)) (cs : List Value) (d : TypeDesc) (hc : w.rangeAt b o cs)
    (hu : P.underlying ty = some d) (hd : d.isRow = true) (hi : (P.info? ty).map (·.size) = some cs.length)
    (h : wpList P ops Q rest (a.put op.dst (.agg cs.toArray)) w) : wpList P ops Q (op :: rest) a w :=
  wpList_step fun K hK => by
    rw [if_pos hw]
    exact wp_load_mid ty x ho b o hx cs d hc hu hd hi (hK _ _ h)

/-- A list of 16 bytes as cells. -/
structure Key (K : List Nat) (Y : List Value) : Prop where
  cells : Y = cells8 K
  len : K.length = 16
  byte : ∀ x ∈ K, x < 2 ^ 8

section
variable {K : List Nat} {Y : List Value}
theorem Key.info (h : Key K Y) : (Tryd.prog.info? 22).map (·.size) = some Y.toArray.size := by
  rw [h.cells, List.size_toArray]
  exact size_cells h.len
theorem Key.info' (h : Key K Y) : (Tryd.prog.info? 22).map (·.size) = some Y.length := by
  rw [h.cells]
  exact size_cells h.len
theorem Key.one (h : Key K Y) : Y.toArray.all (·.oneCell') = true := by rw [h.cells]; exact all_oneCell_toArray (cells8_one K)
theorem Key.size (h : Key K Y) : Y.toArray.size = 16 := by rw [h.cells, List.size_toArray, cells8_length, h.len]
theorem Key.stored (h : Key K Y) (w : World) : (w.alloc (.cells Y.toArray 22)).rangeAt w.heap.size 0 Y := by
  rw [h.cells]
  exact (Rw.made w _ _).range

theorem cell_map (h : Key K Y) : Y.toArray = ((K.map UInt8.ofNat).map Extern.Stop.cell).toArray := by
  rw [h.cells]
  congr 1
  unfold cells8
  rw [List.map_map]
  refine List.map_congr_left fun x hx => ?_
  have := h.byte x hx
  simp only [Function.comp_apply, Extern.Stop.cell]
  congr 1
  simp
  omega

theorem size5 : ∀ w, (sizeOf 5).run Tryd.prog w = .ok 1 w := by
  intro w
  kernel_rfl

theorem Key.eql (h : Key K Y) (w : World) : (binOp .eql 22 (.agg Y.toArray) (.agg Y.toArray)).run Tryd.prog w = .ok (.bool true) w := by
  rw [cell_map h, run_eql_bytes w 22 5 16 Tryd.underlying22 Tryd.underlying5 size5 _ _ (by simp [h.len]) (by simp [h.len])]
  simp
theorem Key.neq (h : Key K Y) (w : World) : (binOp .neq 22 (.agg Y.toArray) (.agg Y.toArray)).run Tryd.prog w = .ok (.bool false) w := by
  rw [cell_map h, run_neq_struct, run_equalIn_bytes w 9998 22 5 16 Tryd.underlying22 Tryd.underlying5 size5 _ _ (by simp [h.len]) (by simp [h.len])]
  simp

theorem Key.print (h : Key K Y) (w : World) : Calls Tryd.prog 12 #[.agg Y.toArray] w fun e w' => e = .returned (.string (textOf K)) ∧ Below w.heap.size w w' := by
  have ht : (K ++ [0, 0]).take 16 = K := by rw [List.take_append_of_le_length (by rw [h.len]; omega), List.take_of_length_le (by rw [h.len]; omega)]
  have := print_any (K ++ [0, 0]) (by simp [h.len]) (fun x hx => by
    rcases List.mem_append.1 hx with h' | h'
    · exact h.byte x h'
    · simp at h'; omega) (by simp [List.getD, h.len]) (by simp [List.getD, h.len]) w
  rw [ht] at this
  rw [h.cells]
  exact this
theorem Key.refPrint (h : Key K Y) (w : World) : Calls Tryd.prog 14 #[.agg Y.toArray] w fun e w' => e = .returned (.string (textOf K)) ∧ Below w.heap.size w w' := by
  have ht : (K ++ [0, 0]).take 16 = K := by rw [List.take_append_of_le_length (by rw [h.len]; omega), List.take_of_length_le (by rw [h.len]; omega)]
  have := refPrint_any (K ++ [0, 0]) (by simp [h.len]) (fun x hx => by
    rcases List.mem_append.1 hx with h' | h'
    · exact h.byte x h'
    · simp at h'; omega) (by simp [List.getD, h.len]) (by simp [List.getD, h.len]) w
  rw [ht] at this
  rw [h.cells]
  exact this

theorem Key.parse0 (h : Key K Y) {s : ByteArray} (hs : s.size ≤ 300) (hp : parseR s = (K, 0, 0)) (w : World) (he : TEnv w) : Calls Tryd.prog 13 #[.string s] w fun e w' => e = .returned (.tuple #[.agg Y.toArray, .nilIface]) ∧ Below w.heap.size w w' := by
  have := parse_any s hs w he
  rw [show parseV s = .tuple #[.agg Y.toArray, .nilIface] by unfold parseV; rw [hp, h.cells]; rfl] at this
  exact this
theorem Key.parse (h : Key K Y) {s : ByteArray} (hs : s.size ≤ 300) {c a : Int} (hc : ¬ c = 0) (hp : parseR s = (K, c, a)) (w : World) (he : TEnv w) : Calls Tryd.prog 13 #[.string s] w fun e w' => e = .returned (.tuple #[.agg Y.toArray, .iface 72 (.agg #[.int .i64 c, .int .i64 a])]) ∧ Below w.heap.size w w' := by
  have := parse_any s hs w he
  rw [show parseV s = .tuple #[.agg Y.toArray, .iface 72 (.agg #[.int .i64 c, .int .i64 a])] by
    unfold parseV
    rw [hp, h.cells]
    unfold errOf
    rw [if_neg hc]
    rfl] at this
  exact this
theorem Key.refParse (h : Key K Y) {s : ByteArray} (hs : s.size ≤ 300) {c a : Int} (hp : parseR s = (K, c, a)) (w : World) : Calls Tryd.prog 15 #[.string s] w fun e w' => e = .returned (.tuple #[.agg Y.toArray, .int .i64 c, .int .i64 a]) ∧ Below w.heap.size w w' := by
  have := refParse_any s hs w
  rw [show refParseV s = .tuple #[.agg Y.toArray, .int .i64 c, .int .i64 a] by unfold refParseV; rw [hp, h.cells]; rfl] at this
  exact this
end

theorem keyZero : Key zeros16 (cells8 zeros16) := ⟨rfl, rfl, by decide⟩
end Go.Proofs.YtkpibmnlmmddjaaDoor
