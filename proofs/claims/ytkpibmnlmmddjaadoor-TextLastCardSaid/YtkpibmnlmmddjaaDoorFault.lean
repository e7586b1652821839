/- The walks of package fault: New, In, Code, At, Shift. -/
import Derived.Test.YtkpibmnlmmddjaaDoorAsTop
import Derived.Deep.QuietTactic
import Derived.BigQuiet
namespace Go.Proofs.YtkpibmnlmmddjaaDoor
open Go.RowKit

theorem new_fault (c a : Int) (w : World) : Calls Tryd.prog 35 #[.int .i64 c, .int .i64 a] w fun e w' => e = .returned (errVal [] true c a) ∧ Below w.heap.size w w' := by
  go_enter Tryd.func35, Tryd.ntmps35
  go_wp2
  go_ret
  exact ⟨rfl, Below.refl _ _⟩

theorem in_nil (p : ByteArray) (w : World) : Calls Tryd.prog 32 #[.string p, .nilIface] w fun e w' => e = .returned .nilIface ∧ Below w.heap.size w w' := by
  go_enter Tryd.func32, Tryd.ntmps32
  go_wp2
  go_ret
  exact ⟨rfl, Below.refl _ _⟩

theorem in_err (p : ByteArray) (ps : List ByteArray) (fault : Bool) (c a : Int) (w : World) : Calls Tryd.prog 32 #[.string p, errVal ps fault c a] w fun e w' => e = .returned (errVal (p :: ps) fault c a) ∧ Below w.heap.size w w' := by
  obtain ⟨T, v0, hTv⟩ := errVal_iface ps fault c a
  have h : errVal (p :: ps) fault c a = .iface 81 (.agg #[.string p, .iface T v0]) := by
    show Value.iface 81 (.agg #[.string p, errVal ps fault c a]) = _
    rw [hTv]
  rw [h, hTv]
  clear h hTv
  go_enter Tryd.func32, Tryd.ntmps32
  go_wp2
  go_ret
  exact ⟨rfl, Below.refl _ _⟩

theorem code_nil (w : World) : Calls Tryd.prog 23 #[.nilIface] w fun e w' => e = .returned (.tuple #[.int .i64 0, .bool false]) ∧ Below w.heap.size w w' := by
  go_enter Tryd.func23, Tryd.ntmps23
  go_wp2_with (go_at_call 38; refine (As_nil _ _).mono ?_; rintro e w' ⟨rfl, rfl⟩)
  go_ret2
  exact ⟨rfl, (Below.refl _ _).alloc (Nat.le_refl _) _⟩

theorem at_nil (w : World) : Calls Tryd.prog 24 #[.nilIface] w fun e w' => e = .returned (.tuple #[.int .i64 0, .bool false]) ∧ Below w.heap.size w w' := by
  go_enter Tryd.func24, Tryd.ntmps24
  go_wp2_with (go_at_call 38; refine (As_nil _ _).mono ?_; rintro e w' ⟨rfl, rfl⟩)
  go_ret2
  exact ⟨rfl, (Below.refl _ _).alloc (Nat.le_refl _) _⟩

theorem code_err (ps : List ByteArray) (fault : Bool) (c a : Int) (w : World) (hg : ErrType w) : Calls Tryd.prog 23 #[errVal ps fault c a] w fun e w' => e = .returned (.tuple #[.int .i64 c, .bool true]) ∧ Below w.heap.size w w' := by
  have CC := As_code ps fault c a w.heap.size (.int .i64 0) (w.alloc (.cells #[.int .i64 0] 45)) (hg.later ((Below.refl _ _).alloc (Nat.le_refl _) _)) (by simp) (by simp)
  have HC := Lib.hid CC
  clear CC
  go_enter Tryd.func23, Tryd.ntmps23
  go_wp2_with (go_at_call 38; fail)
  refine (HC.out).mono ?_
  rintro e w3 ⟨rfl, hg3, hc3⟩
  go_wp2
  go_ret2
  exact ⟨rfl, below_grown ((Below.refl _ _).alloc (Nat.le_refl _) _) hg3 (by simp) (Nat.le_refl _)⟩

theorem at_err (ps : List ByteArray) (fault : Bool) (c a : Int) (w : World) (hg : ErrType w) : Calls Tryd.prog 24 #[errVal ps fault c a] w fun e w' => e = .returned (.tuple #[.int .i64 (if fault then a else 0), .bool fault]) ∧ Below w.heap.size w w' := by
  have CC := As_fault ps fault c a w.heap.size (.int .i64 0) (.int .i64 0) (w.alloc (.cells #[.int .i64 0, .int .i64 0] 72)) (hg.later ((Below.refl _ _).alloc (Nat.le_refl _) _)) (by simp) (by simp) (by simp) (by simp)
  have HC := Lib.hid CC
  clear CC
  go_enter Tryd.func24, Tryd.ntmps24
  go_wp2_with (go_at_call 38; fail)
  refine (HC.out).mono ?_
  intro e w3 hF
  cases fault with
  | true =>
    obtain ⟨rfl, hg3, q0, q1⟩ := hF
    go_wp2
    go_ret2
    exact ⟨rfl, below_grown ((Below.refl _ _).alloc (Nat.le_refl _) _) hg3 (by simp) (Nat.le_refl _)⟩
  | false =>
    obtain ⟨rfl, hB⟩ := hF
    have q1 : w3.cell? ⟨w.heap.size, 1, none⟩ = some (.int .i64 0) := cell_later hB (by simp)
    go_wp2
    go_ret2
    exact ⟨rfl, below_then ((Below.refl _ _).alloc (Nat.le_refl _) _) hB (by simp)⟩

theorem shift_nil (n : Int) (w : World) : Calls Tryd.prog 26 #[.nilIface, .int .i64 n] w fun e w' => e = .returned .nilIface ∧ Below w.heap.size w w' := by
  go_enter Tryd.func26, Tryd.ntmps26
  go_wp2_with (go_at_call 23; refine (code_nil _).mono ?_; rintro e w' ⟨rfl, hB⟩)
  go_ret
  exact ⟨rfl, hB⟩

theorem shift_err (ps : List ByteArray) (fault : Bool) (c a n : Int) (w : World) (hg : ErrType w) (hn : -2147483648 ≤ n ∧ n ≤ 2147483647) (ha : -1152921504606846976 ≤ a ∧ a ≤ 1152921504606846976) :
    Calls Tryd.prog 26 #[errVal ps fault c a, .int .i64 n] w fun e w' => e = .returned (errVal [] true c ((if fault then a else 0) + n)) ∧ Below w.heap.size w w' := by
  obtain ⟨n1, n2⟩ := hn
  obtain ⟨a1, a2⟩ := ha
  go_enter Tryd.func26, Tryd.ntmps26
  go_wp2_with fail
  refine (code_err ps fault c a _ hg).mono ?_
  rintro e w1 ⟨rfl, hB⟩
  go_wp2_with fail
  refine (at_err ps fault c a _ (hg.later hB)).mono ?_
  rintro e w2 ⟨rfl, hB2⟩
  have hC := below_then hB hB2 hB.size
  cases fault with
  | true =>
    go_wp2_with fail
    refine (new_fault _ _ _).mono ?_
    rintro e w3 ⟨rfl, hB3⟩
    go_wp2
    go_ret
    exact ⟨rfl, below_then hC hB3 hC.size⟩
  | false =>
    go_wp2_with fail
    refine (new_fault _ _ _).mono ?_
    rintro e w3 ⟨rfl, hB3⟩
    go_wp2
    go_ret
    exact ⟨rfl, below_then hC hB3 hC.size⟩
end Go.Proofs.YtkpibmnlmmddjaaDoor
