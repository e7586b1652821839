/- The reference's Text: the text of a described error. -/
import Derived.Test.YtkpibmnlmmddjaaDoorFaultArg
namespace Go.Proofs.YtkpibmnlmmddjaaDoor
open Go.RowKit

theorem errText_cons (p : ByteArray) (ps : List ByteArray) (c : Int) : errText (p :: ps) c = (p ++ (⟨#[58, 32]⟩ : ByteArray)) ++ errText ps c := rfl
theorem errText_none (c : Int) : errText [] c = (⟨#[101, 114, 114, 111, 114, 32]⟩ : ByteArray) ++ itoaB c := rfl

set_option maxRecDepth 100000 in
set_option maxHeartbeats 2000000 in
theorem refText_any (nil : Bool) (parts : Value) (ss : List ByteArray) (c a : Int) (fault : Bool) (w : World) (hp : Strs w parts ss) (hf : fewB ss a = true) (hc : -9223372036854775808 ≤ c ∧ c ≤ 9223372036854775807) :
    Calls Tryd.prog 25 #[descr nil parts c a fault] w fun e w' => e = .returned (.string (errText ss.reverse c)) ∧ Below w.heap.size w w' := by
  obtain ⟨f1, f2, _, _⟩ := fewB_true hf
  have hw : Below w.heap.size w (w.alloc (.cells #[.bool nil, parts, .int .i64 c, .int .i64 a, .bool fault] 42)) := (Below.refl _ _).alloc (Nat.le_refl _) _
  have hbox := Rw.made w 42 #[.bool nil, parts, .int .i64 c, .int .i64 a, .bool fault]
  have hp2 := hp.later hw
  have hz : w.heap.size < (w.alloc (.cells #[.bool nil, parts, .int .i64 c, .int .i64 a, .bool fault] 42)).heap.size := by simp
  generalize hW : w.alloc (.cells #[.bool nil, parts, .int .i64 c, .int .i64 a, .bool fault] 42) = W at *
  have HW := Lib.hid hW
  have p1 : W.cell? ⟨w.heap.size, 1, none⟩ = some parts := hbox.cell 1
  have p2 : W.cell? ⟨w.heap.size, 2, none⟩ = some (.int .i64 c) := hbox.cell 2
  have hN := errText_none c
  have HN := Lib.hid hN
  have hI := itoaB_size c hc
  have hSm : ∀ k, k ≤ ss.length → (errText (ss.take k).reverse c).size ≤ 27 + 52 * k := fun k hk => by
    have h := errText_small c hc (ss.take k).reverse (fun p hp => by
      rw [List.mem_reverse] at hp
      obtain ⟨j, hj, rfl⟩ := List.getElem_of_mem hp
      rw [List.length_take] at hj
      have := f1 j (by omega)
      simpa [List.getD, List.getElem_take, show j < ss.length by omega] using this)
    rw [List.length_reverse, List.length_take, Nat.min_eq_left hk] at h
    exact h
  have HS := Lib.hid hSm
  have HD := Lib.hid (fun w1 => decimal_k _ c w1 (Nat.le_refl _) hc.1 hc.2)
  clear hbox hp hN hSm
  have HF := Lib.hid f1
  clear f1
  go_enter Tryd.func25, Tryd.ntmps25
  go_wp2_with fail
  refine (HD.out _).mono ?_
  rintro e w1 ⟨rfl, hB1⟩
  have q1 := cell_later hB1 p1
  rw [HN.out.symm] at *
  have hC1 := below_then hw hB1 hw.size
  have hp3 := hp2.later hB1
  clear hp2 hB1
  rcases hp3 with ⟨q, cap, rfl, rfl⟩ | ⟨b, off, cap, rfl, hm, hcell⟩
  · go_wp2
    refine wp_loop_rounds 1 ?_
    rw [rounds_succ]
    go_wp2
    go_ret
    exact ⟨rfl, hC1⟩
  · have HCL := Lib.hid hcell
    clear hcell
    go_wp2
    go_loop [3, 4] (fun s i => ∃ k : Nat, k ≤ ss.length ∧ i = .int .i64 k ∧ s = .string (errText (ss.take k).reverse c)) (fun _ i => ss.length - (intOf i).toNat)
    case atStart => exact ⟨0, Nat.zero_le _, rfl, rfl⟩
    case round =>
      obtain ⟨k, hk, rfl, rfl⟩ := hrel
      by_cases hlt : k < ss.length
      · have hx := HCL.out k hlt
        have hrt := rev_take hlt
        have hsz := HF.out k hlt
        have hs2 := HS.out k hk
        have hxx := errText_cons (ss.getD k ⟨#[]⟩) (ss.take k).reverse c
        rw [← hrt] at hxx
        have HX := Lib.hid hxx
        clear hrt hxx
        generalize ss.getD k ⟨#[]⟩ = sk at *
        generalize errText (ss.take k).reverse c = tk at *
        go_wp2
        exact ⟨⟨k + 1, by omega, by go_num, by rw [HX.out]⟩, by simp [intOf]; omega⟩
      · obtain rfl : k = ss.length := by omega
        go_wp2
        go_ret
        exact ⟨rfl, hC1⟩
end Go.Proofs.YtkpibmnlmmddjaaDoor
