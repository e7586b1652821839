/- FaultNames: for every code and every description of an error the law returns true: the names are the reference's, and so are the texts; other errors have the text error. -/
import Derived.Test.YtkpibmnlmmddjaaDoorTold
import Derived.Test.YtkpibmnlmmddjaaDoorOther
import Derived.Deep.RegionHeld3
namespace Go.Proofs.YtkpibmnlmmddjaaDoor.FaultNames
open Go.RowKit

/-- What is held of a world while the region of the law's last line is walked. -/
structure At (w0 : World) (b : Nat) (cs : Array Value) (parts : Value) (ss : List ByteArray) (w : World) : Prop where
  env : Env w
  strs : Strs w parts ss
  below : Below w0.heap.size w0 w
  box : Rw w b 42 cs

theorem At.later {w0 : World} {b : Nat} {cs : Array Value} {parts : Value} {ss : List ByteArray} {w w' : World} (h : At w0 b cs parts ss w) (hb : Below w.heap.size w w') : At w0 b cs parts ss w' :=
  ⟨h.env.later hb, h.strs.later hb, below_then h.below hb h.below.size, h.box.later hb⟩

set_option maxRecDepth 100000 in
set_option maxHeartbeats 4000000 in
theorem walk (nil : Bool) (parts : Value) (ss : List ByteArray) (c a : Int) (fault : Bool) (n : Int) (w : World) (hp : Strs w parts ss) (he : Env w)  :
    Calls Tryd.prog 9 #[.int .i64 n, descr nil parts c a fault] w fun e w' => e = .returned (.bool true) ∧ Below w.heap.size w w' := by
  have hw : Below w.heap.size w (w.alloc (.cells #[.bool nil, parts, .int .i64 c, .int .i64 a, .bool fault] 42)) := (Below.refl _ _).alloc (Nat.le_refl _) _
  have hbox := Rw.made w 42 #[.bool nil, parts, .int .i64 c, .int .i64 a, .bool fault]
  have hp2 := hp.later hw
  have he2 := he.later hw
  generalize hW : w.alloc (.cells #[.bool nil, parts, .int .i64 c, .int .i64 a, .bool fault] 42) = W at *
  have HW := Lib.hid hW
  have hF : ∀ (w1 : World), Strs w1 parts ss → Calls Tryd.prog 21 #[descr nil parts c a fault] w1 fun e w' => e = .returned (.bool (fewB ss a)) ∧ Below w1.heap.size w1 w' := fun w1 h1 => few_any nil parts ss c a fault w1 h1
  have HF := Lib.hid hF
  clear hF hp he
  cases hfw : fewB ss a
  · go_enter Tryd.func9, Tryd.ntmps9
    go_wp2_with fail
    refine (awake02 _ he2).mono ?_
    rintro e w1 ⟨rfl, hB1⟩
    have hC1 := below_then hw hB1 hw.size
    have hbox1 := hbox.later hB1
    have q0 : w1.cell? ⟨w.heap.size, 0, none⟩ = some (.bool nil) := hbox1.cell 0
    have q1 : w1.cell? ⟨w.heap.size, 1, none⟩ = some parts := hbox1.cell 1
    have q2 : w1.cell? ⟨w.heap.size, 2, none⟩ = some (.int .i64 c) := hbox1.cell 2
    have q3 : w1.cell? ⟨w.heap.size, 3, none⟩ = some (.int .i64 a) := hbox1.cell 3
    have q4 : w1.cell? ⟨w.heap.size, 4, none⟩ = some (.bool fault) := hbox1.cell 4
    go_wp2_with fail
    refine (HF.out _ (hp2.later hB1)).mono ?_
    rintro e w2 ⟨rfl, hB2⟩
    have hC2 := below_then hC1 hB2 hC1.size
    go_wp2_with fail
    refine (awake02 _ ((he2.later hB1).later hB2)).mono ?_
    rintro e w3 ⟨rfl, hB3⟩
    go_wp2_with fail
    go_ret
    exact ⟨rfl, below_then hC2 hB3 hC2.size⟩
  · have HFW := Lib.hid hfw
    obtain ⟨_, _, a1, a2⟩ := fewB_true hfw
    go_enter Tryd.func9, Tryd.ntmps9
    go_wp2_with fail
    refine (awake02 _ he2).mono ?_
    rintro e w1 ⟨rfl, hB1⟩
    have hC1 := below_then hw hB1 hw.size
    have hbox1 := hbox.later hB1
    have he3 := he2.later hB1
    have hp3 := hp2.later hB1
    have q0 : w1.cell? ⟨w.heap.size, 0, none⟩ = some (.bool nil) := hbox1.cell 0
    have q1 : w1.cell? ⟨w.heap.size, 1, none⟩ = some parts := hbox1.cell 1
    have q2 : w1.cell? ⟨w.heap.size, 2, none⟩ = some (.int .i64 c) := hbox1.cell 2
    have q3 : w1.cell? ⟨w.heap.size, 3, none⟩ = some (.int .i64 a) := hbox1.cell 3
    have q4 : w1.cell? ⟨w.heap.size, 4, none⟩ = some (.bool fault) := hbox1.cell 4
    clear hB1 hbox he2 hp2
    go_wp2_with fail
    refine (HF.out _ hp3).mono ?_
    rintro e w2 ⟨rfl, hB2⟩
    have hA2 : At w w.heap.size #[.bool nil, parts, .int .i64 c, .int .i64 a, .bool fault] parts ss w2 := ⟨he3.later hB2, hp3.later hB2, below_then hC1 hB2 hC1.size, hbox1.later hB2⟩
    clear hB2 hbox1 he3 hp3 q0 q1 q2 q3 q4 hC1 HFW HF hW HW hw
    go_wp2_with fail
    cases nil with
    | true =>
      have hA2' : At w w.heap.size #[.bool true, parts, .int .i64 c, .int .i64 a, .bool fault] parts ss w2.drew := At.later hA2 ⟨rfl, rfl, rfl, Nat.le_refl _, fun _ _ => rfl⟩
      have hcells : ∀ w' : World, At w w.heap.size #[.bool true, parts, .int .i64 c, .int .i64 a, .bool fault] parts ss w' → w'.cell? ⟨w.heap.size, 0, none⟩ = some (.bool true) ∧ w'.cell? ⟨w.heap.size, 1, none⟩ = some parts ∧ w'.cell? ⟨w.heap.size, 2, none⟩ = some (.int .i64 c) ∧ w'.cell? ⟨w.heap.size, 3, none⟩ = some (.int .i64 a) ∧ w'.cell? ⟨w.heap.size, 4, none⟩ = some (.bool fault) := fun w' h => ⟨h.box.cell 0, h.box.cell 1, h.box.cell 2, h.box.cell 3, h.box.cell 4⟩
      have HCELLS := Lib.hid hcells
      have hN1 : ∀ w1 : World, At w w.heap.size #[.bool true, parts, .int .i64 c, .int .i64 a, .bool fault] parts ss w1 → Calls Tryd.prog 27 #[.int .i64 n] w1 fun e w' => e = .returned (.string (nameOf n)) ∧ Below w1.heap.size w1 w' := fun w1 h => name_any n w1 h.env
      have hN2 : ∀ w1 : World, Calls Tryd.prog 28 #[.int .i64 n] w1 fun e w' => e = .returned (.string (nameOf n)) ∧ Below w1.heap.size w1 w' := fun w1 => refName_any n w1
      have HN1 := Lib.hid hN1
      have HN2 := Lib.hid hN2
      have HNEW := Lib.hid new_other
      have hTXO : ∀ (v : Value) (w1 : World), At w w.heap.size #[.bool true, parts, .int .i64 c, .int .i64 a, .bool fault] parts ss w1 → Calls Tryd.prog 29 #[.iface 77 v] w1 fun e w' => e = .returned (.string ⟨#[101, 114, 114, 111, 114]⟩) ∧ Below w1.heap.size w1 w' := fun v w1 h => text_other v w1 h.env.err
      have HTXO := Lib.hid hTXO
      have hBD : ∀ w1 : World, At w w.heap.size #[.bool true, parts, .int .i64 c, .int .i64 a, .bool fault] parts ss w1 → Calls Tryd.prog 22 #[descr true parts c a fault] w1 fun e w' => e = .returned .nilIface ∧ Below w1.heap.size w1 w' := fun w1 _ => build_nil parts c a fault w1
      have hTX : ∀ w1 : World, At w w.heap.size #[.bool true, parts, .int .i64 c, .int .i64 a, .bool fault] parts ss w1 → Calls Tryd.prog 29 #[.nilIface] w1 fun e w' => e = .returned (.string ⟨#[111, 107]⟩) ∧ Below w1.heap.size w1 w' := fun w1 _ => text_nil w1
      have hTO : ∀ w1 : World, Calls Tryd.prog 30 #[descr true parts c a fault] w1 fun e w' => e = .returned (.string ⟨#[111, 107]⟩) ∧ Below w1.heap.size w1 w' := fun w1 => told_nil parts c a fault w1
      have HBD := Lib.hid hBD
      have HTX := Lib.hid hTX
      have HTO := Lib.hid hTO
      clear hcells hN1 hN2 hTXO hBD hTX hTO a1 a2
      generalize nameOf n = nx at *
      go_region_held3 (fun w' => w'.cell? ⟨w.heap.size, 0, none⟩ = some (.bool true) ∧ w'.cell? ⟨w.heap.size, 1, none⟩ = some parts ∧ w'.cell? ⟨w.heap.size, 2, none⟩ = some (.int .i64 c) ∧ w'.cell? ⟨w.heap.size, 3, none⟩ = some (.int .i64 a) ∧ w'.cell? ⟨w.heap.size, 4, none⟩ = some (.bool fault)) (first | exact HCELLS.out _ (by assumption)) (first | (go_at_call 27; refine (HN1.out _ (by assumption)).mono ?_; rintro e w' ⟨rfl, hB⟩; have hA : At w w.heap.size #[.bool true, parts, .int .i64 c, .int .i64 a, .bool fault] parts ss w' := At.later (by assumption) hB) | (go_at_call 28; refine (HN2.out _).mono ?_; rintro e w' ⟨rfl, hB⟩; have hA : At w w.heap.size #[.bool true, parts, .int .i64 c, .int .i64 a, .bool fault] parts ss w' := At.later (by assumption) hB) | (go_at_call 22; refine (HBD.out _ (by assumption)).mono ?_; rintro e w' ⟨rfl, hB⟩; have hA : At w w.heap.size #[.bool true, parts, .int .i64 c, .int .i64 a, .bool fault] parts ss w' := At.later (by assumption) hB) | (go_at_call 30; refine (HTO.out _).mono ?_; rintro e w' ⟨rfl, hB⟩; have hA : At w w.heap.size #[.bool true, parts, .int .i64 c, .int .i64 a, .bool fault] parts ss w' := At.later (by assumption) hB) | (go_at_call_of 29 Value.nilIface; refine (HTX.out _ (by assumption)).mono ?_; rintro e w' ⟨rfl, hB⟩; have hA : At w w.heap.size #[.bool true, parts, .int .i64 c, .int .i64 a, .bool fault] parts ss w' := At.later (by assumption) hB) | (go_at_call 31; refine (HNEW.out _ _).mono ?_; rintro e w' ⟨rfl, hB⟩; have hA : At w w.heap.size #[.bool true, parts, .int .i64 c, .int .i64 a, .bool fault] parts ss w' := At.later (by assumption) hB) | (go_at_call 29; refine (HTXO.out _ _ (by assumption)).mono ?_; rintro e w' ⟨rfl, hB⟩; have hA : At w w.heap.size #[.bool true, parts, .int .i64 c, .int .i64 a, .bool fault] parts ss w' := At.later (by assumption) hB))
      all_goals
        go_wp2
        go_ret
        exact ⟨rfl, At.below (by assumption)⟩
    | false =>
      have hA2' : At w w.heap.size #[.bool false, parts, .int .i64 c, .int .i64 a, .bool fault] parts ss w2.drew := At.later hA2 ⟨rfl, rfl, rfl, Nat.le_refl _, fun _ _ => rfl⟩
      have hcells : ∀ w' : World, At w w.heap.size #[.bool false, parts, .int .i64 c, .int .i64 a, .bool fault] parts ss w' → w'.cell? ⟨w.heap.size, 0, none⟩ = some (.bool false) ∧ w'.cell? ⟨w.heap.size, 1, none⟩ = some parts ∧ w'.cell? ⟨w.heap.size, 2, none⟩ = some (.int .i64 c) ∧ w'.cell? ⟨w.heap.size, 3, none⟩ = some (.int .i64 a) ∧ w'.cell? ⟨w.heap.size, 4, none⟩ = some (.bool fault) := fun w' h => ⟨h.box.cell 0, h.box.cell 1, h.box.cell 2, h.box.cell 3, h.box.cell 4⟩
      have HCELLS := Lib.hid hcells
      have hN1 : ∀ w1 : World, At w w.heap.size #[.bool false, parts, .int .i64 c, .int .i64 a, .bool fault] parts ss w1 → Calls Tryd.prog 27 #[.int .i64 n] w1 fun e w' => e = .returned (.string (nameOf n)) ∧ Below w1.heap.size w1 w' := fun w1 h => name_any n w1 h.env
      have hN2 : ∀ w1 : World, Calls Tryd.prog 28 #[.int .i64 n] w1 fun e w' => e = .returned (.string (nameOf n)) ∧ Below w1.heap.size w1 w' := fun w1 => refName_any n w1
      have HN1 := Lib.hid hN1
      have HN2 := Lib.hid hN2
      have HNEW := Lib.hid new_other
      have hTXO : ∀ (v : Value) (w1 : World), At w w.heap.size #[.bool false, parts, .int .i64 c, .int .i64 a, .bool fault] parts ss w1 → Calls Tryd.prog 29 #[.iface 77 v] w1 fun e w' => e = .returned (.string ⟨#[101, 114, 114, 111, 114]⟩) ∧ Below w1.heap.size w1 w' := fun v w1 h => text_other v w1 h.env.err
      have HTXO := Lib.hid hTXO
      obtain ⟨T, v0, hTv⟩ := errVal_iface ss.reverse fault c a
      have hBD : ∀ w1 : World, At w w.heap.size #[.bool false, parts, .int .i64 c, .int .i64 a, .bool fault] parts ss w1 → Calls Tryd.prog 22 #[descr false parts c a fault] w1 fun e w' => e = .returned (.iface T v0) ∧ Below w1.heap.size w1 w' := fun w1 h => by rw [← hTv]; exact build_any parts ss c a fault w1 h.strs
      have hTX : ∀ w1 : World, At w w.heap.size #[.bool false, parts, .int .i64 c, .int .i64 a, .bool fault] parts ss w1 → Calls Tryd.prog 29 #[.iface T v0] w1 fun e w' => e = .returned (.string (toldText fault c a)) ∧ Below w1.heap.size w1 w' := fun w1 h => by rw [← hTv]; exact text_err ss.reverse fault c a w1 (by omega) h.env
      have hTO : ∀ w1 : World, Calls Tryd.prog 30 #[descr false parts c a fault] w1 fun e w' => e = .returned (.string (toldText fault c a)) ∧ Below w1.heap.size w1 w' := fun w1 => told_err parts c a fault w1 (by omega)
      clear hTv
      have HBD := Lib.hid hBD
      have HTX := Lib.hid hTX
      have HTO := Lib.hid hTO
      clear hcells hN1 hN2 hTXO hBD hTX hTO a1 a2
      generalize nameOf n = nx at *
      generalize toldText fault c a = tx at *
      go_region_held3 (fun w' => w'.cell? ⟨w.heap.size, 0, none⟩ = some (.bool false) ∧ w'.cell? ⟨w.heap.size, 1, none⟩ = some parts ∧ w'.cell? ⟨w.heap.size, 2, none⟩ = some (.int .i64 c) ∧ w'.cell? ⟨w.heap.size, 3, none⟩ = some (.int .i64 a) ∧ w'.cell? ⟨w.heap.size, 4, none⟩ = some (.bool fault)) (first | exact HCELLS.out _ (by assumption)) (first | (go_at_call 27; refine (HN1.out _ (by assumption)).mono ?_; rintro e w' ⟨rfl, hB⟩; have hA : At w w.heap.size #[.bool false, parts, .int .i64 c, .int .i64 a, .bool fault] parts ss w' := At.later (by assumption) hB) | (go_at_call 28; refine (HN2.out _).mono ?_; rintro e w' ⟨rfl, hB⟩; have hA : At w w.heap.size #[.bool false, parts, .int .i64 c, .int .i64 a, .bool fault] parts ss w' := At.later (by assumption) hB) | (go_at_call 22; refine (HBD.out _ (by assumption)).mono ?_; rintro e w' ⟨rfl, hB⟩; have hA : At w w.heap.size #[.bool false, parts, .int .i64 c, .int .i64 a, .bool fault] parts ss w' := At.later (by assumption) hB) | (go_at_call 30; refine (HTO.out _).mono ?_; rintro e w' ⟨rfl, hB⟩; have hA : At w w.heap.size #[.bool false, parts, .int .i64 c, .int .i64 a, .bool fault] parts ss w' := At.later (by assumption) hB) | (go_at_call_of 29 (Value.iface T v0); refine (HTX.out _ (by assumption)).mono ?_; rintro e w' ⟨rfl, hB⟩; have hA : At w w.heap.size #[.bool false, parts, .int .i64 c, .int .i64 a, .bool fault] parts ss w' := At.later (by assumption) hB) | (go_at_call 31; refine (HNEW.out _ _).mono ?_; rintro e w' ⟨rfl, hB⟩; have hA : At w w.heap.size #[.bool false, parts, .int .i64 c, .int .i64 a, .bool fault] parts ss w' := At.later (by assumption) hB) | (go_at_call 29; refine (HTXO.out _ _ (by assumption)).mono ?_; rintro e w' ⟨rfl, hB⟩; have hA : At w w.heap.size #[.bool false, parts, .int .i64 c, .int .i64 a, .bool fault] parts ss w' := At.later (by assumption) hB))
      all_goals
        go_wp2
        go_ret
        exact ⟨rfl, At.below (by assumption)⟩
end Go.Proofs.YtkpibmnlmmddjaaDoor.FaultNames
