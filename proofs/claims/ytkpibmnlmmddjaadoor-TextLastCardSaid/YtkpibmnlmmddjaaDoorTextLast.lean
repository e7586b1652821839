/- TextLast: for every key and every byte the law returns true: of the last characters four are right, the others wrong at the offset 21. -/
import Derived.Test.YtkpibmnlmmddjaaDoorTextValues
import Derived.Deep.RegionWith
import Derived.Laws.BytesArg
namespace Go.Proofs.YtkpibmnlmmddjaaDoor.TextLast
open Go.RowKit

/-- What is held while the region is walked. -/
def LA (w : World) (Y : List Value) (w' : World) : Prop := w'.rangeAt w.heap.size 0 Y ∧ Below w.heap.size w w'
theorem la_later {w : World} {Y : List Value} {a b : World} (h : LA w Y a) (hB : Below a.heap.size a b) : LA w Y b := ⟨fun j v hv => cell_later hB (h.1 j v hv), below_then h.2 hB h.2.size⟩
theorem la_alloc {w : World} {Y : List Value} {a : World} (h : LA w Y a) (o : Obj) : LA w Y (a.alloc o) := la_later h ((Below.refl _ _).alloc (Nat.le_refl _) _)
theorem la_drew {w : World} {Y : List Value} {a : World} (h : LA w Y a) : LA w Y a.drew := la_later h (below_draws a 1)

theorem bcell {W w1 : World} (hb : Below W.heap.size W w1) : ∀ b o, b < W.heap.size → w1.cell? ⟨b, o, none⟩ = W.cell? ⟨b, o, none⟩ := fun b o h => hb.cell (p := ⟨b, o, none⟩) h

theorem finA {w w1 w' : World} (h : Below w.heap.size w w1) (hB : Below w1.drew.heap.size w1.drew w') (o : Obj) : Below w.heap.size w (w'.alloc o) := by
  have := below_then (h.trans (below_draws w1 1 |>.mono h.size)) hB h.size
  exact this.alloc this.size o
theorem finB {w w1 w' : World} {o : Obj} (h : Below w.heap.size w w1) (hB : Below (w1.drew.alloc o).heap.size (w1.drew.alloc o) w') : Below w.heap.size w w' := by
  have h1 := h.trans (below_draws w1 1 |>.mono h.size)
  exact below_then (h1.alloc h1.size o) hB (h1.alloc h1.size o).size

theorem cut_size {T : ByteArray} (h : T.size = 22) (b : UInt8) : (T.extract 0 21 ++ ⟨#[b]⟩ : ByteArray).size = 22 := by
  rw [ByteArray.size_append, ByteArray.size_extract]
  show min 21 T.size - 0 + 1 = 22
  omega
theorem cut_get {T : ByteArray} (h : T.size = 22) (b : UInt8) {j : Nat} (hj : j < 21) : (T.extract 0 21 ++ ⟨#[b]⟩ : ByteArray).data.getD j 0 = T.data.getD j 0 := by
  have h' : T.data.size = 22 := h
  rw [ByteArray.data_append, ByteArray.data_extract]
  simp only [Array.getD_eq_getD_getElem?]
  rw [Array.getElem?_append_left (by simp; omega), Array.getElem?_extract_of_lt (by omega)]
  simp [Array.getElem?_eq_getElem (show j < T.data.size by omega)]
theorem cut_last {T : ByteArray} (h : T.size = 22) (b : UInt8) : (T.extract 0 21 ++ ⟨#[b]⟩ : ByteArray).data.getD 21 0 = b := by
  have h' : T.data.size = 22 := h
  rw [ByteArray.data_append, ByteArray.data_extract]
  simp only [Array.getD_eq_getD_getElem?]
  rw [Array.getElem?_append_right (by simp; omega)]
  have e : 21 - (T.data.extract 0 21).size = 0 := by simp; omega
  rw [e]
  rfl

theorem parse_cut (K : List Nat) {T : ByteArray} (hT : textOf K = T) (v : Nat) (x : Nat) (hx : charN (v % 64) = x) : ∃ K' Y' ev, Key K' Y' ∧
    (∀ w, TEnv w → Calls Tryd.prog 13 #[.string (T.extract 0 21 ++ ⟨#[UInt8.ofNat x]⟩)] w fun e w' => e = .returned (.tuple #[.agg Y'.toArray, ev]) ∧ Below w.heap.size w w') ∧
    ((v % 16 = 0 ∧ ev = .nilIface) ∨ (¬ v % 16 = 0 ∧ ev = .iface 72 (.agg #[.int .i64 11, .int .i64 21]))) := by
  have hsz : T.size = 22 := by rw [← hT]; exact textOf_size K
  have hlast := parse_last K (s := T.extract 0 21 ++ ⟨#[UInt8.ofNat x]⟩) (cut_size hsz _) (fun j hj => by rw [cut_get hsz _ hj, hT]) (v := v % 64) (by omega) (by
    rw [cut_last hsz, hx]
    have := charN_lt (i := v % 64) (by omega)
    simp
    omega)
  have hs : (T.extract 0 21 ++ ⟨#[UInt8.ofNat x]⟩ : ByteArray).size ≤ 300 := by rw [cut_size hsz]; omega
  by_cases hz : v % 16 = 0
  · obtain ⟨k, hk⟩ := hlast.1 (by omega)
    rcases parseR_cases (T.extract 0 21 ++ ⟨#[UInt8.ofNat x]⟩) with ⟨a, h⟩ | ⟨a, h⟩ | ⟨_, _, _, h⟩
    · rw [hk] at h
      simp at h
    · rw [hk] at h
      simp at h
    · have kk : Key (keyOfN (bigV (T.extract 0 21 ++ ⟨#[UInt8.ofNat x]⟩))) (cells8 (keyOfN (bigV (T.extract 0 21 ++ ⟨#[UInt8.ofNat x]⟩)))) := ⟨rfl, keyOfN_length _, keyOfN_lt _⟩
      exact ⟨_, _, _, kk, fun w he => kk.parse0 hs h w he, .inl ⟨hz, rfl⟩⟩
  · exact ⟨_, _, _, keyZero, fun w he => keyZero.parse hs (by decide) (hlast.2 (by omega)) w he, .inr ⟨hz, rfl⟩⟩

theorem list16 {K : List Nat} (h : K.length = 16) : ∃ k0 k1 k2 k3 k4 k5 k6 k7 k8 k9 k10 k11 k12 k13 k14 k15, K = [k0, k1, k2, k3, k4, k5, k6, k7, k8, k9, k10, k11, k12, k13, k14, k15] :=
  match K, h with
  | [k0, k1, k2, k3, k4, k5, k6, k7, k8, k9, k10, k11, k12, k13, k14, k15], _ => ⟨k0, k1, k2, k3, k4, k5, k6, k7, k8, k9, k10, k11, k12, k13, k14, k15, rfl⟩

set_option maxRecDepth 100000 in
set_option maxHeartbeats 4000000 in
theorem walk (K : List Nat) (Y : List Value) (kY : Key K Y) (v : Nat) (hv : v < 256) (w : World) (he : TEnv w) : Calls Tryd.prog 6 #[.agg Y.toArray, .int .u8 (v : Int)] w fun e w' => e = .returned (.bool true) ∧ Below w.heap.size w w' := by
  have hu := Tryd.underlying22
  have hrp := fun w => kY.refPrint w
  have hr0 := kY.stored w
  have hsz := textOf_size K
  have hsz' : ((textOf K).size : Int) = 22 := by omega
  generalize hT : textOf K = T at *
  have HKY := Lib.hid kY
  obtain ⟨k0, k1, k2, k3, k4, k5, k6, k7, k8, k9, k10, k11, k12, k13, k14, k15, hK⟩ := list16 kY.len
  have hYl : Y = [.int .u8 k0, .int .u8 k1, .int .u8 k2, .int .u8 k3, .int .u8 k4, .int .u8 k5, .int .u8 k6, .int .u8 k7, .int .u8 k8, .int .u8 k9, .int .u8 k10, .int .u8 k11, .int .u8 k12, .int .u8 k13, .int .u8 k14, .int .u8 k15] := by rw [kY.cells, hK]; rfl
  have hYa : Y.toArray = #[.int .u8 k0, .int .u8 k1, .int .u8 k2, .int .u8 k3, .int .u8 k4, .int .u8 k5, .int .u8 k6, .int .u8 k7, .int .u8 k8, .int .u8 k9, .int .u8 k10, .int .u8 k11, .int .u8 k12, .int .u8 k13, .int .u8 k14, .int .u8 k15] := by rw [hYl]
  obtain ⟨x, hx⟩ : ∃ x, charN (v % 64) = x := ⟨_, rfl⟩
  obtain ⟨K', Y', ev, kY', hpa, hev⟩ := parse_cut K hT v x hx
  have HPA := Lib.hid hpa
  have HEV := Lib.hid hev
  have HX := Lib.hid hx
  clear hpa hev hx
  have HYL := Lib.hid hYl
  have HYA := Lib.hid hYa
  have HK := Lib.hid hK
  rw [hYa] at hr0 hrp ⊢
  have hb0 : Below w.heap.size w (w.alloc (.cells #[.int .u8 k0, .int .u8 k1, .int .u8 k2, .int .u8 k3, .int .u8 k4, .int .u8 k5, .int .u8 k6, .int .u8 k7, .int .u8 k8, .int .u8 k9, .int .u8 k10, .int .u8 k11, .int .u8 k12, .int .u8 k13, .int .u8 k14, .int .u8 k15] 22)) := (Below.refl _ _).alloc (Nat.le_refl _) _
  have hs0 : w.heap.size < (w.alloc (.cells #[.int .u8 k0, .int .u8 k1, .int .u8 k2, .int .u8 k3, .int .u8 k4, .int .u8 k5, .int .u8 k6, .int .u8 k7, .int .u8 k8, .int .u8 k9, .int .u8 k10, .int .u8 k11, .int .u8 k12, .int .u8 k13, .int .u8 k14, .int .u8 k15] 22)).heap.size := by simp
  have HE := Lib.hid he
  have HRP := Lib.hid hrp
  clear he hrp hYl hYa hK hT kY
  go_enter Tryd.func6, Tryd.ntmps6
  go_wp2_with fail
  generalize World.alloc w _ = w0 at *
  refine (awake14 _ (HE.out.later hb0)).mono ?_
  rintro e w1 ⟨rfl, hB1⟩
  have hr1 := range_later hr0 hs0 hB1
  rw [HYL.out] at hr1
  have hb1 := below_then hb0 hB1 hb0.size
  have hs1 : w.heap.size < w1.heap.size := by have := hB1.size; omega
  have c0 : w1.cell? ⟨w.heap.size, 0, none⟩ = some (.int .u8 k0) := hr1 0 _ rfl
  have c1 : w1.cell? ⟨w.heap.size, 1, none⟩ = some (.int .u8 k1) := hr1 1 _ rfl
  have c2 : w1.cell? ⟨w.heap.size, 2, none⟩ = some (.int .u8 k2) := hr1 2 _ rfl
  have c3 : w1.cell? ⟨w.heap.size, 3, none⟩ = some (.int .u8 k3) := hr1 3 _ rfl
  have c4 : w1.cell? ⟨w.heap.size, 4, none⟩ = some (.int .u8 k4) := hr1 4 _ rfl
  have c5 : w1.cell? ⟨w.heap.size, 5, none⟩ = some (.int .u8 k5) := hr1 5 _ rfl
  have c6 : w1.cell? ⟨w.heap.size, 6, none⟩ = some (.int .u8 k6) := hr1 6 _ rfl
  have c7 : w1.cell? ⟨w.heap.size, 7, none⟩ = some (.int .u8 k7) := hr1 7 _ rfl
  have c8 : w1.cell? ⟨w.heap.size, 8, none⟩ = some (.int .u8 k8) := hr1 8 _ rfl
  have c9 : w1.cell? ⟨w.heap.size, 9, none⟩ = some (.int .u8 k9) := hr1 9 _ rfl
  have c10 : w1.cell? ⟨w.heap.size, 10, none⟩ = some (.int .u8 k10) := hr1 10 _ rfl
  have c11 : w1.cell? ⟨w.heap.size, 11, none⟩ = some (.int .u8 k11) := hr1 11 _ rfl
  have c12 : w1.cell? ⟨w.heap.size, 12, none⟩ = some (.int .u8 k12) := hr1 12 _ rfl
  have c13 : w1.cell? ⟨w.heap.size, 13, none⟩ = some (.int .u8 k13) := hr1 13 _ rfl
  have c14 : w1.cell? ⟨w.heap.size, 14, none⟩ = some (.int .u8 k14) := hr1 14 _ rfl
  have c15 : w1.cell? ⟨w.heap.size, 15, none⟩ = some (.int .u8 k15) := hr1 15 _ rfl
  have HB1 := Lib.hid hb1
  clear hr0 hb0 hs0 hB1 hr1 hb1
  have hch : ∀ w, Calls Tryd.prog 18 #[.int .i64 ((v : Int) % 64)] w fun e w' => e = .returned (.tuple #[.int .u8 (x : Nat), .bool true]) ∧ w = w' := fun w => by rw [← HX.out]; exact TextValues.char_yes (v % 64) (by omega) w
  have HCH := Lib.hid hch
  clear hch
  go_wp2_with fail
  refine (HCH.out _).mono ?_
  rintro e w2 ⟨rfl, rfl⟩
  have hcv : ∀ (W : World) (b c : Nat), W.cell? ⟨b, 0, none⟩ = some (.int .u8 (x : Nat)) → (convert 38 9 (.slice (some ⟨b, 0, none⟩) 1 c)).run Tryd.prog W = .ok (.string ⟨#[UInt8.ofNat x]⟩) W := by
    intro W b c h
    refine run_convert_bytes_arg (P := Tryd.prog) W 38 5 Tryd.underlying38 Tryd.underlying5 b 0 1 c [(x : Int)] rfl (fun i hi => ?_) 9 Tryd.underlying9
    obtain rfl : i = 0 := by omega
    exact h
  go_wp2_with fail
  go_region_with (go_at_call 14; refine (HRP.out _).mono ?_; rintro e w' ⟨rfl, hB⟩; have hc' := bcell hB)
  all_goals
    go_wp2_with fail
    refine (HPA.out _ (HE.out.later (by first | exact finA HB1.out hB _ | exact finB HB1.out hB))).mono ?_
    rintro e w5 ⟨rfl, hB5⟩
    have hb5 : Below w.heap.size w w5 := below_then (by first | exact finA HB1.out hB _ | exact finB HB1.out hB) hB5 (by first | exact (finA HB1.out hB _).size | exact (finB HB1.out hB).size)
    have HB5 := Lib.hid hb5
    clear hB5 hb5 hc' hB
    rcases HEV.out with ⟨hz, rfl⟩ | ⟨hz, rfl⟩
    · have hz' : ((v : Int) % 16 != 0) = false := by simp; omega
      clear hz
      go_wp2_with (refine wpList_store_new (by rfl) _ (.tmp 8) (.tmp 29) (by rfl) _ Y'.toArray (by rfl) (by rfl) kY'.info (by rw [kY'.size]; rfl) kY'.one ?_)
      go_ret
      exact ⟨rfl, HB5.out.alloc HB5.out.size _⟩
    · have hz' : ((v : Int) % 16 != 0) = true := by simp; omega
      clear hz
      go_wp2_with (refine wpList_store_new (by rfl) _ (.tmp 8) (.tmp 29) (by rfl) _ Y'.toArray (by rfl) (by rfl) kY'.info (by rw [kY'.size]; rfl) kY'.one ?_)
      refine (ltold_fault 11 21 (by decide) _ (HE.out.later (HB5.out.alloc HB5.out.size _)).err).mono ?_
      rintro e w6 ⟨rfl, hB6⟩
      go_wp2_with fail
      go_ret
      exact ⟨rfl, below_then (HB5.out.alloc HB5.out.size _) (by first | exact hB6 | simpa using hB6) (HB5.out.alloc HB5.out.size _).size⟩

theorem walk_int (K : List Nat) (Y : List Value) (kY : Key K Y) (v : Int) (hv : 0 ≤ v ∧ v ≤ 255) (w : World) (he : TEnv w) : Calls Tryd.prog 6 #[.agg Y.toArray, .int .u8 v] w fun e w' => e = .returned (.bool true) ∧ Below w.heap.size w w' := by
  obtain ⟨n, rfl⟩ : ∃ n : Nat, v = n := ⟨v.toNat, by omega⟩
  exact walk K Y kY n (by omega) w he
end Go.Proofs.YtkpibmnlmmddjaaDoor.TextLast
