/- PeerRights: for every two strings the law returns true: a string is a right address exactly if the reference says so, and Compare orders strings as the reference's Less does. No condition. -/
import Derived.Test.YtkpibmnlmmddjaaPeerAwake
import Derived.Test.YtkpibmnlmmddjaaPost
namespace Go.Proofs.Ytkpibmnlmmddjaa.PeerRights
open Go.ChangeShapes Go.WideShapes Go.ChangeAt Go.RowKit
open Go.ChangeMaps (open_string shut_string)

theorem own : ownKnob Try.prog.godebug = none := by kernel_rfl

theorem cmp_neg (a b : ByteArray) : decide (cmpS a b < 0) = Op.bytesLess a.toList b.toList := by
  unfold cmpS
  cases Op.bytesLess a.toList b.toList <;> cases (a.toList == b.toList) <;> simp

theorem less_asymm : ∀ (l m : List UInt8), Op.bytesLess l m = true → Op.bytesLess m l = false
  | [], [], h => by simp [Op.bytesLess] at h
  | _ :: _, [], h => by simp [Op.bytesLess] at h
  | [], _ :: _, _ => rfl
  | a :: l, b :: m, h => by
    simp only [Op.bytesLess, Bool.or_eq_true, Bool.and_eq_true, decide_eq_true_eq, beq_iff_eq] at h
    simp only [Op.bytesLess, Bool.or_eq_false_iff, Bool.and_eq_false_iff, decide_eq_false_iff_not, beq_eq_false_iff_ne]
    rcases h with h | ⟨rfl, h⟩
    · exact ⟨fun h' => absurd (UInt8.lt_trans h h') (by simp), .inl (fun e => by subst e; simp at h)⟩
    · exact ⟨by simp, .inr (less_asymm l m h)⟩

theorem less_total : ∀ (l m : List UInt8), Op.bytesLess l m = false → (l == m) = false → Op.bytesLess m l = true
  | [], [], _, h => by simp at h
  | [], _ :: _, h, _ => by simp [Op.bytesLess] at h
  | _ :: _, [], _, _ => rfl
  | a :: l, b :: m, h, hne => by
    simp only [Op.bytesLess, Bool.or_eq_false_iff, Bool.and_eq_false_iff, decide_eq_false_iff_not, beq_eq_false_iff_ne] at h
    simp only [Op.bytesLess, Bool.or_eq_true, Bool.and_eq_true, decide_eq_true_eq, beq_iff_eq]
    obtain ⟨h1, h2⟩ := h
    by_cases e : a = b
    · subst e
      refine .inr ⟨rfl, less_total l m (by rcases h2 with h2 | h2; exact absurd rfl h2; exact h2) ?_⟩
      simpa using hne
    · refine .inl ?_
      have : ¬ a.toNat < b.toNat := fun h' => h1 (UInt8.lt_iff_toNat_lt.2 h')
      have : a.toNat ≠ b.toNat := fun h' => e (UInt8.toNat_inj.1 h')
      exact UInt8.lt_iff_toNat_lt.2 (by omega)

theorem cmp_pos (a b : ByteArray) : decide (cmpS a b > 0) = Op.bytesLess b.toList a.toList := by
  unfold cmpS
  cases h1 : Op.bytesLess a.toList b.toList
  · cases h2 : (a.toList == b.toList)
    · rw [less_total _ _ h1 h2]
      simp
    · have : a.toList = b.toList := by simpa using h2
      rw [this, less_irrefl]
      simp
  · rw [less_asymm _ _ h1]
    simp

theorem cmp_back (a b : ByteArray) : cmpS b a = -cmpS a b := by
  have h1 := cmp_neg a b
  have h2 := cmp_pos a b
  have h3 := cmp_neg b a
  have h4 := cmp_pos b a
  have hr : ∀ x y : ByteArray, cmpS x y = -1 ∨ cmpS x y = 0 ∨ cmpS x y = 1 := fun x y => by
    unfold cmpS
    split
    · exact .inl rfl
    · split
      · exact .inr (.inr rfl)
      · exact .inr (.inl rfl)
  rw [← h3] at h2
  rw [← h4] at h1
  have h5 : cmpS a b < 0 ↔ cmpS b a > 0 := by simpa using h1
  have h6 : cmpS a b > 0 ↔ cmpS b a < 0 := by simpa using h2
  have h7 := hr a b
  have h8 := hr b a
  omega

theorem cmp_range (a b : ByteArray) : -1 ≤ cmpS a b ∧ cmpS a b ≤ 1 := by
  unfold cmpS
  split
  · decide
  · split <;> decide

set_option maxRecDepth 100000 in
set_option maxHeartbeats 1000000 in
theorem walk (s t : ByteArray) (w : World) (hs : s.size ≤ maxLen) (ht : t.size ≤ maxLen) :
    Calls Try.prog 3 #[.string s, .string t] w fun e w' => e = .returned (.bool true) ∧ Below w.heap.size w w' := by
  by_cases h1 : s.size ≤ 1000
  · by_cases h2 : t.size ≤ 1000
    · have e1 : (decide (cmpS s t < 0) == Op.bytesLess s.toList t.toList) = true := by rw [cmp_neg]; simp
      have e2 : (decide (0 < cmpS s t) == Op.bytesLess t.toList s.toList) = true := by rw [← cmp_pos]; simp
      have e3 : (cmpS t s == -cmpS s t) = true := by rw [cmp_back]; simp
      obtain ⟨r1, r2⟩ := cmp_range s t
      go_enter Try.func3, Try.ntmps3
      go_wp2_with fail
      refine (awake_any _).mono ?_
      rintro e w1 ⟨rfl, hB1⟩
      go_wp2_with fail
      refine (peerCompare_any _ _ _).mono ?_
      rintro e w2 ⟨rfl, rfl⟩
      go_wp2_with fail
      refine (peerRight_any _ _).mono ?_
      rintro e w3 ⟨rfl, hB3⟩
      have hC3 := below_then hB1 hB3 hB1.size
      clear hB1 hB3
      go_wp2_with fail
      refine (refRight_any _ _ hs).mono ?_
      rintro e w4 ⟨rfl, rfl⟩
      go_wp2_with fail
      refine (refLess_any _ _ _ hs ht).mono ?_
      rintro e w5 ⟨rfl, hB5⟩
      have hC5 := below_then hC3 hB5 hC3.size
      clear hB5 hC3
      go_wp2_with fail
      refine (refLess_any _ _ _ ht hs).mono ?_
      rintro e w6 ⟨rfl, hB6⟩
      have hC6 := below_then hC5 hB6 hC5.size
      clear hB6 hC5
      go_wp2_with fail
      refine (peerCompare_any _ _ _).mono ?_
      rintro e w7 ⟨rfl, rfl⟩
      go_wp2_with fail
      go_ret
      exact ⟨rfl, hC6⟩
    · go_enter Try.func3, Try.ntmps3
      go_wp2_with fail
      refine (awake_any _).mono ?_
      rintro e w1 ⟨rfl, hB1⟩
      go_wp2_with fail
      refine (awake_any _).mono ?_
      rintro e w2 ⟨rfl, hB2⟩
      go_wp2_with fail
      go_ret
      exact ⟨rfl, below_then hB1 hB2 hB1.size⟩
  · go_enter Try.func3, Try.ntmps3
    go_wp2_with fail
    refine (awake_any _).mono ?_
    rintro e w1 ⟨rfl, hB1⟩
    go_wp2_with fail
    refine (awake_any _).mono ?_
    rintro e w2 ⟨rfl, hB2⟩
    go_wp2_with fail
    go_ret
    exact ⟨rfl, below_then hB1 hB2 hB1.size⟩

set_option maxRecDepth 100000 in
theorem lifted (os : Os) (started : os.Started) (H : Type) (enc : TypeId × Value → H) :
    ReturnsInHanded {} Try.checked os 3 .any (Rows.peerRightsSpec.pre6 enc Try.prog Try.f3 Rows.peerRightsRow.domain false) (Rows.peerRightsSpec.post enc Try.prog Try.f3 false true false false) := by
  refine returnsInHanded_of_change (C := Try.checked) own started (by kernel_rfl) Try.func3
    (ChangeSpec.witness6 (enc := enc) (C := Try.checked) false ⟨#[], #[.string ⟨#[]⟩, .string ⟨#[]⟩], []⟩ 8 (by kernel_rfl) (by kernel_rfl) (by kernel_rfl) (by kernel_rfl)) ?_
  intro W base args ds gs before hval0 hW _ _
  have hval : ∀ (j : Nat) t v, Try.f3.params[j]? = some t → args[j]? = some v → Value.okWide Try.prog W .any base t v := hval0
  have hW' := hW
  obtain ⟨p, q, hA0, hV, rfl, hfz, hnd⟩ := hW
  have hA : DataW.TrodAll enc Try.prog W 0 (fun _ => true) true Try.f3.params.toList args.toList ds p := hA0
  rw [Try.params3] at hA hval
  obtain ⟨v0, v1, d0, d1, p0, p1, rfl, rfl, rfl, h0, h1⟩ := trodAll_two hA
  obtain ⟨rfl, rfl⟩ := trodVars_none hV
  obtain ⟨s, rfl, rfl, rfl, hs⟩ := open_string Try.underlying9 (hval 0 9 v0 rfl rfl) h0
  obtain ⟨t, rfl, rfl, rfl, ht⟩ := open_string Try.underlying9 (hval 1 9 v1 rfl rfl) h1
  clear hA0 hval0
  simp only [List.append_nil] at hW'
  refine (walk s t W hs ht).mono fun e W' ⟨he, hb⟩ => ?_
  subst he
  exact ⟨_, rfl, postBelow (pa := []) (pv := []) hW' (fun _ _ _ => trodAll_mk1 (shut_bool Try.underlying4 _)) (fun _ _ => trodAll_mk2 (shut_string Try.underlying9 hs) (shut_string Try.underlying9 ht)) (fun _ _ => rfl) rfl hb
    (ok_one (by kernel_rfl) rfl (okWide_bool_mk Try.underlying4 _))⟩

theorem holds : Rows.PeerRightsSaid :=
  OpenClaim.holds_of_wide 3 Try.f3 rfl rfl rfl rfl rfl rfl rfl ⟨rfl, rfl, rfl, rfl, rfl⟩ rfl rfl rfl rfl rfl (by kernel_rfl) Try.func3 (by kernel_rfl)
    (of_decide_eq_true (by kernel_rfl)) (by unfold Func.isWrapper; first | (rw [if_pos (by decide +kernel)]; kernel_rfl) | (rw [if_neg (by decide +kernel)]; exact ⟨rfl, rfl⟩))
    (fun os started H enc _ => lifted os started H enc)
#print axioms holds
end Go.Proofs.Ytkpibmnlmmddjaa.PeerRights
