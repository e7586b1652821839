/- PeerLong: for every n the law returns true: addresses have up to 100 bytes. No condition. -/
import Derived.Test.YtkpibmnlmmddjaaPeerAwake
import Derived.Test.YtkpibmnlmmddjaaPost
namespace Go.Proofs.Ytkpibmnlmmddjaa.PeerLong
open Go.ChangeShapes Go.WideShapes Go.ChangeAt Go.RowKit

theorem own : ownKnob Try.prog.godebug = none := by kernel_rfl

/-- A string of k letters a. -/
def Letters (k : Nat) (v : Value) : Prop := ∃ s : ByteArray, v = .string s ∧ s.data.toList = List.replicate k 97

theorem letters_size {k : Nat} {s : ByteArray} (h : s.data.toList = List.replicate k 97) : s.size = k := by
  have := congrArg List.length h
  simpa using this

theorem letters_more {k : Nat} {s : ByteArray} (h : s.data.toList = List.replicate k 97) : (s ++ (⟨#[97]⟩ : ByteArray)).data.toList = List.replicate (k + 1) 97 := by
  rw [ByteArray.data_append, Array.toList_append, h]
  simp [List.replicate_succ']

theorem letters_all {k : Nat} {s : ByteArray} (h : s.data.toList = List.replicate k 97) : allAddr s = true := by
  unfold allAddr
  rw [h]
  simp
  exact .inr (by decide)

theorem letters_right {k : Nat} {s : ByteArray} (h : s.data.toList = List.replicate k 97) (h1 : 1 ≤ k) (h2 : k ≤ 100) : rightS s = true := by
  unfold rightS
  rw [letters_size h, letters_all h]
  simp [h1, h2]

theorem letters_wrong {k : Nat} {s : ByteArray} (h : s.data.toList = List.replicate k 97) (h2 : 100 < k) : rightS s = false := by
  unfold rightS
  rw [letters_size h]
  have : ¬ k ≤ 100 := by omega
  simp [this]

set_option maxRecDepth 100000 in
set_option maxHeartbeats 1000000 in
theorem walk (n : Int) (w : World) (h0 : 0 ≤ n) (h1 : n ≤ 255) :
    Calls Try.prog 4 #[.int .u8 n] w fun e w' => e = .returned (.bool true) ∧ Below w.heap.size w w' := by
  go_enter Try.func4, Try.ntmps4
  go_wp2_with fail
  refine (awake_any _).mono ?_
  rintro e w1 ⟨rfl, hB1⟩
  go_wp2_with fail
  obtain ⟨K, hK⟩ : ∃ K : Nat, (K : Int) = 95 + n % 10 := ⟨(95 + n % 10).toNat, by omega⟩
  have k1 : 95 ≤ K := by omega
  have k2 : K ≤ 104 := by omega
  rw [← hK]
  clear hK
  go_loop [4, 5] (fun s i => ∃ k : Nat, k ≤ K ∧ i = .int .i64 k ∧ Letters k s) (fun _ i => K - (intOf i).toNat)
  case atStart => exact ⟨0, Nat.zero_le _, rfl, ⟨#[]⟩, rfl, rfl⟩
  case round =>
    obtain ⟨k, hk, rfl, s, rfl, hs⟩ := hrel
    have hz : s.size ≤ 104 := by rw [letters_size hs]; omega
    have HS := Lib.hid hs
    clear hs
    by_cases hlt : k < K
    · go_wp2_with fail
      exact ⟨⟨k + 1, by omega, by go_num, _, rfl, letters_more HS.out⟩, by simp [intOf]; omega⟩
    · obtain rfl : k = K := by omega
      go_wp2_with fail
      refine (new_any _ _).mono ?_
      rintro e w2 ⟨pb, mb, rfl, hp2, _, _, hB2⟩
      have hC2 := below_then hB1 hB2 hB1.size
      by_cases hm : k ≤ 100
      · have hr := letters_right HS.out (by omega) hm
        have ho : orNone s = s := by unfold orNone; rw [if_pos hr]
        rw [ho] at hp2
        have hne : s.toList.isEmpty = false := by
          rw [ByteArray.toList_eq, HS.out]
          obtain ⟨j, rfl⟩ : ∃ j, k = j + 1 := ⟨k - 1, by omega⟩
          rfl
        clear ho
        go_wp2_with fail
        refine (address_any _ _ _ _ _ _ _ _ hp2).mono ?_
        rintro e w3 ⟨rfl, hB3⟩
        have hC3 := below_then hC2 hB3 hC2.size
        clear hB3 hp2 hC2 hB2
        go_wp2_with fail
        refine (peerRight_any _ _).mono ?_
        rintro e w4 ⟨rfl, hB4⟩
        have hC4 := below_then hC3 hB4 hC3.size
        clear hB4 hC3
        go_wp2_with fail
        go_ret
        exact ⟨rfl, hC4⟩
      · have hr := letters_wrong HS.out (by omega)
        have ho : orNone s = ⟨#[]⟩ := by unfold orNone; rw [hr]; rfl
        rw [ho] at hp2
        clear ho
        go_wp2_with fail
        refine (address_any _ _ _ _ _ _ _ _ hp2).mono ?_
        rintro e w3 ⟨rfl, hB3⟩
        have hC3 := below_then hC2 hB3 hC2.size
        clear hB3 hp2 hC2 hB2
        go_wp2_with fail
        refine (peerRight_any _ _).mono ?_
        rintro e w4 ⟨rfl, hB4⟩
        have hC4 := below_then hC3 hB4 hC3.size
        clear hB4 hC3
        go_wp2_with fail
        go_ret
        exact ⟨rfl, hC4⟩

set_option maxRecDepth 100000 in
theorem lifted (os : Os) (started : os.Started) (H : Type) (enc : TypeId × Value → H) :
    ReturnsInHanded {} Try.checked os 4 .any (Rows.peerLongSpec.pre6 enc Try.prog Try.f4 Rows.peerLongRow.domain false) (Rows.peerLongSpec.post enc Try.prog Try.f4 false true false false) := by
  refine returnsInHanded_of_change (C := Try.checked) own started (by kernel_rfl) Try.func4
    (ChangeSpec.witness6 (enc := enc) (C := Try.checked) false ⟨#[], #[.int .u8 0], []⟩ 8 (by kernel_rfl) (by kernel_rfl) (by kernel_rfl) (by kernel_rfl)) ?_
  intro W base args ds gs before hval0 hW _ _
  have hval : ∀ (j : Nat) t v, Try.f4.params[j]? = some t → args[j]? = some v → Value.okWide Try.prog W .any base t v := hval0
  have hW' := hW
  obtain ⟨p, q, hA0, hV, rfl, hfz, hnd⟩ := hW
  have hA : DataW.TrodAll enc Try.prog W 0 (fun _ => true) true Try.f4.params.toList args.toList ds p := hA0
  rw [Try.params4] at hA hval
  obtain ⟨v0, d0, rfl, rfl, h0⟩ := trodAll_one hA
  obtain ⟨rfl, rfl⟩ := trodVars_none hV
  obtain ⟨n, rfl, rfl, rfl, wn⟩ := open_int Try.underlying5 (hval 0 5 v0 rfl rfl) h0
  clear hA0 hval0
  simp only [List.append_nil] at hW'
  have hn : 0 ≤ n ∧ n ≤ 255 := by simpa [Lit.wf, IntKind.min, IntKind.max, IntKind.signed, IntKind.bits] using wn
  refine (walk n W hn.1 hn.2).mono fun e W' ⟨he, hb⟩ => ?_
  subst he
  exact ⟨_, rfl, postBelow (pa := []) (pv := []) hW' (fun _ _ _ => trodAll_mk1 (shut_bool Try.underlying4 _)) (fun _ _ => trodAll_mk1 (shut_int Try.underlying5 wn)) (fun _ _ => rfl) rfl hb
    (ok_one (by kernel_rfl) rfl (okWide_bool_mk Try.underlying4 _))⟩

theorem holds : Rows.PeerLongSaid :=
  OpenClaim.holds_of_wide 4 Try.f4 rfl rfl rfl rfl rfl rfl rfl ⟨rfl, rfl, rfl, rfl, rfl⟩ rfl rfl rfl rfl rfl (by kernel_rfl) Try.func4 (by kernel_rfl)
    (of_decide_eq_true (by kernel_rfl)) (by unfold Func.isWrapper; first | (rw [if_pos (by decide +kernel)]; kernel_rfl) | (rw [if_neg (by decide +kernel)]; exact ⟨rfl, rfl⟩))
    (fun os started H enc _ => lifted os started H enc)
#print axioms holds
end Go.Proofs.Ytkpibmnlmmddjaa.PeerLong
