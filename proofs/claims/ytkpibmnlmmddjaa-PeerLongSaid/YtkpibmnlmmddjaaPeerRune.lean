/- The walk of strings.IndexRune at the text '.:-' and a rune beyond ASCII. -/
import Derived.Test.YtkpibmnlmmddjaaPeerLow
import Derived.Deep.QuietTactic
import Derived.BigQuiet
namespace Go.Proofs.Ytkpibmnlmmddjaa
open Go.RowKit

/-- '.:-' -/
abbrev marks : ByteArray := ⟨#[46, 58, 45]⟩

set_option maxRecDepth 100000 in
set_option maxHeartbeats 400000 in
theorem indexRune_bad (w : World) : Calls Try.prog 24 #[.string marks, .int .i32 65533] w fun e w' => e = .returned (.int .i64 (-1)) ∧ Below w.heap.size w w' := by
  have h0 := fun T => run_next_ascii (P := Try.prog) w marks 0 T (by decide) (by decide)
  have h1 := fun T => run_next_ascii (P := Try.prog) w marks 1 T (by decide) (by decide)
  have h2 := fun T => run_next_ascii (P := Try.prog) w marks 2 T (by decide) (by decide)
  have h3 := fun T => run_next_end (P := Try.prog) w marks 3 T (by decide)
  go_enter Try.func24, Try.ntmps24
  go_wp2
  refine wp_loop_rounds 4 ?_
  rw [rounds_succ]
  go_wp2
  rw [rounds_succ]
  go_wp2
  rw [rounds_succ]
  go_wp2
  rw [rounds_succ]
  go_wp2
  go_ret
  exact ⟨rfl, (Below.refl _ _).alloc (Nat.le_refl _) _⟩

set_option maxRecDepth 100000 in
set_option maxHeartbeats 400000 in
theorem indexRune_none (r : Int) (w : World) (h : Lib.validRune r = false) (h0 : 128 ≤ r) (h1 : r ≤ 1114111) (h2 : (r == 65533) = false) : Calls Try.prog 24 #[.string marks, .int .i32 r] w fun e w' => e = .returned (.int .i64 (-1)) ∧ Below w.heap.size w w' := by
  go_enter Try.func24, Try.ntmps24
  go_wp2_with (go_at_call 27; refine (Try.utf8_ValidRune _ _).mono ?_; rintro e w' ⟨rfl, rfl⟩)
  go_ret
  exact ⟨rfl, Below.refl _ _⟩

/-- What the text of a rune beyond ASCII looks like. -/
theorem encode_form (r : Int) (h0 : 128 ≤ r) (h1 : r ≤ 1114111) (hv : Utf8.valid r = true) :
    (∃ a b : UInt8, Utf8.encode r = ⟨#[a, b]⟩ ∧ 128 ≤ b.toNat) ∨ (∃ a b c : UInt8, Utf8.encode r = ⟨#[a, b, c]⟩ ∧ 128 ≤ c.toNat) ∨ ∃ a b c d : UInt8, Utf8.encode r = ⟨#[a, b, c, d]⟩ ∧ 128 ≤ d.toNat := by
  have hb : ∀ n : Nat, 128 ≤ (UInt8.ofNat (128 + n % 64)).toNat := fun n => by
    rw [UInt8.toNat_ofNat']
    omega
  unfold Utf8.encode
  rw [if_pos hv]
  by_cases h2 : r.toNat < 128
  · omega
  · by_cases h3 : r.toNat < 2048
    · refine .inl ⟨UInt8.ofNat (192 + r.toNat / 64), UInt8.ofNat (128 + r.toNat % 64), ?_, hb r.toNat⟩
      simp only [h2, h3, if_true, if_false]
    · by_cases h4 : r.toNat < 65536
      · refine .inr (.inl ⟨UInt8.ofNat (224 + r.toNat / 4096), UInt8.ofNat (128 + r.toNat / 64 % 64), UInt8.ofNat (128 + r.toNat % 64), ?_, hb r.toNat⟩)
        simp only [h2, h3, h4, if_true, if_false]
      · refine .inr (.inr ⟨UInt8.ofNat (240 + r.toNat / 262144), UInt8.ofNat (128 + r.toNat / 4096 % 64), UInt8.ofNat (128 + r.toNat / 64 % 64), UInt8.ofNat (128 + r.toNat % 64), ?_, hb r.toNat⟩)
        simp only [h2, h3, h4, if_false]


set_option maxRecDepth 100000 in
set_option maxHeartbeats 400000 in
theorem indexRune_two (r : Int) (w : World) (h : Lib.validRune r = true) (h0 : 128 ≤ r) (h1 : r ≤ 1114111) (h2 : (r == 65533) = false) (a b : UInt8) (hE : Utf8.encode r = ⟨#[a, b]⟩) (hb : 128 ≤ b.toNat) :
    Calls Try.prog 24 #[.string marks, .int .i32 r] w fun e w' => e = .returned (.int .i64 (-1)) ∧ Below w.heap.size w w' := by
  have hne : (((marks[1]'(by decide)).toNat : Int) != (((⟨#[a, b]⟩ : ByteArray)[1]'(by show 1 < 2; decide)).toNat : Int)) = true := by
    show ((58 : Int) != (b.toNat : Int)) = true
    rw [bne_iff_ne]
    omega
  have hix : Lib.indexByte [45] ((⟨#[a, b]⟩ : ByteArray)[1]'(by show 1 < 2; decide)) = -1 := by
    show Lib.indexByte [45] b = -1
    have : (45 == b) = false := by
      rw [beq_eq_false_iff_ne]
      rintro rfl
      revert hb
      decide
    simp [Lib.indexByte, this]
  go_enter Try.func24, Try.ntmps24
  go_wp2_with (go_at_call 27; refine (Try.utf8_ValidRune _ _).mono ?_; rintro e w' ⟨rfl, rfl⟩)
  go_step3
  go_wp2
  refine wp_loop_rounds 1 ?_
  rw [rounds_succ]
  go_wp2
  go_step3
  go_wp2
  go_quiet (fail)
  have hB := below_draws w' nq
  generalize w'.drewN nq = W at hB ⊢
  go_wp2
  go_quiet ((go_at_call 26; exact Calls.quiet_of_same (Try.strings_IndexByte _ _ _)))
  go_wp2_with fail
  rw [Exit.noGoto_ret]
  go_wp2
  rw [Exit.noGoto_ret]
  go_wp2
  go_ret
  exact ⟨rfl, hB.trans ((below_draws W nq).mono hB.size)⟩

set_option maxRecDepth 100000 in
set_option maxHeartbeats 400000 in
theorem indexRune_three (r : Int) (w : World) (h : Lib.validRune r = true) (h0 : 128 ≤ r) (h1 : r ≤ 1114111) (h2 : (r == 65533) = false) (a b c : UInt8) (hE : Utf8.encode r = ⟨#[a, b, c]⟩) (hb : 128 ≤ c.toNat) :
    Calls Try.prog 24 #[.string marks, .int .i32 r] w fun e w' => e = .returned (.int .i64 (-1)) ∧ Below w.heap.size w w' := by
  have hne : (((marks[2]'(by decide)).toNat : Int) != (((⟨#[a, b, c]⟩ : ByteArray)[2]'(by show 2 < 3; decide)).toNat : Int)) = true := by
    show ((45 : Int) != (c.toNat : Int)) = true
    rw [bne_iff_ne]
    omega
  go_enter Try.func24, Try.ntmps24
  go_wp2_with (go_at_call 27; refine (Try.utf8_ValidRune _ _).mono ?_; rintro e w' ⟨rfl, rfl⟩)
  go_step3
  go_wp2
  refine wp_loop_rounds 1 ?_
  rw [rounds_succ]
  go_wp2
  go_step3
  go_wp2
  go_quiet (fail)
  have hB := below_draws w' nq
  generalize w'.drewN nq = W at hB ⊢
  go_wp2
  go_quiet ((go_at_call 26; exact Calls.quiet_of_same (Try.strings_IndexByte _ _ _)))
  go_wp2_with fail
  rw [Exit.noGoto_ret]
  go_wp2
  rw [Exit.noGoto_ret]
  go_wp2
  go_ret
  exact ⟨rfl, hB.trans ((below_draws W nq).mono hB.size)⟩

set_option maxRecDepth 100000 in
set_option maxHeartbeats 400000 in
theorem indexRune_four (r : Int) (w : World) (h : Lib.validRune r = true) (h0 : 128 ≤ r) (h1 : r ≤ 1114111) (h2 : (r == 65533) = false) (a b c d : UInt8) (hE : Utf8.encode r = ⟨#[a, b, c, d]⟩) :
    Calls Try.prog 24 #[.string marks, .int .i32 r] w fun e w' => e = .returned (.int .i64 (-1)) ∧ Below w.heap.size w w' := by
  go_enter Try.func24, Try.ntmps24
  go_wp2_with (go_at_call 27; refine (Try.utf8_ValidRune _ _).mono ?_; rintro e w' ⟨rfl, rfl⟩)
  go_step3
  go_wp2
  refine wp_loop_rounds 1 ?_
  rw [rounds_succ]
  go_wp2
  rw [Exit.noGoto_ret]
  go_wp2
  go_ret
  exact ⟨rfl, Below.refl _ _⟩

/-- A rune beyond ASCII is not among the marks. -/
theorem indexRune_high (r : Int) (w : World) (h0 : 128 ≤ r) (h1 : r ≤ 1114111) :
    Calls Try.prog 24 #[.string marks, .int .i32 r] w fun e w' => e = .returned (.int .i64 (-1)) ∧ Below w.heap.size w w' := by
  by_cases h2 : r = 65533
  · subst h2
    exact indexRune_bad w
  · have h2' : (r == 65533) = false := by simpa using h2
    cases h : Lib.validRune r
    · exact indexRune_none r w h h0 h1 h2'
    · have hv : Utf8.valid r = true := by
        have h' := h
        simp only [Lib.validRune, decide_eq_true_eq] at h'
        rw [validRune_eq]
        simp only [validRune, decide_eq_true_eq]
        omega
      rcases encode_form r h0 h1 hv with ⟨a, b, e, hb⟩ | ⟨a, b, c, e, hb⟩ | ⟨a, b, c, d, e, _⟩
      · exact indexRune_two r w h h0 h1 h2' a b e hb
      · exact indexRune_three r w h h0 h1 h2' a b c e hb
      · exact indexRune_four r w h h0 h1 h2' a b c d e

theorem containsRune_high (r : Int) (w : World) (h0 : 128 ≤ r) (h1 : r ≤ 1114111) :
    Calls Try.prog 22 #[.string marks, .int .i32 r] w fun e w' => e = .returned (.bool false) ∧ Below w.heap.size w w' := by
  go_enter Try.func22, Try.ntmps22
  go_wp2_with (go_at_call 24; refine (indexRune_high _ _ h0 h1).mono ?_; rintro e w' ⟨rfl, hB⟩)
  go_ret
  exact ⟨rfl, hB⟩

/-- Whether a rune up to U+10FFFF is among the marks. -/
theorem containsRune_any (x : Nat) (w : World) (h : x ≤ 1114111) :
    Calls Try.prog 22 #[.string marks, .int .i32 (x : Int)] w fun e w' => e = .returned (.bool (decide (x = 46) || decide (x = 58) || decide (x = 45))) ∧ Below w.heap.size w w' := by
  by_cases hx : x < 128
  · refine (Try.strings_ContainsRune_ascii marks x w (by omega) (by omega)).mono ?_
    rintro e w' ⟨rfl, rfl⟩
    refine ⟨?_, Below.refl _ _⟩
    have : ∀ y : Fin 128, decide (0 ≤ Lib.indexByte marks.data.toList (y.val : Int).toNat.toUInt8) = (decide (y.val = 46) || decide (y.val = 58) || decide (y.val = 45)) := by decide +kernel
    rw [this ⟨x, hx⟩]
  · refine (containsRune_high x w (by omega) (by omega)).mono ?_
    rintro e w' ⟨rfl, hB⟩
    refine ⟨?_, hB⟩
    have : (decide (x = 46) || decide (x = 58) || decide (x = 45)) = false := by simp; omega
    rw [this]
end Go.Proofs.Ytkpibmnlmmddjaa
