/- What the program's variables hold that the laws read; and the texts of errors: the methods Error of a code, of a fault, and of an error in a part, however often wrapped. -/
import Derived.Test.YtkpibmnlmmddjaaDoorFault
import Derived.Test.YtkpibmnlmmddjaaDoorShelf
import Derived.Lib.QuietBelow
import Derived.Lib.ItoaLen
import Derived.Lib.AppendIntMem
import Derived.Lib.LaidTab
namespace Go.Proofs.YtkpibmnlmmddjaaDoor
open Go.RowKit

/-- The names of the codes, as the table holds them. -/
def nameAt (i : Nat) : ByteArray :=
  match i with
  | 1 => ⟨#[115, 104, 111, 114, 116]⟩
  | 2 => ⟨#[111, 118, 101, 114, 115, 105, 122, 101]⟩
  | 3 => ⟨#[97, 117, 116, 104]⟩
  | 4 => ⟨#[107, 101, 121]⟩
  | 5 => ⟨#[110, 111, 110, 99, 101]⟩
  | 6 => ⟨#[101, 120, 104, 97, 117, 115, 116, 101, 100]⟩
  | 7 => ⟨#[99, 108, 111, 115, 101, 100]⟩
  | 8 => ⟨#[100, 105, 114, 101, 99, 116, 105, 111, 110]⟩
  | 9 => ⟨#[114, 101, 112, 108, 97, 121]⟩
  | 10 => ⟨#[114, 97, 110, 103, 101]⟩
  | 11 => ⟨#[115, 121, 110, 116, 97, 120]⟩
  | 12 => ⟨#[101, 109, 112, 116, 121]⟩
  | _ => ⟨#[]⟩

/-- What the variables hold that the fault laws read. -/
structure Env (w : World) : Prop where
  err : ErrType w
  pow : Lib.TabIs Tryd.prog w "internal/strconv.uint64pow10" .u64 Lib.pow10Tab
  names : ∀ i, i < 13 → w.cell? ⟨1, i, none⟩ = some (.string (nameAt i))

theorem Env.later {w w' : World} (h : Env w) (hb : Below w.heap.size w w') : Env w' :=
  ⟨h.err.later hb, var?_below hb (by kernel_rfl) (by have := cell_lt (h.names 0 (by omega)); have h2 := cell_lt (h.pow.cell (g := 3) (by kernel_rfl) 0 (by decide)); exact h2) h.pow, fun i hi => cell_later hb (h.names i hi)⟩

def itoaB (n : Int) : ByteArray := ⟨(Lib.itoa n).toArray⟩
theorem itoaB_size (n : Int) (hn : -9223372036854775808 ≤ n ∧ n ≤ 9223372036854775807) : (itoaB n).size ≤ 21 := by
  have := Lib.itoa_length_le n hn.1 hn.2
  simpa [itoaB, ByteArray.size] using this

theorem itoa_any (n : Int) (w : World) (hn : -9223372036854775808 ≤ n ∧ n ≤ 9223372036854775807) (he : Env w) :
    Calls Tryd.prog 40 #[.int .i64 n] w fun e w' => e = .returned (.string (itoaB n)) ∧ Below w.heap.size w w' :=
  (Tryd.strconv_Itoa n hn.1 hn.2 w he.pow).mono fun _ _ ⟨h, k, os, hw⟩ => ⟨h, hw ▸ Lib.below_grow _ w (Nat.le_refl _) k os⟩

/-- The text of an error. -/
def errText (ps : List ByteArray) (c : Int) : ByteArray :=
  match ps with
  | [] => ⟨#[101, 114, 114, 111, 114, 32]⟩ ++ itoaB c
  | p :: r => (p ++ ⟨#[58, 32]⟩) ++ errText r c

theorem codeError (c : Int) (w : World) (hc : -9223372036854775808 ≤ c ∧ c ≤ 9223372036854775807) (he : Env w) :
    Calls Tryd.prog 79 #[.int .i64 c] w fun e w' => e = .returned (.string (errText [] c)) ∧ Below w.heap.size w w' := by
  have hz := itoaB_size c hc
  have hi := itoa_any c w hc he
  unfold errText
  go_enter Tryd.func79, Tryd.ntmps79
  go_wp2_with fail
  refine hi.mono ?_
  rintro e w1 ⟨rfl, hB⟩
  clear hi
  go_wp2
  go_ret
  exact ⟨rfl, hB⟩

theorem faultError (c a : Int) (w : World) (hc : -9223372036854775808 ≤ c ∧ c ≤ 9223372036854775807) (he : Env w) :
    Calls Tryd.prog 80 #[.agg #[.int .i64 c, .int .i64 a]] w fun e w' => e = .returned (.string (errText [] c)) ∧ Below w.heap.size w w' := by
  have h1 := codeError c (w.alloc (.cells #[.int .i64 c, .int .i64 a] 72)) hc (he.later ((Below.refl _ _).alloc (Nat.le_refl _) _))
  have H1 := Lib.hid h1
  clear h1
  go_enter Tryd.func80, Tryd.ntmps80
  go_wp2_with fail
  refine H1.out.mono ?_
  rintro e w1 ⟨rfl, hB⟩
  go_wp2
  go_ret
  exact ⟨rfl, below_then ((Below.refl _ _).alloc (Nat.le_refl _) _) hB (by simp)⟩

theorem mErrorI (p : ByteArray) (v : Value) (w : World) : (Go.method 257 81 (.agg #[.string p, v]) "Error").run Tryd.prog w = .ok (83, .agg #[.string p, v]) w := by kernel_rfl
theorem mErrorF (c a : Int) (w : World) : (Go.method 257 72 (.agg #[.int .i64 c, .int .i64 a]) "Error").run Tryd.prog w = .ok (80, .agg #[.int .i64 c, .int .i64 a]) w := by kernel_rfl
theorem mErrorC (c : Int) (w : World) : (Go.method 257 45 (.int .i64 c) "Error").run Tryd.prog w = .ok (79, .int .i64 c) w := by kernel_rfl

/-- The method of an error of this make. -/
def ErrorOf (ps : List ByteArray) (fault : Bool) (c a : Int) : Prop :=
  ∃ (T : TypeId) (v : Value) (f : FuncId), errVal ps fault c a = .iface T v ∧ (∀ w : World, (Go.method 257 T v "Error").run Tryd.prog w = .ok (f, v) w) ∧ (∀ args w, (callFunc f args).run Tryd.prog w = .ok (.enter f args) w) ∧
    ∀ w : World, Env w → Calls Tryd.prog f #[v] w fun e w' => e = .returned (.string (errText ps c)) ∧ Below w.heap.size w w'

set_option maxHeartbeats 400000 in
theorem innerError (p : ByteArray) (ps : List ByteArray) (fault : Bool) (c a : Int) (w : World) (he : Env w) (h : ErrorOf ps fault c a) (hz : p.size + (errText ps c).size ≤ 1000000) :
    Calls Tryd.prog 83 #[.agg #[.string p, errVal ps fault c a]] w fun e w' => e = .returned (.string (errText (p :: ps) c)) ∧ Below w.heap.size w w' := by
  obtain ⟨T, v, f, hv, hm, hen, hcall⟩ := h
  have hw : Below w.heap.size w (w.alloc (.cells #[.string p, .iface T v] 81)) := (Below.refl _ _).alloc (Nat.le_refl _) _
  have he2 := he.later hw
  have c0 : ∀ d os, (Go.Sort.grow (redrawn (w.alloc (.cells #[.string p, .iface T v] 81)) d) os).cell? ⟨w.heap.size, 0, none⟩ = some (.string p) := cell_regrown (by simp)
  have c1 : ∀ d os, (Go.Sort.grow (redrawn (w.alloc (.cells #[.string p, .iface T v] 81)) d) os).cell? ⟨w.heap.size, 1, none⟩ = some (.iface T v) := cell_regrown (by simp)
  have hE : ∀ d os, Calls Tryd.prog f #[v] (Go.Sort.grow (redrawn (w.alloc (.cells #[.string p, .iface T v] 81)) d) os) fun e w'' => e = .returned (.string (errText ps c)) ∧ ∃ q : Regrown, w'' = Go.Sort.grow (redrawn (w.alloc (.cells #[.string p, .iface T v] 81)) q.d) q.os :=
    fun d os => Calls.regrown_of (hcall _ (he2.later (below_regrown _ d os)))
  have hT : errText (p :: ps) c = (p ++ (⟨#[58, 32]⟩ : ByteArray)) ++ errText ps c := rfl
  rw [hv, hT]
  generalize errText ps c = t at *
  have z1 : ¬ 9223372036854775807 < p.size + 2 := by omega
  have z2 : ¬ 9223372036854775807 < p.size + 2 + t.size := by omega
  clear hv hcall he he2 hT
  generalize hW : w.alloc (.cells #[.string p, .iface T v] 81) = W at *
  have HW := Lib.hid hW
  go_enter Tryd.func83, Tryd.ntmps83
  go_wp2
  refine wp_region_quiet_below (by kernel_rfl) (by kernel_rfl) ?_
  repeat (quiet_step (exact hE _ _))
  refine wpQuiet_nil ?_
  intro _ hw'
  obtain ⟨⟨dq, osq⟩, hw''⟩ := hw'
  subst hw''
  go_wp2
  go_ret
  exact ⟨rfl, below_then hw (below_regrown W dq osq) (by rw [← HW.out]; simp)⟩

theorem errText_le (p : ByteArray) (ps : List ByteArray) (c : Int) : (errText (p :: ps) c).size = p.size + 2 + (errText ps c).size := by
  show ((p ++ (⟨#[58, 32]⟩ : ByteArray)) ++ errText ps c).size = _
  rw [ByteArray.size_append, ByteArray.size_append]
  rfl

theorem errorOf (fault : Bool) (c a : Int) (hc : -9223372036854775808 ≤ c ∧ c ≤ 9223372036854775807) : ∀ ps : List ByteArray, (errText ps c).size ≤ 1000000 → ErrorOf ps fault c a
  | [], _ => by
    cases fault
    · exact ⟨_, _, _, rfl, mErrorC c, enters_of Tryd.func79 (by kernel_rfl) rfl, fun w he => codeError c w hc he⟩
    · exact ⟨_, _, _, rfl, mErrorF c a, enters_of Tryd.func80 (by kernel_rfl) rfl, fun w he => faultError c a w hc he⟩
  | p :: ps, hz => by
    rw [errText_le] at hz
    exact ⟨_, _, _, rfl, mErrorI p _, enters_of Tryd.func83 (by kernel_rfl) rfl, fun w he => innerError p ps fault c a w he (errorOf fault c a hc ps (by omega)) (by omega)⟩
end Go.Proofs.YtkpibmnlmmddjaaDoor
