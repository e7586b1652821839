/- Plain facts about addresses: which bytes may be in an address, which strings are right addresses, and how the library's search for a wrong rune answers; and the order of strings byte by byte. -/
import Derived.Shelf.GgClosure.StringsIndexFunc
import Derived.Laws.RangeAny
namespace Go.Proofs.Ytkpibmnlmmddjaa
open Go

/-- The bytes (as runes) that may be in an address. -/
def addrR (b : Nat) : Bool := decide (97 ≤ b ∧ b ≤ 122) || decide (65 ≤ b ∧ b ≤ 90) || decide (48 ≤ b ∧ b ≤ 57) || decide (b = 46) || decide (b = 58) || decide (b = 45)

theorem addrR_high {b : Nat} (h : 128 ≤ b) : addrR b = false := by
  unfold addrR
  simp
  omega

/-- Whether all bytes from place i on may be in an address. -/
def allAddr (s : ByteArray) : Bool := s.data.toList.all fun b => addrR b.toNat

/-- A right address. -/
def rightS (s : ByteArray) : Bool := decide (1 ≤ s.size) && decide (s.size ≤ 100) && allAddr s

theorem allAddr_iff (s : ByteArray) : allAddr s = true ↔ ∀ (i : Nat) (h : i < s.size), addrR (s[i]).toNat = true := by
  unfold allAddr
  rw [List.all_eq_true]
  constructor
  · intro h i hi
    exact h s[i] (by show s.data[i] ∈ _; simp)
  · intro h b hb
    obtain ⟨i, hi, rfl⟩ := List.getElem_of_mem hb
    exact h i (by simpa using hi)

theorem idx_none (p : Nat → Bool) (hp : ∀ r, 128 ≤ r → p r = true) (s : ByteArray) : ∀ (f pos : Nat), s.size ≤ pos + f →
    (Lib.idxFuncFrom p true s f pos < 0 ↔ ∀ (i : Nat) (h : i < s.size), pos ≤ i → p (s[i]).toNat = false)
  | 0, pos, hf => by
    simp only [Lib.idxFuncFrom]
    constructor
    · intro _ i h hi
      omega
    · intro _
      omega
  | f + 1, pos, hf => by
    unfold Lib.idxFuncFrom
    by_cases hlt : pos < s.size
    · rw [if_pos hlt]
      by_cases ha : (s[pos]).toNat < 128
      · rw [decode_ascii s pos hlt ha]
        cases hb : p (s[pos]).toNat
        · rw [if_neg (by simp), idx_none p hp s f (pos + 1) (by omega)]
          constructor
          · intro h i hi hle
            rcases Nat.lt_or_ge pos i with h' | h'
            · exact h i hi h'
            · obtain rfl : i = pos := by omega
              exact hb
          · intro h i hi hle
            exact h i hi (by omega)
        · rw [if_pos rfl]
          constructor
          · intro h
            omega
          · intro h
            have := h pos hlt (Nat.le_refl _)
            rw [hb] at this
            cases this
      · have hd := decode_high s pos hlt (by omega)
        rw [if_pos (hp _ hd.1)]
        constructor
        · intro h
          omega
        · intro h
          have := h pos hlt (Nat.le_refl _)
          rw [hp _ (by omega)] at this
          cases this
    · rw [if_neg hlt]
      constructor
      · intro _ i h hi
        omega
      · intro _
        omega

theorem idx_addr (s : ByteArray) : decide (0 ≤ Lib.idxFunc (fun r => !addrR r) true s) = !allAddr s := by
  have h := idx_none (fun r => !addrR r) (fun r hr => by simp [addrR_high hr]) s s.size 0 (by omega)
  have h2 := allAddr_iff s
  cases ha : allAddr s
  · have : ¬ Lib.idxFunc (fun r => !addrR r) true s < 0 := by
      intro hn
      have h3 := h.1 hn
      have : allAddr s = true := h2.2 fun i hi => by simpa using h3 i hi (Nat.zero_le _)
      rw [ha] at this
      cases this
    simp
    omega
  · have : Lib.idxFunc (fun r => !addrR r) true s < 0 := h.2 fun i hi _ => by simpa using h2.1 ha i hi
    simp
    omega

/-! ### the order of strings -/

theorem less_irrefl : ∀ (l : List UInt8), Op.bytesLess l l = false
  | [] => rfl
  | a :: l => by simp [Op.bytesLess, less_irrefl l]
end Go.Proofs.Ytkpibmnlmmddjaa
