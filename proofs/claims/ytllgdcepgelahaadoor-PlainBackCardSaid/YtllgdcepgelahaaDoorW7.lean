/- Counts of bits ahead, and places of bits (no program). -/
import Derived.Test.YtllgdcepgelahaaDoorW5
namespace Go.Ev
open Go

/-- how many of the first i bits are so -/
def cntOf (l : List Bool) (bit : Bool) : Nat → Nat
  | 0 => 0
  | i + 1 => cntOf l bit i + (l.getD i false == bit).toNat
theorem cntOf_true (l : List Bool) : ∀ i, cntOf l true i = pcb (wds l) i
  | 0 => rfl
  | i + 1 => by
    simp only [cntOf, pcb, cntOf_true l i, bitAt_wds]
    cases l.getD i false <;> rfl
theorem cntOf_add (l : List Bool) : ∀ i, cntOf l true i + cntOf l false i = i
  | 0 => rfl
  | i + 1 => by
    have := cntOf_add l i
    simp only [cntOf]
    cases l.getD i false <;> simp <;> omega
theorem cntOf_false (l : List Bool) (i : Nat) : cntOf l false i = i - pcb (wds l) i := by
  have h1 := cntOf_add l i
  have h2 := cntOf_true l i
  omega
theorem cntOf_le (l : List Bool) (bit : Bool) (i : Nat) : cntOf l bit i ≤ i := by
  have h1 := cntOf_add l i
  cases bit <;> omega
theorem cntOf_mono (l : List Bool) (bit : Bool) {i j : Nat} (h : i ≤ j) : cntOf l bit i ≤ cntOf l bit j := by
  induction j with
  | zero => have : i = 0 := by omega
            subst this; exact Nat.le_refl _
  | succ j ih =>
    by_cases e : i = j + 1
    · subst e; exact Nat.le_refl _
    · have := ih (by omega)
      simp only [cntOf]; omega
theorem cntOf_lt (l : List Bool) (bit : Bool) {i j : Nat} (h : i < j) (hb : l.getD i false = bit) : cntOf l bit i < cntOf l bit j := by
  have h1 := cntOf_mono l bit (show i + 1 ≤ j by omega)
  simp only [cntOf, hb] at h1
  simp at h1; omega
/-- the place of a bit -/
structure IsAt (l : List Bool) (bit : Bool) (k i : Nat) : Prop where
  lt : i < l.length
  is : l.getD i false = bit
  cnt : cntOf l bit i = k
theorem IsAt.uniq {l : List Bool} {bit : Bool} {k i j : Nat} (h1 : IsAt l bit k i) (h2 : IsAt l bit k j) : i = j := by
  rcases Nat.lt_trichotomy i j with h | h | h
  · have := cntOf_lt l bit h h1.is; have := h1.cnt; have := h2.cnt; omega
  · exact h
  · have := cntOf_lt l bit h h2.is; have := h1.cnt; have := h2.cnt; omega
theorem IsAt.below {l : List Bool} {bit : Bool} {k i : Nat} (h : IsAt l bit k i) : k < cntOf l bit l.length := by
  have := cntOf_lt l bit h.lt h.is
  have := h.cnt
  omega
theorem isAt_ex (l : List Bool) (bit : Bool) (k : Nat) : ∀ n, n ≤ l.length → k < cntOf l bit n → ∃ i, IsAt l bit k i ∧ i < n
  | 0, _, h => by simp [cntOf] at h
  | n + 1, hn, h => by
    by_cases h1 : k < cntOf l bit n
    · obtain ⟨i, h2, h3⟩ := isAt_ex l bit k n (by omega) h1
      exact ⟨i, h2, by omega⟩
    · simp only [cntOf] at h
      have hb : l.getD n false = bit := by
        cases hx : (l.getD n false == bit) with
        | true => exact eq_of_beq hx
        | false => rw [hx] at h; simp at h; omega
      rw [hb] at h
      simp at h
      exact ⟨n, ⟨by omega, hb, by omega⟩, by omega⟩
/-- the place, sought from the first one on -/
def seekB (l : List Bool) (bit : Bool) (k : Nat) : Nat → Nat → Option Nat
  | _, 0 => none
  | i, f + 1 => if l.getD i false = bit ∧ cntOf l bit i = k then some i else seekB l bit k (i + 1) f
def placeB (l : List Bool) (bit : Bool) (k : Nat) : Option Nat := seekB l bit k 0 l.length
theorem seekB_some {l : List Bool} {bit : Bool} {k q : Nat} (h : IsAt l bit k q) : ∀ f i, i + f = l.length → i ≤ q → seekB l bit k i f = some q
  | 0, i, h1, h2 => by have := h.lt; omega
  | f + 1, i, h1, h2 => by
    unfold seekB
    split
    · rename_i h3
      have : IsAt l bit k i := ⟨by omega, h3.1, h3.2⟩
      rw [this.uniq h]
    · rename_i h3
      refine seekB_some h f (i + 1) (by omega) ?_
      by_cases e : i = q
      · subst e; exact absurd ⟨h.is, h.cnt⟩ h3
      · omega
theorem seekB_none {l : List Bool} {bit : Bool} {k : Nat} (h : ∀ q, ¬ IsAt l bit k q) : ∀ f i, i + f = l.length → seekB l bit k i f = none
  | 0, _, _ => rfl
  | f + 1, i, h1 => by
    unfold seekB
    rw [if_neg (fun h3 => h i ⟨by omega, h3.1, h3.2⟩)]
    exact seekB_none h f (i + 1) (by omega)
theorem placeB_some {l : List Bool} {bit : Bool} {k q : Nat} (h : IsAt l bit k q) : placeB l bit k = some q := seekB_some h _ 0 (by omega) (Nat.zero_le _)
theorem placeB_none {l : List Bool} {bit : Bool} {k : Nat} (h : cntOf l bit l.length ≤ k) : placeB l bit k = none :=
  seekB_none (fun q hq => by have := hq.below; omega) _ 0 (by omega)
theorem placeB_ex {l : List Bool} {bit : Bool} {k : Nat} (h : k < cntOf l bit l.length) : ∃ q, placeB l bit k = some q ∧ IsAt l bit k q := by
  obtain ⟨q, h1, _⟩ := isAt_ex l bit k l.length (Nat.le_refl _) h
  exact ⟨q, placeB_some h1, h1⟩
/-- bits of a word, as it is or turned -/
def wordB (w : Nat) (bit : Bool) : Nat := if bit = true then w else 2 ^ 64 - 1 - w
theorem wordB_lt {w : Nat} (h : w < 2 ^ 64) (bit : Bool) : wordB w bit < 2 ^ 64 := by unfold wordB; split <;> omega
theorem wordB_bit {w : Nat} (h : w < 2 ^ 64) (bit : Bool) (i : Nat) (hi : i < 64) : (wordB w bit).testBit i = (w.testBit i == bit) := by
  unfold wordB
  cases bit with
  | true => simp
  | false =>
    rw [if_neg (by decide), show 2 ^ 64 - 1 - w = 2 ^ 64 - (w + 1) by omega, Nat.testBit_two_pow_sub_succ h]
    simp [hi]
theorem wordB_cnt {l : List Bool} (bit : Bool) (q : Nat) : ∀ r, r ≤ 64 → cntOf l bit (64 * q + r) = cntOf l bit (64 * q) + pc (wordB ((wds l).getD q 0) bit) r
  | 0, _ => rfl
  | r + 1, h => by
    have hw : (wds l).getD q 0 < 2 ^ 64 := getD_lt (fun w hw => wds_lt hw) q
    rw [← Nat.add_assoc]
    simp only [cntOf, pc, wordB_cnt bit q r (by omega), wordB_bit hw bit r (by omega)]
    have : l.getD (64 * q + r) false = ((wds l).getD q 0).testBit r := by
      rw [← bitAt_wds]; unfold bitAt
      rw [show (64 * q + r) / 64 = q by omega, show (64 * q + r) % 64 = r by omega]
    rw [this]; omega
end Go.Ev
