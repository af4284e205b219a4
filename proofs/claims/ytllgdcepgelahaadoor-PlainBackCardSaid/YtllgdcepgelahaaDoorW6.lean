/- Codes of numbers in rows of bits: gamma and delta, put and read (no program). -/
import Derived.Test.YtllgdcepgelahaaDoorW5
namespace Go.Ev
open Go

theorem sel_npos {α : Type} {p : Prop} [Decidable p] {x y : Option α} (h : p) : sel (!decide p) x y = y := by rw [decide_eq_true h]; rfl
theorem sel_nneg {α : Type} {p : Prop} [Decidable p] {x y : Option α} (h : ¬ p) : sel (!decide p) x y = x := by rw [decide_eq_false h]; rfl
theorem bitLen_pos {x : Nat} (h : x ≠ 0) : 0 < bitLen x := by
  obtain ⟨h1, _⟩ := bitLen_spec x
  apply Nat.pos_of_ne_zero
  intro h0
  rw [h0] at h1
  omega
theorem bitLen_top {x : Nat} (h : x ≠ 0) : x.testBit (bitLen x - 1) = true := by
  obtain ⟨h1, h2⟩ := bitLen_spec x
  have h2 := h2 h
  have hp := bitLen_pos h
  obtain ⟨i, hi, hb⟩ := Nat.exists_ge_and_testBit_of_ge_two_pow h2
  by_cases e : i = bitLen x - 1
  · rw [← e]; exact hb
  · rw [testBit_ge h1 (by omega)] at hb; cases hb
theorem bitLen_mono {x y : Nat} (h : x ≤ y) : bitLen x ≤ bitLen y := bitLen_le (Nat.lt_of_le_of_lt h (bitLen_spec y).1)
theorem bitLen_zero : bitLen 0 = 0 := by simp [bitLen]

/-- a gamma code -/
def gammaB (x : Nat) : List Bool := List.replicate (bitLen x - 1) false ++ (true :: lowB x (bitLen x - 1))
/-- a delta code -/
def deltaB (x : Nat) : List Bool := gammaB (bitLen x) ++ lowB x (bitLen x - 1)
theorem gammaB_length (x : Nat) : (gammaB x).length = 2 * (bitLen x - 1) + 1 := by simp [gammaB, lowB_length]; omega
theorem deltaB_length (x : Nat) : (deltaB x).length = 2 * (bitLen (bitLen x) - 1) + 1 + (bitLen x - 1) := by simp [deltaB, lowB_length, gammaB_length]
theorem gammaB_getD (x i : Nat) : (gammaB x).getD i false = if i < bitLen x - 1 then false else if i = bitLen x - 1 then true else (lowB x (bitLen x - 1)).getD (i - bitLen x) false := by
  unfold gammaB
  rw [getD_append, List.length_replicate]
  by_cases h : i < bitLen x - 1
  · rw [if_pos h, if_pos h, List.getD_eq_getElem?_getD, List.getElem?_replicate, if_pos h]; rfl
  · rw [if_neg h, if_neg h]
    by_cases h2 : i = bitLen x - 1
    · rw [if_pos h2, h2, Nat.sub_self]; rfl
    · rw [if_neg h2]
      obtain ⟨k, hk⟩ : ∃ k, i - (bitLen x - 1) = k + 1 := ⟨i - (bitLen x - 1) - 1, by omega⟩
      rw [hk]
      show (lowB x (bitLen x - 1)).getD k false = _
      rw [lowB_getD, lowB_getD]
      by_cases hx : bitLen x = 0
      · simp [hx]
      · rw [show i - bitLen x = k by omega]

/-! ### reading -/
/-- how many noughts there are from a place on, at most so many more -/
def leadG (l : List Bool) (a : Nat) : Nat → Nat → Nat
  | 0, k => k
  | f + 1, k => if a + k < l.length ∧ l.getD (a + k) false = false then leadG l a f (k + 1) else k
def lead (l : List Bool) (a : Nat) : Nat := leadG l a 64 0
theorem leadG_spec (l : List Bool) (a : Nat) : ∀ f k, k ≤ leadG l a f k ∧ leadG l a f k ≤ k + f ∧ (∀ j, k ≤ j → j < leadG l a f k → a + j < l.length ∧ l.getD (a + j) false = false) ∧ (leadG l a f k < k + f → l.length ≤ a + leadG l a f k ∨ l.getD (a + leadG l a f k) false = true)
  | 0, k => ⟨Nat.le_refl _, Nat.le_refl _, fun j h1 h2 => by simp only [leadG] at h2; omega, fun h => by simp only [leadG] at h; omega⟩
  | f + 1, k => by
    obtain ⟨h1, h2, h3, h4⟩ := leadG_spec l a f (k + 1)
    unfold leadG
    split
    · rename_i h
      refine ⟨by omega, by omega, fun j h5 h6 => ?_, fun h5 => h4 (by omega)⟩
      by_cases hj : j = k
      · subst hj; exact h
      · exact h3 j (by omega) h6
    · rename_i h
      refine ⟨Nat.le_refl _, by omega, fun j h5 h6 => by omega, fun _ => ?_⟩
      by_cases hl : a + k < l.length
      · right
        cases hb : l.getD (a + k) false with
        | true => rfl
        | false => exact absurd ⟨hl, hb⟩ h
      · left; omega
theorem lead_le (l : List Bool) (a : Nat) : lead l a ≤ 64 := by have := (leadG_spec l a 64 0).2.1; unfold lead; omega
theorem lead_low {l : List Bool} {a j : Nat} (h : j < lead l a) : a + j < l.length ∧ l.getD (a + j) false = false := (leadG_spec l a 64 0).2.2.1 j (Nat.zero_le _) h
theorem lead_end {l : List Bool} {a : Nat} (h : lead l a < 64) : l.length ≤ a + lead l a ∨ l.getD (a + lead l a) false = true := (leadG_spec l a 64 0).2.2.2 (by unfold lead at h; omega)
theorem lead_eq {l : List Bool} {a k : Nat} (hk : k < 64) (h1 : ∀ j, j < k → a + j < l.length ∧ l.getD (a + j) false = false) (h2 : l.length ≤ a + k ∨ l.getD (a + k) false = true) : lead l a = k := by
  apply Nat.le_antisymm <;> apply Nat.le_of_not_lt <;> intro h
  · have := lead_low h
    rcases h2 with h2 | h2
    · omega
    · rw [this.2] at h2; cases h2
  · have h3 := h1 _ h
    rcases lead_end (l := l) (a := a) (by omega) with h4 | h4
    · omega
    · rw [h3.2] at h4; cases h4
/-- the bits below a number's highest one -/
def tailS (l : List Bool) (a k : Nat) : Int × Int × Int := if l.length < a + k then (0, 0, 160) else (((sliceN (wds l) a k + 2 ^ k : Nat) : Int), ((a + k : Nat) : Int), 0)
def gammaS (l : List Bool) (a : Nat) : Int × Int × Int :=
  if lead l a = 64 then (0, 0, 161) else if l.length ≤ a + lead l a then (0, 0, 160) else tailS l (a + lead l a + 1) (lead l a)
def deltaS (l : List Bool) (a : Nat) : Int × Int × Int :=
  if (gammaS l a).2.2 ≠ 0 then (0, 0, (gammaS l a).2.2) else if 64 < (gammaS l a).1 then (0, 0, 161) else tailS l (gammaS l a).2.1.toNat ((gammaS l a).1.toNat - 1)
theorem sliceN_wds (l : List Bool) (a k : Nat) : sliceN (wds l) a k = num ((List.range k).map fun j => l.getD (a + j) false) := by
  unfold sliceN
  congr 1
  apply List.map_congr_left
  intro j _
  exact bitAt_wds l _
theorem sliceN_low {l : List Bool} {a k x : Nat} (h : ∀ j, j < k → l.getD (a + j) false = x.testBit j) : sliceN (wds l) a k = x % 2 ^ k := by
  apply Nat.eq_of_testBit_eq
  intro i
  rw [sliceN_bit, Nat.testBit_mod_two_pow, bitAt_wds]
  by_cases hi : i < k
  · rw [h i hi]
  · simp [hi]
theorem top_add {x : Nat} (h : x ≠ 0) : x % 2 ^ (bitLen x - 1) + 2 ^ (bitLen x - 1) = x := by
  obtain ⟨h1, h2⟩ := bitLen_spec x
  have h2 := h2 h
  have hp := bitLen_pos h
  have e : 2 ^ bitLen x = 2 ^ (bitLen x - 1) + 2 ^ (bitLen x - 1) := by
    rw [show bitLen x = (bitLen x - 1) + 1 by omega, Nat.pow_succ]
    simp only [Nat.add_sub_cancel]; omega
  rw [Nat.mod_eq_sub_mod h2, Nat.mod_eq_of_lt (by omega)]
  omega
/-- a row with a code at a place -/
def At (l : List Bool) (a : Nat) (c : List Bool) : Prop := a + c.length ≤ l.length ∧ ∀ i, i < c.length → l.getD (a + i) false = c.getD i false
theorem At.mid (u c v : List Bool) : At (u ++ c ++ v) u.length c := by
  refine ⟨by simp, fun i hi => ?_⟩
  rw [List.append_assoc, getD_append, if_neg (by omega), getD_append, Nat.add_sub_cancel_left, if_pos hi]
theorem At.left {l : List Bool} {a : Nat} {c d : List Bool} (h : At l a (c ++ d)) : At l a c := by
  refine ⟨by have := h.1; simp at this; omega, fun i hi => ?_⟩
  rw [h.2 i (by simp; omega), getD_append, if_pos hi]
theorem At.right {l : List Bool} {a : Nat} {c d : List Bool} (h : At l a (c ++ d)) : At l (a + c.length) d := by
  refine ⟨by have := h.1; simp at this; omega, fun i hi => ?_⟩
  have := h.2 (c.length + i) (by simp; omega)
  rw [← Nat.add_assoc] at this
  rw [this, getD_append, if_neg (by omega), Nat.add_sub_cancel_left]
theorem At.append {l : List Bool} {a : Nat} {c d : List Bool} (h1 : At l a c) (h2 : At l (a + c.length) d) : At l a (c ++ d) := by
  refine ⟨by have := h2.1; simp; omega, fun i hi => ?_⟩
  rw [getD_append]
  split
  · rename_i h; exact h1.2 i h
  · rename_i h
    have := h2.2 (i - c.length) (by simp at hi; omega)
    rw [← this]; congr 1; omega
theorem At.low {l : List Bool} {a x k : Nat} (h : At l a (lowB x k)) : tailS l a k = (((x % 2 ^ k + 2 ^ k : Nat) : Int), ((a + k : Nat) : Int), 0) := by
  have h1 := h.1
  rw [lowB_length] at h1
  unfold tailS
  rw [if_neg (by omega), sliceN_low (x := x) fun j hj => ?_]
  rw [h.2 j (by rw [lowB_length]; exact hj), lowB_getD]
  simp [hj]
theorem gamma_read {l : List Bool} {a x : Nat} (hx : x ≠ 0) (hx2 : x < 2 ^ 64) (h : At l a (gammaB x)) : gammaS l a = ((x : Int), ((a + (gammaB x).length : Nat) : Int), 0) := by
  have hp := bitLen_pos hx
  have h64 := bitLen_le hx2
  have hl := h.1
  rw [gammaB_length] at hl
  have e : lead l a = bitLen x - 1 := by
    refine lead_eq (by omega) (fun j hj => ⟨by omega, ?_⟩) (.inr ?_)
    · rw [h.2 j (by rw [gammaB_length]; omega), gammaB_getD, if_pos hj]
    · rw [h.2 _ (by rw [gammaB_length]; omega), gammaB_getD, if_neg (by omega), if_pos rfl]
  unfold gammaS
  rw [e, if_neg (by omega), if_neg (by omega)]
  have hlow : At l (a + (bitLen x - 1) + 1) (lowB x (bitLen x - 1)) := by
    have e2 : gammaB x = (List.replicate (bitLen x - 1) false ++ [true]) ++ lowB x (bitLen x - 1) := by simp [gammaB]
    rw [e2] at h
    have := h.right
    simpa [Nat.add_assoc] using this
  rw [hlow.low, top_add hx, gammaB_length]
  congr 2
  omega
theorem delta_read {l : List Bool} {a x : Nat} (hx : x ≠ 0) (hx2 : x < 2 ^ 64) (h : At l a (deltaB x)) : deltaS l a = ((x : Int), ((a + (deltaB x).length : Nat) : Int), 0) := by
  have hp := bitLen_pos hx
  have h64 := bitLen_le hx2
  have h1 := gamma_read (x := bitLen x) (by omega) (Nat.lt_of_le_of_lt h64 (by decide)) h.left
  unfold deltaS
  rw [h1]
  simp only [ne_eq, not_true_eq_false, if_false, Int.toNat_natCast]
  rw [if_neg (by omega), h.right.low, top_add hx]
  congr 2
  simp only [deltaB, List.length_append, lowB_length]
  omega

theorem At.take {l : List Bool} {a k : Nat} (h : a + k ≤ l.length) : At l a ((l.drop a).take k) := by
  refine ⟨by simp; omega, fun i hi => ?_⟩
  simp at hi
  rw [getD_take_drop _ _ _ _ (by omega)]
theorem tail_once {l : List Bool} {a k x nx : Nat} (h : tailS l a k = ((x : Int), (nx : Int), 0)) : nx = a + k ∧ At l a (lowB x k) ∧ 2 ^ k ≤ x ∧ x < 2 ^ (k + 1) := by
  unfold tailS at h
  split at h
  · simp at h
  · rename_i hl
    simp only [Prod.mk.injEq, and_true] at h
    have hx : x = sliceN (wds l) a k + 2 ^ k := by omega
    have hlt := sliceN_lt (wds l) a k
    refine ⟨by omega, ⟨by rw [lowB_length]; omega, fun i hi => ?_⟩, by omega, by rw [Nat.pow_succ]; omega⟩
    rw [lowB_length] at hi
    rw [lowB_getD, hx]
    have e : (sliceN (wds l) a k + 2 ^ k).testBit i = (sliceN (wds l) a k).testBit i := by
      rw [Nat.add_comm, Nat.testBit_two_pow_add_gt hi]
    rw [e, sliceN_bit, bitAt_wds]
    simp [hi]
theorem len_of {x k : Nat} (h1 : 2 ^ k ≤ x) (h2 : x < 2 ^ (k + 1)) : bitLen x = k + 1 := by
  refine bitLen_eq h2 fun _ => ?_
  obtain ⟨i, hi, hb⟩ := Nat.exists_ge_and_testBit_of_ge_two_pow h1
  by_cases e : i = k
  · rw [Nat.add_sub_cancel, ← e]; exact hb
  · rw [testBit_ge h2 (by omega)] at hb; cases hb
theorem gamma_once {l : List Bool} {a x nx : Nat} (h : gammaS l a = ((x : Int), (nx : Int), 0)) : x ≠ 0 ∧ x < 2 ^ 64 ∧ nx = a + (gammaB x).length ∧ At l a (gammaB x) := by
  unfold gammaS at h
  split at h
  · simp at h
  rename_i h64
  have h64' : lead l a < 64 := by have := lead_le l a; omega
  split at h
  · simp at h
  rename_i hl
  obtain ⟨h1, h2, h3, h4⟩ := tail_once h
  have hb := len_of h3 h4
  have hp : 0 < 2 ^ lead l a := Nat.two_pow_pos _
  have he := lead_end h64'
  refine ⟨by omega, Nat.lt_of_lt_of_le h4 (Nat.pow_le_pow_right (by decide) (by omega)), by rw [gammaB_length, hb]; omega, ?_⟩
  have e2 : gammaB x = (List.replicate (bitLen x - 1) false ++ [true]) ++ lowB x (bitLen x - 1) := by simp [gammaB]
  rw [e2, hb, Nat.add_sub_cancel]
  refine At.append ⟨by simp; omega, fun i hi => ?_⟩ (by simpa [Nat.add_assoc] using h2)
  rw [getD_append, List.length_replicate]
  split
  · rename_i hi2
    rw [(lead_low hi2).2, List.getD_eq_getElem?_getD, List.getElem?_replicate, if_pos hi2]; rfl
  · rename_i hi2
    simp at hi
    have : i = lead l a := by omega
    rw [this, Nat.sub_self]
    rcases he with he | he
    · omega
    · rw [he]; rfl
theorem gammaS_ok (l : List Bool) (a : Nat) : gammaS l a = (0, 0, 160) ∨ gammaS l a = (0, 0, 161) ∨ ∃ x nx : Nat, gammaS l a = ((x : Int), (nx : Int), 0) := by
  unfold gammaS
  split
  · exact .inr (.inl rfl)
  · split
    · exact .inl rfl
    · unfold tailS
      split
      · exact .inl rfl
      · exact .inr (.inr ⟨_, _, rfl⟩)
theorem deltaS_ok (l : List Bool) (a : Nat) : deltaS l a = (0, 0, 160) ∨ deltaS l a = (0, 0, 161) ∨ ∃ x nx : Nat, deltaS l a = ((x : Int), (nx : Int), 0) := by
  unfold deltaS
  rcases gammaS_ok l a with h | h | ⟨x, nx, h⟩
  · rw [h]; exact .inl rfl
  · rw [h]; exact .inr (.inl rfl)
  · rw [h]
    simp only [ne_eq, not_true_eq_false, if_false]
    split
    · exact .inr (.inl rfl)
    · unfold tailS
      split
      · exact .inl rfl
      · exact .inr (.inr ⟨_, _, rfl⟩)
theorem delta_once {l : List Bool} {a x nx : Nat} (h : deltaS l a = ((x : Int), (nx : Int), 0)) : x ≠ 0 ∧ x < 2 ^ 64 ∧ nx = a + (deltaB x).length ∧ At l a (deltaB x) := by
  unfold deltaS at h
  rcases gammaS_ok l a with hg | hg | ⟨n, n2, hg⟩
  · rw [hg] at h; simp at h
  · rw [hg] at h; simp at h
  · rw [hg] at h
    simp only [ne_eq, not_true_eq_false, if_false, Int.toNat_natCast] at h
    split at h
    · simp at h
    rename_i hn
    obtain ⟨g1, g2, g3, g4⟩ := gamma_once hg
    obtain ⟨h1, h2, h3, h4⟩ := tail_once h
    have hb := len_of h3 h4
    have hp : 0 < 2 ^ (n - 1) := Nat.two_pow_pos _
    have hn1 : n - 1 + 1 = n := by omega
    rw [hn1] at hb h4
    refine ⟨by omega, Nat.lt_of_lt_of_le h4 (Nat.pow_le_pow_right (by decide) (by omega)), ?_, ?_⟩
    · rw [deltaB_length, hb, h1, g3, gammaB_length]; omega
    · unfold deltaB
      rw [hb]
      exact g4.append (by rw [← g3]; exact h2)
theorem At.le {l : List Bool} {a : Nat} {c : List Bool} (h : At l a c) : a + c.length ≤ l.length := h.1
end Go.Ev
