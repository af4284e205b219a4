/- Layer 2: joined rows, new ones, rows of truths; and what comes at any rate. -/
import Derived.Test.YtdojekdcdoaccaaDoorBitsC
namespace Go.Proofs.YtdojekdcdoaccaaDoor
open Go Go.Ev
section
variable {R : Type}
theorem getD_take (l : List Bool) (n i : Nat) : (l.take n).getD i false = (decide (i < n) && l.getD i false) := by
  simp only [List.getD_eq_getElem?_getD]
  by_cases h : i < n
  · rw [List.getElem?_take_of_lt h]; simp [h]
  · rw [List.getElem?_eq_none (by simp; omega)]; simp [h]

/-- a new row -/
def newS (n : Int) : Int × List Nat × Int := if n < 0 ∨ 1048576 < n then (0, [], 2) else (n, List.replicate ((n.toNat + 63) / 64) 0, 0)
theorem bits_New_j4_spec (n e : Int) (h1 : 0 ≤ n) (h2 : n ≤ 1048576) (K : Int → Int → Nat → List Int → Option R) : bits_New_j4 n e K = K 0 n ((n.toNat + 63) / 64) (ci (List.replicate ((n.toNat + 63) / 64) 0)) := by
  rw [bits_New_j4_unf]; unfold bits_New_j4_B
  rw [bits_words_spec _ (by omega) (by omega), sel_pos (by omega), sel_pos (by omega), sel_pos (by omega), sel_pos (by omega), letV_eq, ci_zeros, show ((n + 63) / 64).toNat = (n.toNat + 63) / 64 by omega]
theorem bits_New_r_spec (n : Int) (K0 : Int → Int → Option R) (K1 : Int → Nat → Int → List Int → Option R) : bits_New_r n K0 K1 = if n < 0 ∨ 1048576 < n then K0 0 2 else K1 n ((n.toNat + 63) / 64) 0 (ci (List.replicate ((n.toNat + 63) / 64) 0)) := by
  have j3 : ∀ (b : Bool) (e : Int) (K0 K1 : Int → Int → Option R), bits_New_j3 n b e K0 K1 = sel b (K0 2 0) (K1 n e) := fun b e K0 K1 => by
    rw [bits_New_j3_unf]; unfold bits_New_j3_B; rfl
  rw [bits_New_r_unf]; unfold bits_New_r_B
  by_cases h1 : n < 0
  · rw [sel_pos h1, j3, Ev.sel_true, if_pos (.inl h1)]
  rw [sel_neg h1, j3]
  by_cases h2 : 1048576 < n
  · rw [sel_pos h2, if_pos (.inr h2)]
  rw [sel_neg h2, bits_New_j4_spec _ _ (by omega) (by omega), if_neg (by omega)]
theorem bits_New_spec (n : Int) (K : Int → List Int → Int → Option R) : bits_New n K = K (newS n).1 (ci (newS n).2.1) (newS n).2.2 := by
  have j3 : ∀ (b : Bool) (e : Int) (K0 K1 : Int → Int → Option R), bits_New_j3 n b e K0 K1 = sel b (K0 2 0) (K1 n e) := fun b e K0 K1 => by
    rw [bits_New_j3_unf]; unfold bits_New_j3_B; rfl
  rw [bits_New_unf]; unfold bits_New_B newS
  by_cases h1 : n < 0
  · rw [sel_pos h1, j3, Ev.sel_true, if_pos (.inl h1)]; rfl
  rw [sel_neg h1, j3]
  by_cases h2 : 1048576 < n
  · rw [sel_pos h2, if_pos (.inr h2)]; rfl
  rw [sel_neg h2, bits_New_j4_spec _ _ (by omega) (by omega), if_neg (by omega)]
  exact live_out (by simp) K

theorem take_set_bit (bs : List Bool) (W : List Nat) (hw : ∀ w ∈ W, w < 2 ^ 64) (j : Nat) (hj : j < bs.length) (hW : j / 64 < W.length) (hb : bs.getD j false = true) (h : ∀ i, bitAt W i = (bs.take j).getD i false) :
    ∀ i, bitAt (W.set (j / 64) (W.getD (j / 64) 0 ||| 2 ^ (j % 64))) i = (bs.take (j + 1)).getD i false := fun i => by
  rw [bitAt_set _ _ hW, getD_take]
  have hi := h i
  rw [getD_take] at hi
  by_cases h1 : i / 64 = j / 64
  · rw [if_pos h1, Nat.testBit_or, Nat.testBit_two_pow]
    have e : (W.getD (j / 64) 0).testBit (i % 64) = bitAt W i := by unfold bitAt; rw [h1]
    rw [e, hi]
    by_cases h2 : i = j
    · subst h2
      have a1 : decide (i < i + 1) = true := by simp
      rw [a1, hb]; simp
    · have a : ¬ j % 64 = i % 64 := by omega
      by_cases h3 : i < j
      · have b : i < j + 1 := by omega
        simp [a, h3, b]
      · have b : ¬ i < j + 1 := by omega
        simp [a, h3, b]
  · rw [if_neg h1, hi]
    by_cases h3 : i < j
    · have b : i < j + 1 := by omega
      simp [h3, b]
    · have b : ¬ i < j + 1 := by omega
      simp [h3, b]
/-! ### the same row? -/
theorem drop_eq_iff (a b : List Int) (h : a.length = b.length) (j : Nat) (hj : j < a.length) : (a.drop j = b.drop j) ↔ (a.getD j 0 = b.getD j 0 ∧ a.drop (j + 1) = b.drop (j + 1)) := by
  rw [List.drop_eq_getElem_cons hj, List.drop_eq_getElem_cons (show j < b.length by omega), List.cons.injEq]
  simp only [List.getD_eq_getElem?_getD, List.getElem?_eq_getElem hj, List.getElem?_eq_getElem (show j < b.length by omega), Option.getD_some]
theorem ref_Same_loop (n m : Int) (a b : List Int) (h : a.length = b.length) (ha : a.length < 4000000000) (K0 : Bool → Option R) (K1 : Unit → Option R) : ∀ (N j : Nat), j ≤ a.length → a.length - j < N →
    haystackref02_Same_l5_L K0 K1 N (j : Int) n a m b = if a.drop j = b.drop j then K1 () else K0 false
  | 0, _, _, h => by omega
  | N + 1, j, hj, hN => by
    simp only [haystackref02_Same_l5_L, haystackref02_Same_l5_T]
    by_cases h1 : j < a.length
    · rw [sel_pos (by omega), sel_pos (by omega), sel_pos (by omega), sel_pos (by omega), sel_pos (by omega), Int.toNat_natCast, addW_i64 (by omega) (by omega), show (j : Int) + 1 = ((j + 1 : Nat) : Int) by omega]
      by_cases h2 : a.getD j 0 = b.getD j 0
      · rw [decide_eq_true h2, Bool.not_true, Ev.sel_false, ref_Same_loop n m a b h ha K0 K1 N (j + 1) (by omega) (by omega)]
        simp only [drop_eq_iff a b h j h1, h2, true_and]
      · rw [decide_eq_false h2, Bool.not_false, Ev.sel_true]
        simp only [drop_eq_iff a b h j h1, h2, false_and, if_false]
    · rw [sel_neg (by omega), List.drop_of_length_le (by omega), List.drop_of_length_le (by omega), if_pos rfl]
theorem haystackref02_Same_spec (n m : Int) (a b : List Int) (ha : a.length < 4000000000) (K : Bool → Option R) : haystackref02_Same n a m b K = K (decide (n = m ∧ a = b)) := by
  rw [haystackref02_Same_unf]; unfold haystackref02_Same_B
  by_cases h1 : n = m
  · rw [decide_eq_true h1, Bool.not_true, Ev.sel_false]
    by_cases h2 : a.length = b.length
    · rw [decide_eq_true (by omega), Bool.not_true, Ev.sel_false, haystackref02_Same_j4_unf]
      unfold haystackref02_Same_j4_B
      rw [haystackref02_Same_l5_unf]
      unfold haystackref02_Same_l5_B
      refine (ref_Same_loop n m a b h2 ha _ _ NR 0 (by omega) (by have := NR_lt; omega)).trans ?_
      simp only [List.drop_zero, h1, true_and]
      split <;> simp_all
    · have h3 : ¬ ((a.length : Int) = (b.length : Int)) := by omega
      rw [decide_eq_false h3, Bool.not_false, Ev.sel_true]
      congr 1
      have : ¬ (n = m ∧ a = b) := by rintro ⟨_, rfl⟩; exact h2 rfl
      simp [this]
  · rw [decide_eq_false h1, Bool.not_false, Ev.sel_true]
    simp [h1]
end
end Go.Proofs.YtdojekdcdoaccaaDoor
