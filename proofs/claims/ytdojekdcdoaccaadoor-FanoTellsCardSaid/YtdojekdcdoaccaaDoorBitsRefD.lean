/- Layer 2: the document's Slice. -/
import Derived.Test.YtdojekdcdoaccaaDoorBitsRefC
namespace Go.Proofs.YtdojekdcdoaccaaDoor
open Go Go.Ev
section
variable {R : Type}
theorem sliceN_next (ws : List Nat) (a k : Nat) : sliceN ws a (k + 1) = if bitAt ws (a + k) = true then sliceN ws a k ||| 2 ^ k else sliceN ws a k := by
  apply Nat.eq_of_testBit_eq
  intro i
  split
  · rename_i h
    rw [Nat.testBit_or, sliceN_bit, sliceN_bit, Nat.testBit_two_pow]
    by_cases e : i = k
    · subst e; simp [h]
    · by_cases e2 : i < k
      · simp [e2, show i < k + 1 by omega, show ¬ k = i by omega]
      · simp [e2, show ¬ i < k + 1 by omega, show ¬ k = i by omega]
  · rename_i h
    rw [sliceN_bit, sliceN_bit]
    by_cases e : i = k
    · subst e; simp at h; simp [h]
    · by_cases e2 : i < k
      · simp [e2, show i < k + 1 by omega]
      · simp [e2, show ¬ i < k + 1 by omega]
theorem ref02_Slice_loop (n : Int) (ws : List Nat) (hw : ∀ w ∈ ws, w < 2 ^ 64) (a k : Nat) (hk : k ≤ 64) (hi : a + k ≤ 64 * ws.length) (ha : a < 2000000) (K0 : Int → Option R) : ∀ (N j : Nat), j ≤ k → k - j < N →
    haystackref02_Slice_l8_L K0 N (a : Int) (k : Int) ((sliceN ws a j : Nat) : Int) (j : Int) n (ci ws) = K0 ((sliceN ws a k : Nat) : Int)
  | 0, _, _, h => by omega
  | N + 1, j, hj, hN => by
    simp only [haystackref02_Slice_l8_L, haystackref02_Slice_l8_T]
    by_cases h : j < k
    · rw [sel_pos (by omega), addW_i64 (by omega) (by omega), ← Int.natCast_add, haystackref02_At_spec n ws hw (a + j) (by omega) (by omega)]
      have ih := ref02_Slice_loop n ws hw a k hk hi ha K0 N (j + 1) (by omega) (by omega)
      have hp : 2 ^ j < 2 ^ 64 := Nat.pow_lt_pow_right (by decide) (by omega)
      have hs : sliceN ws a j < 2 ^ 64 := Nat.lt_of_lt_of_le (sliceN_lt ws a j) (Nat.pow_le_pow_right (by decide) (by omega))
      rw [sliceN_next] at ih
      rw [addW_i64 (by omega) (by omega), show (j : Int) + 1 = ((j + 1 : Nat) : Int) by omega]
      cases hb : bitAt ws (a + j) with
      | true =>
        rw [hb, if_pos rfl] at ih
        rw [Ev.sel_true, cvtW_u64 (by omega) (by omega), sel_pos (by omega), show (1 : Int) = ((1 : Nat) : Int) from rfl, shlW_u64 _ _ (by omega), Nat.one_mul, Nat.mod_eq_of_lt hp, orW_u64 _ _ hs hp]
        exact ih
      | false =>
        rw [hb, if_neg (by decide)] at ih
        rw [Ev.sel_false]
        exact ih
    · have : j = k := by omega
      subst this
      rw [sel_neg (by omega)]
theorem haystackref02_Slice_spec (n : Int) (ws : List Nat) (hw : Ws ws) (a k : Int) (K : Int → Int → Option R) : haystackref02_Slice n (ci ws) a k K = K (sliceS n ws a k).1 (sliceS n ws a k).2 := by
  rw [haystackref02_Slice_unf]; unfold haystackref02_Slice_B sliceS
  rw [haystackref02_Check_spec n ws hw]
  cases hok : okRow n ws with
  | false => rw [Bool.not_false, Ev.sel_true, if_neg (by simp)]
  | true =>
    rw [Bool.not_true, Ev.sel_false]
    by_cases h1 : k < 0
    · rw [sel_pos h1, if_neg (by omega)]
    by_cases h2 : 64 < k
    · rw [sel_neg h1, sel_pos h2, if_neg (by omega)]
    obtain ⟨h3, h4, h5⟩ := okRow_len hok
    rw [sel_neg h1, sel_neg h2, if_pos ⟨rfl, by omega⟩, haystackref02_Slice_j4_unf]; unfold haystackref02_Slice_j4_B
    by_cases h6 : a < 0
    · rw [sel_pos h6, if_pos (by omega)]
    by_cases h7 : n < a
    · rw [sel_neg h6, sel_pos h7, if_pos (by omega)]
    rw [sel_neg h6, sel_neg h7, subW_i64 (by omega) (by omega)]
    by_cases h8 : n - a < k
    · rw [sel_pos h8, if_pos (by omega)]
    rw [sel_neg h8, if_neg (by omega), haystackref02_Slice_j6_unf]; unfold haystackref02_Slice_j6_B
    obtain ⟨a, rfl⟩ : ∃ b : Nat, a = (b : Int) := ⟨a.toNat, by omega⟩
    obtain ⟨k, rfl⟩ : ∃ b : Nat, k = (b : Int) := ⟨k.toNat, by omega⟩
    rw [haystackref02_Slice_l8_unf]; unfold haystackref02_Slice_l8_B
    refine (ref02_Slice_loop n ws hw.1 a k (by omega) (by omega) (by omega) _ NR 0 (by omega) (by have := NR_lt; omega)).trans ?_
    rw [Int.toNat_natCast, Int.toNat_natCast]
end
end Go.Proofs.YtdojekdcdoaccaaDoor
