/- Layer 2: the document's Append. -/
import Derived.Test.YtkjadjdcbpiebaaBitsRef
namespace Go.Proofs.Ytkjadjdcbpiebaa
open Go Go.Ev
section
variable {R : Type}
theorem ref_Append_pad (x k n : Int) (xs : List Int) (e : Int) (m : Nat) (hm : m ≤ 4294967296) (K : Int → Int → Int → List Int → Int → Int → Nat → List Int → Option R) : ∀ (N : Nat) (W : List Nat), W.length ≤ (m + 63) / 64 → (m + 63) / 64 - W.length < N →
    haystackref02_Append_l5_L K N x k n xs e (m : Int) W.length (ci W) = K x k n xs e (m : Int) ((m + 63) / 64) (ci (W ++ List.replicate ((m + 63) / 64 - W.length) 0))
  | 0, _, _, h => by omega
  | N + 1, W, h1, h2 => by
    simp only [haystackref02_Append_l5_L, haystackref02_Append_l5_T]
    rw [haystackref02_Words_spec _ (by omega) (by omega)]
    by_cases h : W.length < (m + 63) / 64
    · rw [sel_pos (by omega), sel_pos (by rw [ci_length]), sel_pos (by omega), letV_eq]
      have e1 : ci W ++ [0] = ci (W ++ [0]) := by rw [← ci_append]; rfl
      have e2 : W.length + 1 = (W ++ [0]).length := by simp
      rw [e1, e2, ref_Append_pad x k n xs e m hm K N (W ++ [0]) (by simp; omega) (by simp; omega)]
      congr 2
      rw [List.append_assoc]
      congr 1
      rw [show (m + 63) / 64 - W.length = ((m + 63) / 64 - (W ++ [0]).length) + 1 by simp; omega, List.replicate_succ]
      rfl
    · have : (m + 63) / 64 = W.length := by omega
      rw [sel_neg (by omega), this, Nat.sub_self]
      simp
theorem ref_Append_loop (l : List Bool) (x : Nat) (hx : x < 2 ^ 64) (k : Nat) (hk : k ≤ 64) (hl : l.length + k ≤ 1048576) (xs : List Int) (n1 n2 : Int) (L : Nat) (hL : L = (l.length + k + 63) / 64) (K : Int → Int → Nat → List Int → Option R) : ∀ (N j : Nat) (W : List Nat), j ≤ k → k - j < N →
    W.length = L → (∀ w ∈ W, w < 2 ^ 64) → (∀ i, bitAt W i = (l ++ lowB x j).getD i false) →
    haystackref02_Append_l8_L K N (x : Int) (k : Int) (j : Int) (l.length : Int) xs n1 n2 L (ci W) = K n1 n2 L (ci (wds (l ++ lowB x k)))
  | 0, _, _, _, h, _, _, _ => by omega
  | N + 1, j, W, hj, hN, h1, h2, h3 => by
    simp only [haystackref02_Append_l8_L, haystackref02_Append_l8_T]
    by_cases h : j < k
    · have hd : x / 2 ^ j < 2 ^ 64 := Nat.lt_of_le_of_lt (Nat.div_le_self _ _) hx
      rw [sel_pos (by omega), cvtW_u64 (by omega) (by omega), sel_pos (by omega), addW_i64 (by omega) (by omega), addW_i64 (by omega) (by omega), shrW_u64 _ _ hx, show (2 : Int) = ((2 : Nat) : Int) from rfl, remW_nat,
        show (l.length : Int) + (j : Int) = ((l.length + j : Nat) : Int) by omega, show (j : Int) + 1 = ((j + 1 : Nat) : Int) by omega, haystackref02_put_r_spec W h2 L h1.symm _ (by omega) (by omega)]
      apply ref_Append_loop l x hx k hk hl xs n1 n2 L hL K N (j + 1) _ (by omega) (by omega) (by rw [putW_length, h1]) (putW_lt h2 _ _)
      intro i
      have hb : decide (((x / 2 ^ j % 2 : Nat) : Int) = 1) = x.testBit j := by
        rw [Bool.eq_iff_iff, decide_eq_true_iff, ← bit_mod]; omega
      rw [hb, bitAt_putW h2 _ _ (by omega), h3, getD_append, getD_append, lowB_getD, lowB_getD]
      by_cases a1 : i = l.length + j
      · subst a1
        have b1 : ¬ l.length + j < l.length := by omega
        rw [if_pos rfl, if_neg b1, show l.length + j - l.length = j by omega]
        simp
      · rw [if_neg a1]
        by_cases a2 : i < l.length
        · rw [if_pos a2, if_pos a2]
        · rw [if_neg a2, if_neg a2]
          by_cases a3 : i - l.length < j
          · have a4 : i - l.length < j + 1 := by omega
            simp [a3, a4]
          · have a4 : ¬ i - l.length < j + 1 := by omega
            simp [a3, a4]
    · have : j = k := by omega
      subst this
      rw [sel_neg (by omega)]
      congr 2
      apply wds_eq (by rw [h1, hL, List.length_append, lowB_length]) h2
      exact h3
theorem haystackref02_Append_spec (n : Int) (ws : List Nat) (hw : Ws ws) (x : Nat) (hx : x < 2 ^ 64) (k : Int) (K : Int → List Int → Int → Option R) : haystackref02_Append n (ci ws) (x : Int) k K = K (appendS n ws x k).1 (ci (appendS n ws x k).2.1) (appendS n ws x k).2.2 := by
  have j3 : ∀ (b : Bool) (K0 : Int → Int → List Int → Option R) (K1 : Int → Int → Int → List Int → Int → Option R), haystackref02_Append_j3 (x : Int) k b n (ci ws) 0 K0 K1 = sel b (K0 2 n (ci ws)) (K1 (x : Int) k n (ci ws) 0) := fun b K0 K1 => by
    rw [haystackref02_Append_j3_unf]; unfold haystackref02_Append_j3_B; rfl
  rw [haystackref02_Append_unf]; unfold haystackref02_Append_B
  rw [haystackref02_Check_spec n ws hw]
  cases hok : okRow n ws with
  | false => rw [Bool.not_false, Ev.sel_true, j3, Ev.sel_true]; simp [appendS, hok]
  | true =>
    obtain ⟨l, rfl, rfl, hl⟩ := okRow_wds hok hw.1
    rw [Bool.not_true, Ev.sel_false]
    by_cases h1 : k < 0
    · rw [sel_pos h1, j3, Ev.sel_true]; simp [appendS, h1]
    rw [sel_neg h1]
    by_cases h2 : 64 < k
    · rw [sel_pos h2, j3, Ev.sel_true]; simp [appendS, h2]
    rw [sel_neg h2, j3, addW_i64 (by omega) (by omega)]
    by_cases h3 : 1048576 < (l.length : Int) + k
    · have h4 : 1048576 - (l.length : Int) < k := by omega
      rw [sel_pos h3]; simp [appendS, h4]
    rw [sel_neg h3]
    obtain ⟨c, rfl⟩ : ∃ c : Nat, k = (c : Int) := ⟨k.toNat, by omega⟩
    have ea : appendS (l.length : Int) (wds l) x (c : Int) = ((l.length : Int) + (c : Int), wds (l ++ lowB x c), 0) := by
      unfold appendS
      rw [if_pos ⟨hok, by omega, by omega⟩, rowB_wds, Int.toNat_natCast]
    rw [ea, haystackref02_Append_j4_unf]; unfold haystackref02_Append_j4_B
    rw [ci_length, sel_pos (by rw [wds_length]; omega), addW_i64 (by omega) (by omega), ← Int.natCast_add, haystackref02_Append_l5_unf]
    unfold haystackref02_Append_l5_B
    rw [ref_Append_pad _ _ _ _ _ _ (by omega) _ NR (wds l) (by rw [wds_length]; omega) (by have := NR_lt; omega), haystackref02_Append_l8_unf]
    unfold haystackref02_Append_l8_B
    refine (ref_Append_loop l x hx c (by omega) (by omega) _ _ _ _ rfl _ NR 0 _ (by omega) (by have := NR_lt; omega) (by simp [wds_length]; omega) (fun w hw => ?_) (fun i => ?_)).trans ?_
    · rcases List.mem_append.1 hw with hw | hw
      · exact wds_lt hw
      · rw [(List.mem_replicate.1 hw).2]; decide
    · rw [bitAt_pad]; simp [lowB]
    · exact live_out (by rw [wds_length, List.length_append, lowB_length]) K
end
end Go.Proofs.Ytkjadjdcbpiebaa
