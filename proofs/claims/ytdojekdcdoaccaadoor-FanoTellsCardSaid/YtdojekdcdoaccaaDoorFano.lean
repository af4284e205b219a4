/- Layer 9: rows of bits by the places of those that are 1: what is read. -/
import Derived.Test.YtdojekdcdoaccaaDoorInts
import Derived.Test.YtdojekdcdoaccaaDoorWordB
import Derived.Test.YtdojekdcdoaccaaDoorW14
namespace Go.Proofs.YtdojekdcdoaccaaDoor
open Go Go.Ev
section
variable {R : Type}
theorem fano_width_spec (n m : Nat) (hn : n < 2 ^ 62) (hm : m ≤ n) (K : Int → Option R) : fano_width (n : Int) (m : Int) K = K ((widF n m : Nat) : Int) := by
  rw [fano_width_unf]; unfold fano_width_B widF
  by_cases h : m = 0
  · subst h; rw [sel_pos (by omega), if_pos rfl]; rfl
  · have h1 : n / m ≤ n := Nat.div_le_self _ _
    have h2 : 0 < n / m := Nat.div_pos hm (by omega)
    have h3 := bitLen_pos (x := n / m) (by omega)
    have h4 : bitLen (n / m) ≤ 64 := bitLen_le (by omega)
    rw [sel_neg (by omega), sel_neg (by omega), if_neg h, quoW_nat (by omega) (by omega) (by omega), ← Int.natCast_ediv, cvtW_u64 (by omega) (by omega), word_Len_spec _ (by omega), subW_i64 (by omega) (by omega)]
    congr 1; omega
theorem shl_low {a w : Nat} (ha : a < 2 ^ 21) (hw : w ≤ 20) : a * 2 ^ w < 2 ^ 41 := by
  have h : 2 ^ w ≤ 2 ^ 20 := Nat.pow_le_pow_right (by decide) hw
  calc a * 2 ^ w ≤ a * 2 ^ 20 := Nat.mul_le_mul_left _ h
    _ < 2 ^ 21 * 2 ^ 20 := Nat.mul_lt_mul_of_pos_right ha (by decide)
    _ = 2 ^ 41 := by decide
theorem and_mask_low (x w : Nat) (hw : w ≤ 64) : x &&& maskN (w : Int) = x % 2 ^ w := by
  rw [and_maskN, Int.toNat_natCast, show min w 64 = w by omega]
theorem pF_lt {w i q : Nat} {low : List Nat} (hq : q < 2 ^ 21) (hw : w ≤ 20) : pF w low i q < 2 ^ 41 := by
  have h1 := shl_low (a := q - i) (w := w) (by omega) hw
  unfold pF
  split
  · refine Nat.or_lt_two_pow h1 (Nat.lt_of_lt_of_le (Nat.mod_lt _ (Nat.two_pow_pos _)) (Nat.pow_le_pow_right (by decide) (by omega)))
  · exact h1
/-- one place read -/
theorem row_1_step (q i w : Nat) (low : List Nat) (N M : Nat) (a b c : Int) (xs : List Int) (h : Int) (hs : List Int) (out : List Bool) (hge : i ≤ q) (hq : q < 2 ^ 21) (hw : w ≤ 20) (hlow : ∀ u ∈ low, u < 2 ^ 64) (hl : out.length = N)
    (K : Bool → Int → Int → List Int → Int → Int → Int → Int → Int → List Int → Int → List Int → Bool → Nat → List Bool → Option R) :
    fano_row_1_r (q : Int) (i : Int) (w : Int) (ci low) (N : Int) (M : Int) a b c xs h hs true N out K =
    if i < M ∧ pF w low i q < N then K true ((i + 1 : Nat) : Int) (w : Int) (ci low) (N : Int) (M : Int) a b c xs h hs true N (out.set (pF w low i q) true)
    else K false ((i + 1 : Nat) : Int) (w : Int) (ci low) (N : Int) (M : Int) a b c xs h hs false N out := by
  have hp := pF_lt (low := low) (i := i) hq hw
  have h1 := shl_low (a := q - i) (w := w) (by omega) hw
  have j5 : fano_row_1_j5 ((pF w low i q : Nat) : Int) (i : Int) (w : Int) (ci low) (N : Int) (M : Int) a b c xs h hs true N out K = if i < M ∧ pF w low i q < N then K true ((i + 1 : Nat) : Int) (w : Int) (ci low) (N : Int) (M : Int) a b c xs h hs true N (out.set (pF w low i q) true)
    else K false ((i + 1 : Nat) : Int) (w : Int) (ci low) (N : Int) (M : Int) a b c xs h hs false N out := by
    rw [fano_row_1_j5_unf]; unfold fano_row_1_j5_B
    by_cases h2 : i < M
    · rw [sel_pos (by omega), fano_row_1_j6_unf]; unfold fano_row_1_j6_B
      by_cases h3 : pF w low i q < N
      · rw [if_pos ⟨h2, h3⟩, decide_eq_true (by omega : ((pF w low i q : Nat) : Int) < (N : Int)), Ev.sel_true, sel_pos (by omega), Ev.sel_true, Int.toNat_natCast, sel_pos (by omega), letV_eq, fano_row_1_j8_unf]; unfold fano_row_1_j8_B
        rw [addW_i64 (by omega) (by omega), show (i : Int) + 1 = ((i + 1 : Nat) : Int) by omega]
      · rw [if_neg (by omega), decide_eq_false (by omega : ¬ ((pF w low i q : Nat) : Int) < (N : Int)), Ev.sel_false, fano_row_1_j8_unf]; unfold fano_row_1_j8_B
        rw [addW_i64 (by omega) (by omega), show (i : Int) + 1 = ((i + 1 : Nat) : Int) by omega]
    · rw [sel_neg (by omega), fano_row_1_j6_unf]; unfold fano_row_1_j6_B
      rw [if_neg (by omega), Ev.sel_false, fano_row_1_j8_unf]; unfold fano_row_1_j8_B
      rw [addW_i64 (by omega) (by omega), show (i : Int) + 1 = ((i + 1 : Nat) : Int) by omega]
  rw [fano_row_1_r_unf]; unfold fano_row_1_r_B
  rw [sel_pos (by omega), subW_i64 (by omega) (by omega), show (q : Int) - (i : Int) = ((q - i : Nat) : Int) by omega, shlW_i64 _ _ (by omega) (by omega), ci_length]
  by_cases h0 : 0 < w
  · rw [sel_pos (by omega), fano_row_1_j4_unf]; unfold fano_row_1_j4_B
    by_cases h4 : i < low.length
    · have e : pF w low i q = ((q - i) * 2 ^ w) ||| (low.getD i 0 % 2 ^ w) := by unfold pF; rw [if_pos ⟨h0, h4⟩]
      have h5 : low.getD i 0 % 2 ^ w < 2 ^ 41 := Nat.lt_of_lt_of_le (Nat.mod_lt _ (Nat.two_pow_pos _)) (Nat.pow_le_pow_right (by decide) (by omega))
      rw [sel_pos (by omega), sel_pos (by omega), ci_length, sel_pos (by omega), word_Mask_spec _ (by omega) (by omega), Int.toNat_natCast, ci_getD, andW_u64 _ _ (getD_lt hlow i) (maskN_lt _), and_mask_low _ _ (by omega), cvtW_i64 (by omega) (by omega), orW_i64 _ _ (by omega) (by omega), ← e]
      exact j5
    · have e : pF w low i q = (q - i) * 2 ^ w := by unfold pF; rw [if_neg (by omega)]
      rw [sel_neg (by omega), ← e]
      exact j5
  · rw [sel_neg (by omega), fano_row_1_j4_unf]; unfold fano_row_1_j4_B
    have e : pF w low i q = (q - i) * 2 ^ w := by unfold pF; rw [if_neg (by omega)]
    rw [Ev.sel_false, ← e]
    exact j5
/-- the places that stand ahead are not below i -/
def Ge (i : Nat) (qs : List Nat) : Prop := qs.Pairwise (· < ·) ∧ ∀ q ∈ qs, i ≤ q ∧ q < 2 ^ 21
theorem Ge.tail {i q : Nat} {qs : List Nat} (h : Ge i (q :: qs)) : Ge (i + 1) qs := by
  obtain ⟨h1, h2⟩ := h
  obtain ⟨h3, h4⟩ := List.pairwise_cons.1 h1
  refine ⟨h4, fun q' hq => ?_⟩
  have := h3 q' hq
  have := h2 q (by simp)
  have := h2 q' (List.mem_cons_of_mem _ hq)
  omega
/-- the ones of one word -/
theorem row_word (j : Nat) (hj : j < 1000000) (w : Nat) (low : List Nat) (N M : Nat) (a b c : Int) (xs : List Int) (h : Int) (hs : List Int) (n : Int) (zs : List Int) (ws : List Int) (len j2 : Int) (hw : w ≤ 20) (hlow : ∀ u ∈ low, u < 2 ^ 64)
    (K0 : Int → Int → List Int → Int → Int → Int → Int → Int → List Int → Int → List Int → Bool → Nat → List Bool → Int → List Int → Option R)
    (K1 : List Int → Int → Int → Int → Int → List Int → Int → Int → Int → Int → Int → List Int → Int → List Int → Bool → Nat → List Bool → Int → List Int → Option R)
    (KK : Bool × List Bool → Option R) (rest : List Nat)
    (hK0 : ∀ (i : Nat) out, K0 (i : Int) (w : Int) (ci low) (N : Int) (M : Int) a b c xs h hs false N out n zs = KK (false, out))
    (hK1 : ∀ (i : Nat) out, out.length = N → Ge i rest → K1 ws len j2 (i : Int) (w : Int) (ci low) (N : Int) (M : Int) a b c xs h hs true N out n zs = KK (rowF w low M N rest i out)) :
    ∀ (F x i : Nat) (out : List Bool), x < 2 ^ 64 → pc x 64 < F → out.length = N → Ge i ((pw x).map (fun k => 64 * j + k) ++ rest) →
    fano_eachOne_1_l4_1_L K0 K1 F (j : Int) (x : Int) ws len j2 (i : Int) (w : Int) (ci low) (N : Int) (M : Int) a b c xs h hs true N out n zs = KK (rowF w low M N ((pw x).map (fun k => 64 * j + k) ++ rest) i out)
  | 0, _, _, _, _, hF, _, _ => by omega
  | F + 1, x, i, out, hx, hF, hl, hg => by
    simp only [fano_eachOne_1_l4_1_L, fano_eachOne_1_l4_1_T]
    by_cases h0 : x = 0
    · subst h0
      rw [pw_zero] at hg ⊢
      rw [sel_npos (show ((0 : Nat) : Int) = 0 from rfl)]
      exact hK1 i out hl hg
    · have hs0 : (x : Int) ≠ 0 := by omega
      have hsl := selN_le x 0
      have hc := pc_clear h0 hx
      rw [pw_step h0 hx] at hg ⊢
      simp only [List.map_cons, List.cons_append] at hg ⊢
      obtain ⟨g1, g2⟩ := hg.2 _ (List.mem_cons_self ..)
      rw [sel_nneg hs0, word_Select_spec x hx, mulW_i64 (by omega) (by omega), addW_i64 (by omega) (by omega), show (j : Int) * 64 + ((selN x 0 : Nat) : Int) = ((64 * j + selN x 0 : Nat) : Int) by omega, row_1_step _ _ _ _ _ _ _ _ _ _ _ _ _ g1 g2 hw hlow hl]
      unfold rowF
      split
      · rename_i hp
        rw [Bool.not_true, Ev.sel_false, subW_u64 (by omega) (by omega), show (x : Int) - 1 = ((x - 1 : Nat) : Int) by omega, andW_u64 _ _ hx (by omega)]
        exact row_word j hj w low N M a b c xs h hs n zs ws len j2 hw hlow K0 K1 KK rest hK0 hK1 F _ (i + 1) _ (clear_lt hx) (by omega) (by rw [List.length_set]; exact hl) hg.tail
      · rw [Bool.not_false, Ev.sel_true]
        exact hK0 _ _
/-- the ones of all words -/
theorem row_words (hs : List Nat) (hhs : ∀ u ∈ hs, u < 2 ^ 64) (hhl : hs.length < 1000000) (w : Nat) (low : List Nat) (N M : Nat) (a b c : Int) (xs : List Int) (h : Int) (hs2 : List Int) (n : Int) (zs : List Int) (hw : w ≤ 20) (hlow : ∀ u ∈ low, u < 2 ^ 64)
    (K0 K1 : Int → Int → List Int → Int → Int → Int → Int → Int → List Int → Int → List Int → Bool → Nat → List Bool → Int → List Int → Option R)
    (KK : Bool × List Bool → Option R)
    (hK0 : ∀ (i : Nat) out, K0 (i : Int) (w : Int) (ci low) (N : Int) (M : Int) a b c xs h hs2 false N out n zs = KK (false, out))
    (hK1 : ∀ (i : Nat) out, out.length = N → K1 (i : Int) (w : Int) (ci low) (N : Int) (M : Int) a b c xs h hs2 true N out n zs = KK (true, out)) :
    ∀ (F j i : Nat) (out : List Bool), j ≤ hs.length → hs.length - j < F → out.length = N → Ge i (plw j (hs.drop j)) →
    fano_eachOne_1_l2_1_L K0 K1 F (ci hs) (hs.length : Int) (j : Int) (i : Int) (w : Int) (ci low) (N : Int) (M : Int) a b c xs h hs2 true N out n zs = KK (rowF w low M N (plw j (hs.drop j)) i out)
  | 0, _, _, _, _, hF, _, _ => by omega
  | F + 1, j, i, out, hj, hF, hl, hg => by
    simp only [fano_eachOne_1_l2_1_L, fano_eachOne_1_l2_1_T]
    by_cases h1 : j < hs.length
    · rw [plw_drop hs j h1] at hg ⊢
      rw [ci_length, sel_pos (by omega), sel_pos (by omega), sel_pos (by omega), Int.toNat_natCast, ci_getD, fano_eachOne_1_l4_1_unf]
      unfold fano_eachOne_1_l4_1_B
      refine row_word j (by omega) w low N M a b c xs h hs2 n zs (ci hs) _ _ hw hlow _ _ KK _ hK0 (fun i out hl hg => ?_) NR _ i out (getD_lt hhs j) (by have := pc_le (hs.getD j 0) 64; have := NR_lt; omega) hl hg
      rw [addW_i64 (by omega) (by omega), show (j : Int) + 1 = ((j + 1 : Nat) : Int) by omega]
      exact row_words hs hhs hhl w low N M a b c xs h hs2 n zs hw hlow K0 K1 KK hK0 hK1 F (j + 1) i out (by omega) (by omega) hl hg
    · rw [sel_neg (by omega), plw_end hs j j (by omega)]
      exact hK1 i out hl
end
end Go.Proofs.YtdojekdcdoaccaaDoor
