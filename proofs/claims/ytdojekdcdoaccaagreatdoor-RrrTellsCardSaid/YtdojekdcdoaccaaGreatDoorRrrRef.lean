/- Layer 8, by the document: what Build builds, which ones may be. -/
import Derived.Test.YtdojekdcdoaccaaGreatDoorRrrB
import Derived.Test.YtdojekdcdoaccaaGreatDoorIntsRefO
import Derived.Test.YtdojekdcdoaccaaGreatDoorBinomRef
namespace Go.Proofs.YtdojekdcdoaccaaGreatDoor
open Go Go.Ev
section
variable {R : Type}
theorem ref08_block_loop (l : List Bool) (hl : l.length ≤ 1048576) (i : Nat) (hi : i < NB l) (K0 : Int → Option R) : ∀ (F k : Nat), k ≤ min 15 (l.length - 15 * i) → min 15 (l.length - 15 * i) - k < F →
    haystackref08_block_l4_L K0 F ((15 * i : Nat) : Int) ((sliceN (wds l) (15 * i) k : Nat) : Int) (k : Int) (l.length : Int) (ci (wds l)) = K0 ((bw l i : Nat) : Int)
  | 0, _, _, h => by omega
  | F + 1, k, h1, h2 => by
    have hn := NB_lt.1 hi
    simp only [haystackref08_block_l4_L, haystackref08_block_l4_T]
    by_cases h : k < min 15 (l.length - 15 * i)
    · have hs := sliceN_lt (wds l) (15 * i) k
      have hp : 2 ^ k ≤ 2 ^ 15 := Nat.pow_le_pow_right (by decide) (by omega)
      have hnx := sliceN_next (wds l) (15 * i) k
      rw [sel_pos (by omega), addW_i64 (a := ((15 * i : Nat) : Int)) (by omega) (by omega), sel_pos (by omega), haystackref08_block_j6_unf]; unfold haystackref08_block_j6_B
      rw [addW_i64 (a := ((15 * i : Nat) : Int)) (by omega) (by omega), ← Int.natCast_add, haystackref02_At_spec _ _ (fun w hw => wds_lt hw) _ (by rw [wds_length]; omega) (by omega), addW_i64 (by omega) (by omega), show (k : Int) + 1 = ((k + 1 : Nat) : Int) by omega]
      cases hb : bitAt (wds l) (15 * i + k) with
      | true =>
        rw [hb, if_pos rfl] at hnx
        have e1 : orW .u64 ((sliceN (wds l) (15 * i) k : Nat) : Int) (shlW .u64 1 (cvtW .u64 (k : Int))) = ((sliceN (wds l) (15 * i) (k + 1) : Nat) : Int) := by
          rw [cvtW_u64 (by omega) (by omega), show (1 : Int) = ((1 : Nat) : Int) from rfl, shlW_u64 _ _ (by omega), Nat.one_mul, Nat.mod_eq_of_lt (by omega), orW_u64 _ _ (by omega) (by omega), hnx]
        rw [Ev.sel_true, sel_pos (by rw [cvtW_u64 (by omega) (by omega)]; omega), e1]
        exact ref08_block_loop l hl i hi K0 F (k + 1) (by omega) (by omega)
      | false =>
        rw [hb, if_neg (by simp)] at hnx
        rw [Ev.sel_false, ← hnx]
        exact ref08_block_loop l hl i hi K0 F (k + 1) (by omega) (by omega)
    · have e : k = min 15 (l.length - 15 * i) := by omega
      have e2 : sliceN (wds l) (15 * i) k = bw l i := by rw [e, bw_short]
      rw [e2]
      by_cases h15 : k < 15
      · rw [sel_pos (by omega), addW_i64 (by omega) (by omega), sel_neg (by omega)]
      · rw [sel_neg (by omega)]
theorem haystackref08_block_spec (l : List Bool) (hl : l.length ≤ 1048576) (i : Nat) (hi : i < NB l) (K : Int → Option R) : haystackref08_block (l.length : Int) (ci (wds l)) ((15 * i : Nat) : Int) K = K ((bw l i : Nat) : Int) := by
  rw [haystackref08_block_unf]; unfold haystackref08_block_B
  rw [haystackref08_block_l4_unf]; unfold haystackref08_block_l4_B
  have e : sliceN (wds l) (15 * i) 0 = 0 := rfl
  have := ref08_block_loop l hl i hi K NR 0 (by omega) (by have := NR_lt; omega)
  rw [e] at this
  exact this
theorem ref08_low_loop (u : Nat) (hu : u < 2 ^ 64) (w : Nat) (hw : w ≤ 64) (K0 : Nat → List Bool → Option R) : ∀ (F k : Nat), k ≤ w → w - k < F →
    haystackref08_low_l4_L K0 F (u : Int) (w : Int) k (k : Int) (lowB u k) = K0 w (lowB u w)
  | 0, _, _, h => by omega
  | F + 1, k, h1, h2 => by
    simp only [haystackref08_low_l4_L, haystackref08_low_l4_T]
    by_cases h : k < w
    · have e : lowB u k ++ [decide (remW (shrW .u64 (u : Int) (cvtW .u64 (k : Int))) 2 = 1)] = lowB u (k + 1) := by rw [ref_bit _ _ hu (by omega), lowB_succ]
      rw [sel_pos (by omega), sel_pos (by rw [cvtW_u64 (by omega) (by omega)]; omega), sel_pos (by rw [lowB_length]), sel_pos (by omega), letV_eq, e, addW_i64 (by omega) (by omega), show (k : Int) + 1 = ((k + 1 : Nat) : Int) by omega]
      exact ref08_low_loop u hu w hw K0 F (k + 1) (by omega) (by omega)
    · have : k = w := by omega
      subst this
      rw [sel_neg (by omega)]
theorem haystackref08_low_spec (u : Nat) (hu : u < 2 ^ 64) (w : Nat) (hw : w ≤ 64) (K : List Bool → Option R) : haystackref08_low (u : Int) (w : Int) K = K (lowB u w) := by
  rw [haystackref08_low_unf]; unfold haystackref08_low_B
  rw [haystackref08_low_l4_unf]; unfold haystackref08_low_l4_B
  refine (show _ = _ from ref08_low_loop u hu w hw (fun v2 v3 => sel (decide (v2 = List.length v3)) (K v3) none) NR 0 (by omega) (by have := NR_lt; omega)).trans ?_
  rw [sel_pos (lowB_length u w).symm]
theorem ref08_blk (l : List Bool) (hl : l.length ≤ 1048576) (i : Nat) (hi : i < max 1 (NB l)) (o : Int) (a b c d e f g h j k : Int) (p q : Nat) (xs ys : List Int) (K0 : Nat → Nat → Int → Int → Int → List Int → Int → Int → Int → Int → Int → Int → Int → Int → Int → Int → Nat → Nat → List Int → List Int → List Int → List Bool → Option R) :
    haystackref08_Build_j13 i (offs l i).length ((cntOf l true (15 * i) : Nat) : Int) (i : Int) (l.length : Int) (ci (wds l)) a b c d e f g h j k p q xs ys (ci (clsL l i)) (offs l i) K0 =
      K0 (min (i + 1) (NB l)) (offs l (min (i + 1) (NB l))).length ((cntOf l true (15 * min (i + 1) (NB l)) : Nat) : Int) (i : Int) (l.length : Int) (ci (wds l)) a b c d e f g h j k p q xs ys (ci (clsL l (min (i + 1) (NB l)))) (offs l (min (i + 1) (NB l))) := by
  have hn := NB_le hl
  rw [haystackref08_Build_j13_unf]; unfold haystackref08_Build_j13_B
  have em : mulW .i64 (i : Int) 15 = ((15 * i : Nat) : Int) := by rw [mulW_i64 (by omega) (by omega)]; omega
  rw [em]
  by_cases h0 : i < NB l
  · have h1 := NB_lt.1 h0
    have hc := cls_le l i
    have hb := bw_lt l i
    have hw := wid15_le (cls l i)
    have hp : 2 ^ wid15 (cls l i) ≤ 2 ^ 13 := Nat.pow_le_pow_right (by decide) hw
    have ho := ofs_wid l i
    have hs := offs_small hl (i := i) (by omega)
    have hcl := cntOf_le l true (15 * i)
    have hmin : min (i + 1) (NB l) = i + 1 := by omega
    have e1 : ci (clsL l i) ++ [cvtW .u64 ((pc (bw l i) 15 : Nat) : Int)] = ci (clsL l (i + 1)) := by
      rw [show pc (bw l i) 15 = cls l i from rfl, cvtW_u64 (by omega) (by omega), clsL_succ, ← ci_append]; rfl
    have e3 : addW .i64 ((cntOf l true (15 * i) : Nat) : Int) ((pc (bw l i) 15 : Nat) : Int) = ((cntOf l true (15 * (i + 1)) : Nat) : Int) := by
      rw [show pc (bw l i) 15 = cls l i from rfl, addW_i64 (by omega) (by omega), cnt_next]; omega
    rw [sel_pos (by omega), haystackref08_block_spec l hl i h0, show (15 : Int) = ((15 : Nat) : Int) from rfl, haystackref06_Offset_spec _ (by omega) 15 (by decide)]
    rw [ci_length, clsL_length, sel_pos rfl, sel_pos (by omega), letV_eq, e1, haystackref06_Width_spec, show ((15 : Nat) : Int) = 15 from rfl, show pc (bw l i) 15 = cls l i from rfl, widI_15, show offN (bw l i) 15 = ofs l i from rfl, haystackref08_low_spec _ (by omega) _ (by omega), sel_pos rfl, lowB_length, sel_pos (by omega), letV_eq, hmin, show cls l i = pc (bw l i) 15 from rfl, e3]
    have e4 : offs l (i + 1) = offs l i ++ lowB (ofs l i) (wid15 (pc (bw l i) 15)) := rfl
    rw [e4, List.length_append, lowB_length]
  · have h1 : NB l = 0 := by omega
    have h2 : i = 0 := by omega
    subst h2
    have h3 : ¬ 15 * 0 < l.length := fun h => h0 (NB_lt.2 h)
    rw [sel_neg (by omega), h1]
    rfl
theorem ref08_loop (l : List Bool) (hl : l.length ≤ 1048576) (a b c d e f g h j k : Int) (K0 : Nat → Nat → Int → Int → Int → Int → Int → Int → Int → Int → Int → Int → Nat → Nat → List Int → List Int → List Int → List Bool → Option R) : ∀ (F i : Nat), i ≤ max 1 (NB l) → max 1 (NB l) - i < F →
    haystackref08_Build_l9_L K0 F (min i (NB l)) (offs l (min i (NB l))).length ((cntOf l true (15 * min i (NB l)) : Nat) : Int) (i : Int) (l.length : Int) (ci (wds l)) a b c d e f g h j k (grp i) (grp i) (onesL l (grp i)) (ptsL l (grp i)) (ci (clsL l (min i (NB l)))) (offs l (min i (NB l))) =
      K0 (NB l) (offs l (NB l)).length a b c d e f g h j k (NG l) (NG l) (onesL l (NG l)) (ptsL l (NG l)) (ci (clsL l (NB l))) (offs l (NB l))
  | 0, _, _, h => by omega
  | F + 1, i, h1, h2 => by
    have hn := NB_le hl
    simp only [haystackref08_Build_l9_L, haystackref08_Build_l9_T]
    have em : mulW .i64 (i : Int) 15 = ((15 * i : Nat) : Int) := by rw [mulW_i64 (by omega) (by omega)]; omega
    by_cases hi : i < max 1 (NB l)
    · have ih := ref08_loop l hl a b c d e f g h j k K0 F (i + 1) (by omega) (by omega)
      have hmin : min i (NB l) = i := by omega
      have er : remW (i : Int) 8 = ((i % 8 : Nat) : Int) := remW_nat i 8
      have e5 : addW .i64 (i : Int) 1 = ((i + 1 : Nat) : Int) := by rw [addW_i64 (by omega) (by omega)]; omega
      have hg := grp_succ i
      have hgl : grp i ≤ i := by unfold grp; omega
      rw [hmin]
      have key : haystackref08_Build_j11 i (offs l i).length ((cntOf l true (15 * i) : Nat) : Int) (i : Int) (l.length : Int) (ci (wds l)) a b c d e f g h j k (grp i) (grp i) (onesL l (grp i)) (ptsL l (grp i)) (ci (clsL l i)) (offs l i) (haystackref08_Build_l9_L K0 F) =
          K0 (NB l) (offs l (NB l)).length a b c d e f g h j k (NG l) (NG l) (onesL l (NG l)) (ptsL l (NG l)) (ci (clsL l (NB l))) (offs l (NB l)) := by
        rw [haystackref08_Build_j11_unf]; unfold haystackref08_Build_j11_B
        rw [er]
        by_cases h8 : i % 8 = 0
        · have h9 := grp_at h8
          rw [if_pos h8] at hg
          have e6 : onesL l (grp i) ++ [((cntOf l true (15 * i) : Nat) : Int)] = onesL l (grp (i + 1)) := by rw [hg, onesL_succ, show 120 * grp i = 15 * i by omega]
          have e7 : ptsL l (grp i) ++ [((offs l i).length : Int)] = ptsL l (grp (i + 1)) := by rw [hg, ptsL_succ, h9]
          rw [sel_pos (by omega), onesL_length, sel_pos rfl, sel_pos (by omega), letV_eq, ptsL_length, sel_pos rfl, sel_pos (by omega), letV_eq, e6, e7, ← hg, ref08_blk l hl i hi 0]
          rw [e5]
          exact ih
        · rw [if_neg h8] at hg
          replace hg : grp (i + 1) = grp i := hg
          rw [sel_neg (by omega), ← hg, ref08_blk l hl i hi 0, e5]
          exact ih
      by_cases h0 : i = 0
      · rw [sel_pos (by omega)]; exact key
      · rw [sel_neg (by omega), em, sel_pos (by have := NB_lt (l := l) (i := i); omega)]; exact key
    · have h3 : i = max 1 (NB l) := by omega
      have h4 : min i (NB l) = NB l := by omega
      have h5 : grp i = NG l := by rw [h3]; unfold NG grp; omega
      have h6 : ¬ 15 * i < l.length := fun h => by have := NB_lt.2 h; omega
      rw [sel_neg (by omega), em, sel_neg (by omega), h4, h5]
theorem haystackref08_Build_spec (l : List Bool) (hl : l.length ≤ 1048576) (K : Int → Int → Int → Int → List Int → Int → List Int → List Int → List Int → Int → Option R) :
    haystackref08_Build (l.length : Int) (ci (wds l)) K = K (l.length : Int) ((NB l : Nat) : Int) 4 ((NB l * 4 : Nat) : Int) (ci (wds (catI 4 (clsL l (NB l))))) ((offs l (NB l)).length : Int) (ci (wds (offs l (NB l)))) (onesL l (NG l)) (ptsL l (NG l)) 0 := by
  have hn := NB_le hl
  have ho := offs_small hl (i := NB l) (Nat.le_refl _)
  have hmk : makeI 4 (clsL l (NB l)) = (((NB l : Nat) : Int), 4, ((NB l * 4 : Nat) : Int), wds (catI 4 (clsL l (NB l))), 0) := by
    have := makeI_yes (w := 4) (us := clsL l (NB l)) (by decide) (by decide) (by rw [clsL_length]; omega) (cls_fit l _)
    rw [clsL_length] at this; exact this
  have hu : ∀ u ∈ clsL l (NB l), u < 2 ^ 64 := fun u h => by have := clsL_lt l _ u h; omega
  rw [haystackref08_Build_unf]; unfold haystackref08_Build_B
  rw [haystackref08_Build_j2_unf]; unfold haystackref08_Build_j2_B
  rw [haystackref02_Check_spec _ _ (Ws.wds hl), okRow_of l hl, Bool.not_true, Ev.sel_false, haystackref08_Build_l9_unf]; unfold haystackref08_Build_l9_B
  have hloop := fun a b c d e f g h j k K0 => ref08_loop (R := R) l hl a b c d e f g h j k K0 NR 0 (by omega) (by have := NR_lt; omega)
  have z1 : min 0 (NB l) = 0 := by omega
  have e2 : onesL l (grp 0) = [] := by simp [grp, onesL]
  have e3 : ptsL l (grp 0) = [] := by simp [grp, ptsL]
  have e4 : ci (clsL l 0) = [] := by simp [clsL, ci]
  rw [z1, e2, e3, e4] at hloop
  refine (show _ = _ from hloop _ _ _ _ _ _ _ _ _ _ _).trans ?_
  rw [ci_length, clsL_length, sel_pos rfl, sel_pos rfl, haystackref03_Make_spec _ _ hu (by rw [clsL_length]; omega), hmk]
  dsimp only
  rw [sel_pos rfl, sel_pos rfl, haystackref02_From_spec _ (by omega)]
  rw [onesL_length, ptsL_length, sel_pos rfl, sel_pos rfl]
theorem haystackref08_Build_bad (n : Int) (ws : List Nat) (hw : Ws ws) (h : okRow n ws = false) (K : Int → Int → Int → Int → List Int → Int → List Int → List Int → List Int → Int → Option R) : haystackref08_Build n (ci ws) K = K 0 0 0 0 [] 0 [] [] [] 2 := by
  rw [haystackref08_Build_unf]; unfold haystackref08_Build_B
  rw [haystackref08_Build_j2_unf]; unfold haystackref08_Build_j2_B
  rw [haystackref02_Check_spec n ws hw, h]; rfl
theorem haystackref08_Same_spec (a b c d : Int) (e : List Int) (f : Int) (g h j : List Int) (a' b' c' d' : Int) (e' : List Int) (f' : Int) (g' h' j' : List Int) (h1 : e.length < 4000000000) (h2 : g.length < 4000000000) (h3 : h.length < 4000000000) (h4 : j.length < 4000000000) (K : Bool → Option R) :
    haystackref08_Same a b c d e f g h j a' b' c' d' e' f' g' h' j' K = K (decide (a = a' ∧ b = b' ∧ c = c' ∧ d = d' ∧ e = e' ∧ f = f' ∧ g = g' ∧ h = h' ∧ j = j')) := by
  rw [haystackref08_Same_unf]; unfold haystackref08_Same_B
  by_cases q1 : a = a'
  · rw [sel_pos q1, haystackref03_Same_spec _ _ _ _ _ _ _ _ h1]
    by_cases q2 : b = b' ∧ c = c' ∧ d = d' ∧ e = e'
    · rw [sel_pos q2, haystackref02_Same_spec _ _ _ _ h2]
      by_cases q3 : f = f' ∧ g = g'
      · rw [sel_pos q3, haystackref07_Numbers_spec _ _ h3]
        by_cases q4 : h = h'
        · rw [sel_pos q4, haystackref07_Numbers_spec _ _ h4]
          congr 1
          exact decide_eq_decide.2 ⟨fun q5 => ⟨q1, q2.1, q2.2.1, q2.2.2.1, q2.2.2.2, q3.1, q3.2, q4, q5⟩, fun q5 => q5.2.2.2.2.2.2.2.2⟩
        · rw [sel_neg q4, decide_eq_false (fun q => q4 q.2.2.2.2.2.2.2.1)]
      · rw [sel_neg q3, decide_eq_false (fun q => q3 ⟨q.2.2.2.2.2.1, q.2.2.2.2.2.2.1⟩)]
    · rw [sel_neg q2, decide_eq_false (fun q => q2 ⟨q.2.1, q.2.2.1, q.2.2.2.1, q.2.2.2.2.1⟩)]
  · rw [sel_neg q1, decide_eq_false (fun q => q1 q.1)]
end
end Go.Proofs.YtdojekdcdoaccaaGreatDoor
