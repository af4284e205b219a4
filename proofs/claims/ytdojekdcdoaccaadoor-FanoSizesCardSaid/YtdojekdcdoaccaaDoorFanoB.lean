/- Layer 9: what Build gathers (printed by fanob.py). -/
import Derived.Test.YtdojekdcdoaccaaDoorFano
namespace Go.Proofs.YtdojekdcdoaccaaDoor
open Go Go.Ev
section
variable {R : Type}
/-- places that go into a row of L bits -/
def OkH (w L i : Nat) (qs : List Nat) : Prop := i + qs.length < 2 ^ 21 ∧ (∀ q ∈ qs, q < 2 ^ 21) ∧ ∀ q ∈ hq w i qs, q < L
theorem OkH.head {w L i q : Nat} {qs : List Nat} (h : OkH w L i (q :: qs)) : OkH w L (i + 1) qs ∧ q / 2 ^ w + i < L ∧ q < 2 ^ 21 ∧ i < 2 ^ 21 := by
  obtain ⟨h1, h2, h3⟩ := h
  simp only [List.length_cons] at h1
  refine ⟨⟨by omega, fun q' h => h2 q' (List.mem_cons_of_mem _ h), fun q' h => h3 q' (by simp only [hq]; exact List.mem_cons_of_mem _ h)⟩, h3 _ (by simp only [hq]; exact List.mem_cons_self ..), h2 _ (by simp), by omega⟩
theorem bld_step (p L i w : Nat) (bs : List Bool) (hp : p < 2 ^ 21) (hw : w ≤ 20) (hi : i < 2 ^ 21) (hL : bs.length = L) (hb : p / 2 ^ w + i < L)
    (K0 : Bool → Nat → List Bool → Int → Int → Nat → List Int → Option R) (K1 : Bool → Nat → List Bool → Int → Int → Option R) :
    fano_Build_1_r (p : Int) L bs (w : Int) (i : Int) K0 K1 = if w = 0 then K1 true L (bs.set (p / 2 ^ w + i) true) (w : Int) ((i + 1 : Nat) : Int)
      else K0 true L (bs.set (p / 2 ^ w + i) true) (w : Int) ((i + 1 : Nat) : Int) 1 (ci [p % 2 ^ w]) := by
  have hd : p / 2 ^ w ≤ p := Nat.div_le_self _ _
  have hz := Int.natCast_nonneg (p / 2 ^ w)
  rw [fano_Build_1_r_unf]; unfold fano_Build_1_r_B
  rw [shrW_i64 _ _ (by omega), addW_i64 (by omega) (by omega), ← Int.natCast_add, Int.toNat_natCast, sel_pos (by omega), sel_pos (by omega), sel_pos (by omega), sel_pos (by omega), letV_eq]
  by_cases h : w = 0
  · rw [if_pos h, sel_neg (by omega), fano_Build_1_j5_1_unf]; unfold fano_Build_1_j5_1_B
    rw [addW_i64 (by omega) (by omega), show (i : Int) + 1 = ((i + 1 : Nat) : Int) by omega]
  · rw [if_neg h, sel_pos (by omega), word_Mask_spec _ (by omega) (by omega), cvtW_u64 (by omega) (by omega), andW_u64 _ _ (by omega) (maskN_lt _), and_mask_low _ _ (by omega), letV_eq, sel_pos (by simp), fano_Build_1_j5_unf]; unfold fano_Build_1_j5_B
    rw [addW_i64 (by omega) (by omega), show (i : Int) + 1 = ((i + 1 : Nat) : Int) by omega]
    rfl
theorem bld_step1 (p L i w : Nat) (bs : List Bool) (low : List Nat) (hp : p < 2 ^ 21) (hw : w ≤ 20) (hi : i < 2 ^ 21) (hL : bs.length = L) (hb : p / 2 ^ w + i < L) (h0 : w ≠ 0) (hl : low.length < 2 ^ 21)
    (K0 K1 : Bool → Nat → List Bool → Int → Int → Nat → List Int → Option R) :
    fano_Build_1_r_1 (p : Int) L bs (w : Int) (i : Int) low.length (ci low) K0 K1 = K0 true L (bs.set (p / 2 ^ w + i) true) (w : Int) ((i + 1 : Nat) : Int) (low ++ [p % 2 ^ w]).length (ci (low ++ [p % 2 ^ w])) := by
  have hd : p / 2 ^ w ≤ p := Nat.div_le_self _ _
  have hz := Int.natCast_nonneg (p / 2 ^ w)
  rw [fano_Build_1_r_1_unf]; unfold fano_Build_1_r_1_B
  rw [shrW_i64 _ _ (by omega), addW_i64 (by omega) (by omega), ← Int.natCast_add, Int.toNat_natCast, sel_pos (by omega), sel_pos (by omega), sel_pos (by omega), sel_pos (by omega), letV_eq]
  rw [sel_pos (by omega), word_Mask_spec _ (by omega) (by omega), cvtW_u64 (by omega) (by omega), andW_u64 _ _ (by omega) (maskN_lt _), and_mask_low _ _ (by omega), letV_eq, sel_pos (by simp), sel_pos (ci_length low), sel_pos (by omega), letV_eq, fano_Build_1_j5_2_unf]; unfold fano_Build_1_j5_2_B
  rw [addW_i64 (by omega) (by omega), show (i : Int) + 1 = ((i + 1 : Nat) : Int) by omega, List.length_append]
  unfold ci
  rw [List.map_append]; rfl
theorem lowL_cons {w : Nat} (h : w ≠ 0) (q : Nat) (qs : List Nat) : lowL w (q :: qs) = (q % 2 ^ w) :: qs.map (· % 2 ^ w) := by
  unfold lowL; rw [if_neg h]; rfl
theorem low_snoc {w : Nat} {low : List Nat} (h : ∀ u ∈ low, u < 2 ^ w) (p : Nat) : ∀ u ∈ low ++ [p % 2 ^ w], u < 2 ^ w := fun u hu => by
  rcases List.mem_append.1 hu with hu | hu
  · exact h u hu
  · rw [List.mem_singleton.1 hu]; exact Nat.mod_lt _ (Nat.two_pow_pos _)
theorem lowL_zero (qs : List Nat) : lowL 0 qs = [] := rfl
theorem fz_word1 (j : Nat) (hj : j < 1000000) (w L Bd : Nat) (hBd : Bd < 2 ^ 21) (h0 : w ≠ 0) (hw : w ≤ 20) (n : Int) (zs : List Int) (ws : List Int) (len j2 : Int)
    (K0 : Nat → List Bool → Int → Int → Nat → Int → List Int → List Int → Option R) (K1 : List Int → Int → Int → Nat → List Bool → Int → Int → Nat → Int → List Int → List Int → Option R) (KK : List Bool → List Nat → Option R) (rest : List Nat)
    (hK1 : ∀ (i : Nat) (bs : List Bool) (low : List Nat), bs.length = L → OkH w L i rest → low.length + rest.length ≤ Bd → (∀ u ∈ low, u < 2 ^ w) → K1 ws len j2 L bs (w : Int) (i : Int) low.length n zs (ci low) = KK (setA (hq w i rest) bs) (low ++ rest.map (· % 2 ^ w))) :
    ∀ (F x i : Nat) (bs : List Bool) (low : List Nat), x < 2 ^ 64 → pc x 64 < F → bs.length = L → OkH w L i ((pw x).map (fun k => 64 * j + k) ++ rest) → low.length + ((pw x).map (fun k => 64 * j + k) ++ rest).length ≤ Bd → (∀ u ∈ low, u < 2 ^ w) →
    fano_eachOne_1_l4_4_L K0 K1 F (j : Int) (x : Int) ws len j2 L bs (w : Int) (i : Int) low.length n zs (ci low) = KK (setA (hq w i ((pw x).map (fun k => 64 * j + k) ++ rest)) bs) (low ++ ((pw x).map (fun k => 64 * j + k) ++ rest).map (· % 2 ^ w))
  | 0, _, _, _, _, _, hF, _, _, _, _ => by omega
  | F + 1, x, i, bs, low, hx, hF, hL, hg, hn, hu => by
    simp only [fano_eachOne_1_l4_4_L, fano_eachOne_1_l4_4_T]
    by_cases hx0 : x = 0
    · subst hx0
      rw [pw_zero] at hg hn ⊢
      rw [sel_npos (show ((0 : Nat) : Int) = 0 from rfl)]
      exact hK1 i bs low hL hg hn hu
    · have hsl := selN_le x 0
      have hc := pc_clear hx0 hx
      rw [pw_step hx0 hx] at hg hn ⊢
      simp only [List.map_cons, List.cons_append] at hg hn ⊢
      obtain ⟨g1, g2, g3, g4⟩ := hg.head
      simp only [List.length_cons] at hn
      rw [sel_nneg (by omega : ¬ (x : Int) = 0), word_Select_spec x hx, mulW_i64 (by omega) (by omega), addW_i64 (by omega) (by omega), show (j : Int) * 64 + ((selN x 0 : Nat) : Int) = ((64 * j + selN x 0 : Nat) : Int) by omega, bld_step1 _ _ _ _ _ _ g3 hw g4 hL g2 h0 (by omega)]
      rw [Bool.not_true, Ev.sel_false, subW_u64 (by omega) (by omega), show (x : Int) - 1 = ((x - 1 : Nat) : Int) by omega, andW_u64 _ _ hx (by omega)]
      rw [fz_word1 j hj w L Bd hBd h0 hw n zs ws len j2 K0 K1 KK rest hK1 F _ (i + 1) _ _ (clear_lt hx) (by omega) (by rw [List.length_set]; exact hL) g1 (by rw [List.length_append, List.length_singleton]; omega) (low_snoc hu _), List.append_assoc]
      rfl
theorem fz_wordA (j : Nat) (hj : j < 1000000) (w L Bd : Nat) (hBd : Bd < 2 ^ 21) (hw : w ≤ 20) (n : Int) (zs : List Int) (ws : List Int) (len j2 : Int)
    (K0 : Nat → List Bool → Int → Int → Nat → Int → List Int → List Int → Option R) (K1 : List Int → Int → Int → Nat → List Bool → Int → Int → Nat → Int → List Int → List Int → Option R) (K2 : Nat → List Bool → Int → Int → Int → List Int → Option R) (K3 : List Int → Int → Int → Nat → List Bool → Int → Int → Int → List Int → Option R) (KK : List Bool → List Nat → Option R) (rest : List Nat)
    (hK1 : w ≠ 0 → ∀ (i : Nat) (bs : List Bool) (low : List Nat), bs.length = L → OkH w L i rest → low.length + rest.length ≤ Bd → (∀ u ∈ low, u < 2 ^ w) → K1 ws len j2 L bs (w : Int) (i : Int) low.length n zs (ci low) = KK (setA (hq w i rest) bs) (low ++ rest.map (· % 2 ^ w)))
    (hK3 : ∀ (i : Nat) (bs : List Bool), bs.length = L → OkH w L i rest → rest.length ≤ Bd → K3 ws len j2 L bs (w : Int) (i : Int) n zs = KK (setA (hq w i rest) bs) (lowL w rest)) :
    ∀ (F x i : Nat) (bs : List Bool), x < 2 ^ 64 → pc x 64 < F → bs.length = L → OkH w L i ((pw x).map (fun k => 64 * j + k) ++ rest) → ((pw x).map (fun k => 64 * j + k) ++ rest).length ≤ Bd →
    fano_eachOne_1_l4_3_L K0 K1 K2 K3 F (j : Int) (x : Int) ws len j2 L bs (w : Int) (i : Int) n zs = KK (setA (hq w i ((pw x).map (fun k => 64 * j + k) ++ rest)) bs) (lowL w ((pw x).map (fun k => 64 * j + k) ++ rest))
  | 0, _, _, _, _, hF, _, _, _ => by omega
  | F + 1, x, i, bs, hx, hF, hL, hg, hn => by
    simp only [fano_eachOne_1_l4_3_L, fano_eachOne_1_l4_3_T]
    by_cases hx0 : x = 0
    · subst hx0
      rw [pw_zero] at hg hn ⊢
      rw [sel_npos (show ((0 : Nat) : Int) = 0 from rfl)]
      exact hK3 i bs hL hg hn
    · have hsl := selN_le x 0
      have hc := pc_clear hx0 hx
      rw [pw_step hx0 hx] at hg hn ⊢
      simp only [List.map_cons, List.cons_append] at hg hn ⊢
      simp only [List.length_cons] at hn
      obtain ⟨g1, g2, g3, g4⟩ := hg.head
      rw [sel_nneg (by omega : ¬ (x : Int) = 0), word_Select_spec x hx, mulW_i64 (by omega) (by omega), addW_i64 (by omega) (by omega), show (j : Int) * 64 + ((selN x 0 : Nat) : Int) = ((64 * j + selN x 0 : Nat) : Int) by omega, bld_step _ _ _ _ _ g3 hw g4 hL g2]
      by_cases h0 : w = 0
      · rw [if_pos h0, Bool.not_true, Ev.sel_false, subW_u64 (by omega) (by omega), show (x : Int) - 1 = ((x - 1 : Nat) : Int) by omega, andW_u64 _ _ hx (by omega)]
        rw [fz_wordA j hj w L Bd hBd hw n zs ws len j2 K0 K1 K2 K3 KK rest hK1 hK3 F _ (i + 1) _ (clear_lt hx) (by omega) (by rw [List.length_set]; exact hL) g1 (by omega)]
        subst h0
        rfl
      · rw [if_neg h0, Bool.not_true, Ev.sel_false, subW_u64 (by omega) (by omega), show (x : Int) - 1 = ((x - 1 : Nat) : Int) by omega, andW_u64 _ _ hx (by omega)]
        refine (fz_word1 j hj w L Bd hBd h0 hw n zs ws len j2 K0 K1 KK rest (hK1 h0) F _ (i + 1) _ [(64 * j + selN x 0) % 2 ^ w] (clear_lt hx) (by omega) (by rw [List.length_set]; exact hL) g1 (by rw [List.length_singleton]; omega) (low_snoc (low := []) (by simp) _)).trans ?_
        rw [lowL_cons h0]
        rfl
theorem fz_words1 (hs : List Nat) (hhs : ∀ u ∈ hs, u < 2 ^ 64) (hhl : hs.length < 1000000) (w L Bd : Nat) (hBd : Bd < 2 ^ 21) (h0 : w ≠ 0) (hw : w ≤ 20) (n : Int) (zs : List Int)
    (K0 K1 : Nat → List Bool → Int → Int → Nat → Int → List Int → List Int → Option R) (KK : List Bool → List Nat → Option R)
    (hK1 : ∀ (i : Nat) (bs : List Bool) (low : List Nat), bs.length = L → low.length ≤ Bd → (∀ u ∈ low, u < 2 ^ w) → K1 L bs (w : Int) (i : Int) low.length n zs (ci low) = KK bs low) :
    ∀ (F j i : Nat) (bs : List Bool) (low : List Nat), j ≤ hs.length → hs.length - j < F → bs.length = L → OkH w L i (plw j (hs.drop j)) → low.length + (plw j (hs.drop j)).length ≤ Bd → (∀ u ∈ low, u < 2 ^ w) →
    fano_eachOne_1_l2_4_L K0 K1 F (ci hs) (hs.length : Int) (j : Int) L bs (w : Int) (i : Int) low.length n zs (ci low) = KK (setA (hq w i (plw j (hs.drop j))) bs) (low ++ (plw j (hs.drop j)).map (· % 2 ^ w))
  | 0, _, _, _, _, _, hF, _, _, _, _ => by omega
  | F + 1, j, i, bs, low, hj, hF, hL, hg, hn, hu => by
    simp only [fano_eachOne_1_l2_4_L, fano_eachOne_1_l2_4_T]
    by_cases h1 : j < hs.length
    · rw [plw_drop hs j h1] at hg hn ⊢
      rw [ci_length, sel_pos (by omega), sel_pos (by omega), sel_pos (by omega), Int.toNat_natCast, ci_getD, fano_eachOne_1_l4_4_unf]
      unfold fano_eachOne_1_l4_4_B
      refine fz_word1 j (by omega) w L Bd hBd h0 hw n zs (ci hs) _ _ _ _ KK _ (fun i bs low hL hg hn hu => ?_) NR _ i bs low (getD_lt hhs j) (by have := pc_le (hs.getD j 0) 64; have := NR_lt; omega) hL hg hn hu
      rw [addW_i64 (by omega) (by omega), show (j : Int) + 1 = ((j + 1 : Nat) : Int) by omega]
      exact fz_words1 hs hhs hhl w L Bd hBd h0 hw n zs K0 K1 KK hK1 F (j + 1) i bs low (by omega) (by omega) hL hg hn hu
    · rw [sel_neg (by omega)]
      rw [plw_end hs j j (by omega)] at hn ⊢
      rw [hK1 i bs low hL (by simpa using hn) hu]
      simp [hq, setA]
theorem fz_wordsA (hs : List Nat) (hhs : ∀ u ∈ hs, u < 2 ^ 64) (hhl : hs.length < 1000000) (w L Bd : Nat) (hBd : Bd < 2 ^ 21) (hw : w ≤ 20) (n : Int) (zs : List Int)
    (K0 K1 : Nat → List Bool → Int → Int → Nat → Int → List Int → List Int → Option R) (K2 K3 : Nat → List Bool → Int → Int → Int → List Int → Option R) (KK : List Bool → List Nat → Option R)
    (hK1 : ∀ (i : Nat) (bs : List Bool) (low : List Nat), bs.length = L → low.length ≤ Bd → (∀ u ∈ low, u < 2 ^ w) → K1 L bs (w : Int) (i : Int) low.length n zs (ci low) = KK bs low)
    (hK3 : ∀ (i : Nat) (bs : List Bool), bs.length = L → K3 L bs (w : Int) (i : Int) n zs = KK bs []) :
    ∀ (F j i : Nat) (bs : List Bool), j ≤ hs.length → hs.length - j < F → bs.length = L → OkH w L i (plw j (hs.drop j)) → (plw j (hs.drop j)).length ≤ Bd →
    fano_eachOne_1_l2_3_L K0 K1 K2 K3 F (ci hs) (hs.length : Int) (j : Int) L bs (w : Int) (i : Int) n zs = KK (setA (hq w i (plw j (hs.drop j))) bs) (lowL w (plw j (hs.drop j)))
  | 0, _, _, _, _, hF, _, _, _ => by omega
  | F + 1, j, i, bs, hj, hF, hL, hg, hn => by
    simp only [fano_eachOne_1_l2_3_L, fano_eachOne_1_l2_3_T]
    by_cases h1 : j < hs.length
    · rw [plw_drop hs j h1] at hg hn ⊢
      rw [ci_length, sel_pos (by omega), sel_pos (by omega), sel_pos (by omega), Int.toNat_natCast, ci_getD, fano_eachOne_1_l4_3_unf]
      unfold fano_eachOne_1_l4_3_B
      refine fz_wordA j (by omega) w L Bd hBd hw n zs (ci hs) _ _ _ _ _ _ KK _ (fun h0 i bs low hL hg hn hu => ?_) (fun i bs hL hg hn => ?_) NR _ i bs (getD_lt hhs j) (by have := pc_le (hs.getD j 0) 64; have := NR_lt; omega) hL hg hn
      · rw [addW_i64 (by omega) (by omega), show (j : Int) + 1 = ((j + 1 : Nat) : Int) by omega]
        exact fz_words1 hs hhs hhl w L Bd hBd h0 hw n zs K0 K1 KK hK1 F (j + 1) i bs low (by omega) (by omega) hL hg hn hu
      · rw [addW_i64 (by omega) (by omega), show (j : Int) + 1 = ((j + 1 : Nat) : Int) by omega]
        exact fz_wordsA hs hhs hhl w L Bd hBd hw n zs K0 K1 K2 K3 KK hK1 hK3 F (j + 1) i bs (by omega) (by omega) hL hg hn
    · rw [sel_neg (by omega), plw_end hs j j (by omega), hK3 i bs hL]
      simp [hq, setA, lowL]
theorem lv_word1 (j : Nat) (hj : j < 1000000) (w L Bd : Nat) (hBd : Bd < 2 ^ 21) (h0 : w ≠ 0) (hw : w ≤ 20) (n : Int) (l2 : Nat) (zs : List Int) (ws : Nat) (len j2 : Int)
    (K0 : Nat → List Bool → Int → Int → Nat → Int → Nat → List Int → List Int → Option R) (K1 : Nat → Int → Int → Nat → List Bool → Int → Int → Nat → Int → Nat → List Int → List Int → Option R) (KK : List Bool → List Nat → Option R) (rest : List Nat)
    (hK1 : ∀ (i : Nat) (bs : List Bool) (low : List Nat), bs.length = L → OkH w L i rest → low.length + rest.length ≤ Bd → (∀ u ∈ low, u < 2 ^ w) → K1 ws len j2 L bs (w : Int) (i : Int) low.length n l2 zs (ci low) = KK (setA (hq w i rest) bs) (low ++ rest.map (· % 2 ^ w))) :
    ∀ (F x i : Nat) (bs : List Bool) (low : List Nat), x < 2 ^ 64 → pc x 64 < F → bs.length = L → OkH w L i ((pw x).map (fun k => 64 * j + k) ++ rest) → low.length + ((pw x).map (fun k => 64 * j + k) ++ rest).length ≤ Bd → (∀ u ∈ low, u < 2 ^ w) →
    fano_eachOne_1_l4_1_L K0 K1 F (j : Int) (x : Int) ws len j2 L bs (w : Int) (i : Int) low.length n l2 zs (ci low) = KK (setA (hq w i ((pw x).map (fun k => 64 * j + k) ++ rest)) bs) (low ++ ((pw x).map (fun k => 64 * j + k) ++ rest).map (· % 2 ^ w))
  | 0, _, _, _, _, _, hF, _, _, _, _ => by omega
  | F + 1, x, i, bs, low, hx, hF, hL, hg, hn, hu => by
    simp only [fano_eachOne_1_l4_1_L, fano_eachOne_1_l4_1_T]
    by_cases hx0 : x = 0
    · subst hx0
      rw [pw_zero] at hg hn ⊢
      rw [sel_npos (show ((0 : Nat) : Int) = 0 from rfl)]
      exact hK1 i bs low hL hg hn hu
    · have hsl := selN_le x 0
      have hc := pc_clear hx0 hx
      rw [pw_step hx0 hx] at hg hn ⊢
      simp only [List.map_cons, List.cons_append] at hg hn ⊢
      obtain ⟨g1, g2, g3, g4⟩ := hg.head
      simp only [List.length_cons] at hn
      rw [sel_nneg (by omega : ¬ (x : Int) = 0), word_Select_spec x hx, mulW_i64 (by omega) (by omega), addW_i64 (by omega) (by omega), show (j : Int) * 64 + ((selN x 0 : Nat) : Int) = ((64 * j + selN x 0 : Nat) : Int) by omega, bld_step1 _ _ _ _ _ _ g3 hw g4 hL g2 h0 (by omega)]
      rw [Bool.not_true, Ev.sel_false, subW_u64 (by omega) (by omega), show (x : Int) - 1 = ((x - 1 : Nat) : Int) by omega, andW_u64 _ _ hx (by omega)]
      rw [lv_word1 j hj w L Bd hBd h0 hw n l2 zs ws len j2 K0 K1 KK rest hK1 F _ (i + 1) _ _ (clear_lt hx) (by omega) (by rw [List.length_set]; exact hL) g1 (by rw [List.length_append, List.length_singleton]; omega) (low_snoc hu _), List.append_assoc]
      rfl
theorem lv_wordA (j : Nat) (hj : j < 1000000) (w L Bd : Nat) (hBd : Bd < 2 ^ 21) (hw : w ≤ 20) (n : Int) (l2 : Nat) (zs : List Int) (ws : Nat) (len j2 : Int)
    (K0 : Nat → List Bool → Int → Int → Nat → Int → Nat → List Int → List Int → Option R) (K1 : Nat → Int → Int → Nat → List Bool → Int → Int → Nat → Int → Nat → List Int → List Int → Option R) (K2 : Nat → List Bool → Int → Int → Int → Nat → List Int → Option R) (K3 : Nat → Int → Int → Nat → List Bool → Int → Int → Int → Nat → List Int → Option R) (KK : List Bool → List Nat → Option R) (rest : List Nat)
    (hK1 : w ≠ 0 → ∀ (i : Nat) (bs : List Bool) (low : List Nat), bs.length = L → OkH w L i rest → low.length + rest.length ≤ Bd → (∀ u ∈ low, u < 2 ^ w) → K1 ws len j2 L bs (w : Int) (i : Int) low.length n l2 zs (ci low) = KK (setA (hq w i rest) bs) (low ++ rest.map (· % 2 ^ w)))
    (hK3 : ∀ (i : Nat) (bs : List Bool), bs.length = L → OkH w L i rest → rest.length ≤ Bd → K3 ws len j2 L bs (w : Int) (i : Int) n l2 zs = KK (setA (hq w i rest) bs) (lowL w rest)) :
    ∀ (F x i : Nat) (bs : List Bool), x < 2 ^ 64 → pc x 64 < F → bs.length = L → OkH w L i ((pw x).map (fun k => 64 * j + k) ++ rest) → ((pw x).map (fun k => 64 * j + k) ++ rest).length ≤ Bd →
    fano_eachOne_1_l4_L K0 K1 K2 K3 F (j : Int) (x : Int) ws len j2 L bs (w : Int) (i : Int) n l2 zs = KK (setA (hq w i ((pw x).map (fun k => 64 * j + k) ++ rest)) bs) (lowL w ((pw x).map (fun k => 64 * j + k) ++ rest))
  | 0, _, _, _, _, hF, _, _, _ => by omega
  | F + 1, x, i, bs, hx, hF, hL, hg, hn => by
    simp only [fano_eachOne_1_l4_L, fano_eachOne_1_l4_T]
    by_cases hx0 : x = 0
    · subst hx0
      rw [pw_zero] at hg hn ⊢
      rw [sel_npos (show ((0 : Nat) : Int) = 0 from rfl)]
      exact hK3 i bs hL hg hn
    · have hsl := selN_le x 0
      have hc := pc_clear hx0 hx
      rw [pw_step hx0 hx] at hg hn ⊢
      simp only [List.map_cons, List.cons_append] at hg hn ⊢
      simp only [List.length_cons] at hn
      obtain ⟨g1, g2, g3, g4⟩ := hg.head
      rw [sel_nneg (by omega : ¬ (x : Int) = 0), word_Select_spec x hx, mulW_i64 (by omega) (by omega), addW_i64 (by omega) (by omega), show (j : Int) * 64 + ((selN x 0 : Nat) : Int) = ((64 * j + selN x 0 : Nat) : Int) by omega, bld_step _ _ _ _ _ g3 hw g4 hL g2]
      by_cases h0 : w = 0
      · rw [if_pos h0, Bool.not_true, Ev.sel_false, subW_u64 (by omega) (by omega), show (x : Int) - 1 = ((x - 1 : Nat) : Int) by omega, andW_u64 _ _ hx (by omega)]
        rw [lv_wordA j hj w L Bd hBd hw n l2 zs ws len j2 K0 K1 K2 K3 KK rest hK1 hK3 F _ (i + 1) _ (clear_lt hx) (by omega) (by rw [List.length_set]; exact hL) g1 (by omega)]
        subst h0
        rfl
      · rw [if_neg h0, Bool.not_true, Ev.sel_false, subW_u64 (by omega) (by omega), show (x : Int) - 1 = ((x - 1 : Nat) : Int) by omega, andW_u64 _ _ hx (by omega)]
        refine (lv_word1 j hj w L Bd hBd h0 hw n l2 zs ws len j2 K0 K1 KK rest (hK1 h0) F _ (i + 1) _ [(64 * j + selN x 0) % 2 ^ w] (clear_lt hx) (by omega) (by rw [List.length_set]; exact hL) g1 (by rw [List.length_singleton]; omega) (low_snoc (low := []) (by simp) _)).trans ?_
        rw [lowL_cons h0]
        rfl
theorem lv_words1 (hs : List Nat) (hhs : ∀ u ∈ hs, u < 2 ^ 64) (hhl : hs.length < 1000000) (w L Bd : Nat) (hBd : Bd < 2 ^ 21) (h0 : w ≠ 0) (hw : w ≤ 20) (n : Int)
    (K0 K1 : Nat → List Bool → Int → Int → Nat → Int → Nat → List Int → List Int → Option R) (KK : List Bool → List Nat → Option R)
    (hK1 : ∀ (i : Nat) (bs : List Bool) (low : List Nat), bs.length = L → low.length ≤ Bd → (∀ u ∈ low, u < 2 ^ w) → K1 L bs (w : Int) (i : Int) low.length n hs.length (ci hs) (ci low) = KK bs low) :
    ∀ (F j i : Nat) (bs : List Bool) (low : List Nat), j ≤ hs.length → hs.length - j < F → bs.length = L → OkH w L i (plw j (hs.drop j)) → low.length + (plw j (hs.drop j)).length ≤ Bd → (∀ u ∈ low, u < 2 ^ w) →
    fano_eachOne_1_l2_1_L K0 K1 F hs.length (hs.length : Int) (j : Int) L bs (w : Int) (i : Int) low.length n hs.length (ci hs) (ci low) = KK (setA (hq w i (plw j (hs.drop j))) bs) (low ++ (plw j (hs.drop j)).map (· % 2 ^ w))
  | 0, _, _, _, _, _, hF, _, _, _, _ => by omega
  | F + 1, j, i, bs, low, hj, hF, hL, hg, hn, hu => by
    simp only [fano_eachOne_1_l2_1_L, fano_eachOne_1_l2_1_T]
    by_cases h1 : j < hs.length
    · rw [plw_drop hs j h1] at hg hn ⊢
      rw [sel_pos (by omega), sel_pos (by omega), sel_pos (by omega), Int.toNat_natCast, ci_length, sel_pos (by omega), ci_getD, fano_eachOne_1_l4_1_unf]
      unfold fano_eachOne_1_l4_1_B
      refine lv_word1 j (by omega) w L Bd hBd h0 hw n hs.length (ci hs) hs.length _ _ _ _ KK _ (fun i bs low hL hg hn hu => ?_) NR _ i bs low (getD_lt hhs j) (by have := pc_le (hs.getD j 0) 64; have := NR_lt; omega) hL hg hn hu
      rw [addW_i64 (by omega) (by omega), show (j : Int) + 1 = ((j + 1 : Nat) : Int) by omega]
      exact lv_words1 hs hhs hhl w L Bd hBd h0 hw n K0 K1 KK hK1 F (j + 1) i bs low (by omega) (by omega) hL hg hn hu
    · rw [sel_neg (by omega)]
      rw [plw_end hs j j (by omega)] at hn ⊢
      rw [hK1 i bs low hL (by simpa using hn) hu]
      simp [hq, setA]
theorem lv_wordsA (hs : List Nat) (hhs : ∀ u ∈ hs, u < 2 ^ 64) (hhl : hs.length < 1000000) (w L Bd : Nat) (hBd : Bd < 2 ^ 21) (hw : w ≤ 20) (n : Int)
    (K0 K1 : Nat → List Bool → Int → Int → Nat → Int → Nat → List Int → List Int → Option R) (K2 K3 : Nat → List Bool → Int → Int → Int → Nat → List Int → Option R) (KK : List Bool → List Nat → Option R)
    (hK1 : ∀ (i : Nat) (bs : List Bool) (low : List Nat), bs.length = L → low.length ≤ Bd → (∀ u ∈ low, u < 2 ^ w) → K1 L bs (w : Int) (i : Int) low.length n hs.length (ci hs) (ci low) = KK bs low)
    (hK3 : ∀ (i : Nat) (bs : List Bool), bs.length = L → K3 L bs (w : Int) (i : Int) n hs.length (ci hs) = KK bs []) :
    ∀ (F j i : Nat) (bs : List Bool), j ≤ hs.length → hs.length - j < F → bs.length = L → OkH w L i (plw j (hs.drop j)) → (plw j (hs.drop j)).length ≤ Bd →
    fano_eachOne_1_l2_L K0 K1 K2 K3 F hs.length (hs.length : Int) (j : Int) L bs (w : Int) (i : Int) n hs.length (ci hs) = KK (setA (hq w i (plw j (hs.drop j))) bs) (lowL w (plw j (hs.drop j)))
  | 0, _, _, _, _, hF, _, _, _ => by omega
  | F + 1, j, i, bs, hj, hF, hL, hg, hn => by
    simp only [fano_eachOne_1_l2_L, fano_eachOne_1_l2_T]
    by_cases h1 : j < hs.length
    · rw [plw_drop hs j h1] at hg hn ⊢
      rw [sel_pos (by omega), sel_pos (by omega), sel_pos (by omega), Int.toNat_natCast, ci_length, sel_pos (by omega), ci_getD, fano_eachOne_1_l4_unf]
      unfold fano_eachOne_1_l4_B
      refine lv_wordA j (by omega) w L Bd hBd hw n hs.length (ci hs) hs.length _ _ _ _ _ _ KK _ (fun h0 i bs low hL hg hn hu => ?_) (fun i bs hL hg hn => ?_) NR _ i bs (getD_lt hhs j) (by have := pc_le (hs.getD j 0) 64; have := NR_lt; omega) hL hg hn
      · rw [addW_i64 (by omega) (by omega), show (j : Int) + 1 = ((j + 1 : Nat) : Int) by omega]
        exact lv_words1 hs hhs hhl w L Bd hBd h0 hw n K0 K1 KK hK1 F (j + 1) i bs low (by omega) (by omega) hL hg hn hu
      · rw [addW_i64 (by omega) (by omega), show (j : Int) + 1 = ((j + 1 : Nat) : Int) by omega]
        exact lv_wordsA hs hhs hhl w L Bd hBd hw n K0 K1 K2 K3 KK hK1 hK3 F (j + 1) i bs (by omega) (by omega) hL hg hn
    · rw [sel_neg (by omega), plw_end hs j j (by omega), hK3 i bs hL]
      simp [hq, setA, lowL]
end
end Go.Proofs.YtdojekdcdoaccaaDoor
