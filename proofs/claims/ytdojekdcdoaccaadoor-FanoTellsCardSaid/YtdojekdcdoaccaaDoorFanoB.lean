/- Layer 9: what Build gathers of a row. -/
import Derived.Test.YtdojekdcdoaccaaDoorFano
namespace Go.Proofs.YtdojekdcdoaccaaDoor
open Go Go.Ev
section
variable {R : Type}
/-- places that go into a row of L bits -/
def OkH (w L i : Nat) (qs : List Nat) : Prop := i + qs.length < 2 ^ 21 ∧ (∀ q ∈ qs, q < 2 ^ 21) ∧ ∀ q ∈ hq w i qs, q < L
theorem OkH.head {w L i q : Nat} {qs : List Nat} (h : OkH w L i (q :: qs)) : OkH w L (i + 1) qs ∧ q / 2 ^ w + i < L ∧ q < 2 ^ 21 ∧ i < 2 ^ 21 := by
  obtain ⟨h1, h2, h3⟩ := h
  simp only [List.length_cons] at h1
  refine ⟨⟨by omega, fun q' h => h2 q' (List.mem_cons_of_mem _ h), fun q' h => h3 q' (by simp only [hq]; exact List.mem_cons_of_mem _ h)⟩, h3 _ (by simp only [hq]; exact List.mem_cons_self ..), h2 _ (by simp), by omega⟩
theorem lowL_cons {w : Nat} (h : w ≠ 0) (q : Nat) (qs : List Nat) : lowL w (q :: qs) = (q % 2 ^ w) :: qs.map (· % 2 ^ w) := by
  unfold lowL; rw [if_neg h]; rfl
theorem low_snoc {w : Nat} {low : List Nat} (h : ∀ u ∈ low, u < 2 ^ w) (p : Nat) : ∀ u ∈ low ++ [p % 2 ^ w], u < 2 ^ w := fun u hu => by
  rcases List.mem_append.1 hu with hu | hu
  · exact h u hu
  · rw [List.mem_singleton.1 hu]; exact Nat.mod_lt _ (Nat.two_pow_pos _)
theorem lowL_zero (qs : List Nat) : lowL 0 qs = [] := rfl
theorem bld_step (p L i w : Nat) (bs : List Bool) (low : List Nat) (hp : p < 2 ^ 21) (hw : w ≤ 20) (hi : i < 2 ^ 21) (hL : bs.length = L) (hb : p / 2 ^ w + i < L) (hl : low.length < 2 ^ 21)
    (K0 : Bool → Nat → List Bool → Int → Int → Nat → List Int → Option R) :
    fano_Build_1_r_1 (p : Int) L bs (w : Int) (i : Int) low.length (ci low) K0 K0 = K0 true L (bs.set (p / 2 ^ w + i) true) (w : Int) ((i + 1 : Nat) : Int) (low ++ lowL w [p]).length (ci (low ++ lowL w [p])) := by
  have hd : p / 2 ^ w ≤ p := Nat.div_le_self _ _
  have hz := Int.natCast_nonneg (p / 2 ^ w)
  rw [fano_Build_1_r_1_unf]; unfold fano_Build_1_r_1_B
  rw [shrW_i64 _ _ (by omega), addW_i64 (by omega) (by omega), ← Int.natCast_add, Int.toNat_natCast, sel_pos (by omega), sel_pos (by omega), sel_pos (by omega), sel_pos (by omega), letV_eq]
  by_cases h : w = 0
  · subst h
    rw [sel_neg (by omega), fano_Build_1_j5_3_unf]; unfold fano_Build_1_j5_3_B
    rw [addW_i64 (by omega) (by omega), show (i : Int) + 1 = ((i + 1 : Nat) : Int) by omega, lowL_zero, List.append_nil]
  · rw [sel_pos (by omega), word_Mask_spec _ (by omega) (by omega), cvtW_u64 (by omega) (by omega), andW_u64 _ _ (by omega) (maskN_lt _), and_mask_low _ _ (by omega), sel_pos (ci_length low), sel_pos (by omega), letV_eq, fano_Build_1_j5_2_unf]; unfold fano_Build_1_j5_2_B
    rw [addW_i64 (by omega) (by omega), show (i : Int) + 1 = ((i + 1 : Nat) : Int) by omega, lowL_cons h, List.length_append, ← ci_append]
    rfl
theorem lowL_app (w q : Nat) (qs : List Nat) : lowL w [q] ++ lowL w qs = lowL w (q :: qs) := by
  unfold lowL; split <;> rfl
theorem lowL_app2 (w : Nat) (a b : List Nat) : lowL w a ++ lowL w b = lowL w (a ++ b) := by
  unfold lowL; split <;> simp
theorem hq_app (w : Nat) : ∀ (a b : List Nat) (i : Nat), hq w i (a ++ b) = hq w i a ++ hq w (i + a.length) b
  | [], b, i => by simp [hq]
  | q :: a, b, i => by
    simp only [List.cons_append, hq, hq_app w a b (i + 1), List.length_cons]
    rw [show i + 1 + a.length = i + (a.length + 1) by omega]
theorem setA_app (a b : List Nat) (bs : List Bool) : setA (a ++ b) bs = setA b (setA a bs) := by simp [setA]
theorem OkH.left {w L i : Nat} {a b : List Nat} (h : OkH w L i (a ++ b)) : OkH w L i a := by
  obtain ⟨h1, h2, h3⟩ := h
  rw [List.length_append] at h1
  exact ⟨by omega, fun q hq => h2 q (List.mem_append_left _ hq), fun q h => h3 q (by rw [hq_app]; exact List.mem_append_left _ h)⟩
theorem OkH.right {w L i : Nat} {a b : List Nat} (h : OkH w L i (a ++ b)) : OkH w L (i + a.length) b := by
  obtain ⟨h1, h2, h3⟩ := h
  rw [List.length_append] at h1
  exact ⟨by omega, fun q hq => h2 q (List.mem_append_right _ hq), fun q h => h3 q (by rw [hq_app]; exact List.mem_append_right _ h)⟩
/-- the ones of one word -/
theorem fo_word (j : Nat) (hj : j < 1000000) (w L : Nat) (hw : w ≤ 20) (n : Int) (zs ws : List Int) (len j2 : Int)
    (K0 : Nat → List Bool → Int → Int → Nat → Int → List Int → List Int → Option R) (K1 : List Int → Int → Int → Nat → List Bool → Int → Int → Nat → Int → List Int → List Int → Option R) :
    ∀ (F x i : Nat) (bs : List Bool) (low : List Nat), x < 2 ^ 64 → pc x 64 < F → bs.length = L → OkH w L i ((pw x).map fun k => 64 * j + k) → low.length ≤ i →
    fano_eachOne_1_l4_L K0 K1 F (j : Int) (x : Int) ws len j2 L bs (w : Int) (i : Int) low.length n zs (ci low) =
      K1 ws len j2 L (setA (hq w i ((pw x).map fun k => 64 * j + k)) bs) (w : Int) ((i + (pw x).length : Nat) : Int) (low ++ lowL w ((pw x).map fun k => 64 * j + k)).length n zs (ci (low ++ lowL w ((pw x).map fun k => 64 * j + k)))
  | 0, _, _, _, _, _, hF, _, _, _ => by omega
  | F + 1, x, i, bs, low, hx, hF, hL, hg, hll => by
    simp only [fano_eachOne_1_l4_L, fano_eachOne_1_l4_T]
    by_cases h0 : x = 0
    · subst h0
      have e : lowL w [] = [] := by unfold lowL; split <;> rfl
      rw [pw_zero, sel_npos (show ((0 : Nat) : Int) = 0 from rfl)]
      simp only [List.map_nil, hq, setA, List.foldl_nil, e, List.append_nil, List.length_nil, Nat.add_zero]
    · have hs0 : (x : Int) ≠ 0 := by omega
      have hsl := selN_le x 0
      have hc := pc_clear h0 hx
      rw [pw_step h0 hx] at hg ⊢
      simp only [List.map_cons] at hg ⊢
      obtain ⟨g1, g2, g3, g4⟩ := hg.head
      have hl2 : (low ++ lowL w [64 * j + selN x 0]).length ≤ i + 1 := by
        rw [List.length_append, lowL_length]; split <;> simp <;> omega
      rw [sel_nneg hs0, word_Select_spec x hx, mulW_i64 (by omega) (by omega), addW_i64 (by omega) (by omega), show (j : Int) * 64 + ((selN x 0 : Nat) : Int) = ((64 * j + selN x 0 : Nat) : Int) by omega, bld_step _ _ _ _ _ _ g3 hw g4 hL g2 (by omega),
        Bool.not_true, Ev.sel_false, subW_u64 (by omega) (by omega), show (x : Int) - 1 = ((x - 1 : Nat) : Int) by omega, andW_u64 _ _ hx (by omega),
        fo_word j hj w L hw n zs ws len j2 K0 K1 F _ (i + 1) _ _ (clear_lt hx) (by omega) (by rw [List.length_set]; exact hL) g1 hl2, List.append_assoc, lowL_app]
      simp only [hq, setA, List.foldl_cons, List.length_cons]
      rw [show i + 1 + (pw (x &&& (x - 1))).length = i + ((pw (x &&& (x - 1))).length + 1) by omega]
/-- the ones of all words -/
theorem fo_words (hs : List Nat) (hhs : ∀ u ∈ hs, u < 2 ^ 64) (hhl : hs.length < 1000000) (w L : Nat) (hw : w ≤ 20) (n : Int) (zs : List Int)
    (K0 : Nat → List Bool → Int → Int → Nat → Int → List Int → List Int → Option R) :
    ∀ (F j i : Nat) (bs : List Bool) (low : List Nat), j ≤ hs.length → hs.length - j < F → bs.length = L → OkH w L i (plw j (hs.drop j)) → low.length ≤ i →
    fano_eachOne_1_l2_L K0 K0 F (ci hs) (hs.length : Int) (j : Int) L bs (w : Int) (i : Int) low.length n zs (ci low) =
      K0 L (setA (hq w i (plw j (hs.drop j))) bs) (w : Int) ((i + (plw j (hs.drop j)).length : Nat) : Int) (low ++ lowL w (plw j (hs.drop j))).length n zs (ci (low ++ lowL w (plw j (hs.drop j))))
  | 0, _, _, _, _, _, hF, _, _, _ => by omega
  | F + 1, j, i, bs, low, hj, hF, hL, hg, hll => by
    simp only [fano_eachOne_1_l2_L, fano_eachOne_1_l2_T]
    by_cases h1 : j < hs.length
    · rw [plw_drop hs j h1] at hg ⊢
      have hl2 : (low ++ lowL w ((pw (hs.getD j 0)).map fun k => 64 * j + k)).length ≤ i + (pw (hs.getD j 0)).length := by
        rw [List.length_append, lowL_length]; split <;> simp <;> omega
      have hg2 := hg.right
      rw [List.length_map] at hg2
      rw [ci_length, sel_pos (by omega), sel_pos (by omega), sel_pos (by omega), Int.toNat_natCast, ci_getD, fano_eachOne_1_l4_unf]
      unfold fano_eachOne_1_l4_B
      rw [fo_word j (by omega) w L hw n zs (ci hs) _ _ K0 _ NR _ i bs low (getD_lt hhs j) (by have := pc_le (hs.getD j 0) 64; have := NR_lt; omega) hL hg.left hll,
        addW_i64 (by omega) (by omega), show (j : Int) + 1 = ((j + 1 : Nat) : Int) by omega,
        fo_words hs hhs hhl w L hw n zs K0 F (j + 1) _ _ _ (by omega) (by omega) (by rw [setA_length]; exact hL) hg2 hl2, List.append_assoc, lowL_app2, hq_app, setA_app]
      simp only [List.length_append, List.length_map, Nat.add_assoc]
    · have e : lowL w [] = [] := by unfold lowL; split <;> rfl
      rw [sel_neg (by omega), plw_end hs j j (by omega), e]
      simp only [hq, setA, List.foldl_nil, List.append_nil, List.length_nil, Nat.add_zero]
end
end Go.Proofs.YtdojekdcdoaccaaDoor
