/- Layer 3: rows of numbers, by the document: of slices that no one writes; what rows tell, and become. -/
import Derived.Test.YtapgclloopcbhaaDoorIntsRef
import Derived.Test.YtapgclloopcbhaaDoorBitsRefD
namespace Go.Proofs.YtapgclloopcbhaaDoor
open Go Go.Ev
section
variable {R : Type}
/-! ### of a slice that no one writes -/
theorem ref03_bits_f (us : List Nat) (hu : ∀ u ∈ us, u < 2 ^ 64) (w : Nat) (hw : w ≤ 64) (i : Nat) (hi : i < us.length) (hi2 : us.length < 1000000000) (B : List Bool) (hB : B.length + w ≤ 1048576) (a b c : Int) (K0 : Int → List Int → Nat → Int → Int → Int → Int → List Bool → Option R) : ∀ (N k : Nat), k ≤ w → w - k < N →
    haystackref03_Make_l11_3_L K0 N (w : Int) (ci us) (B ++ lowB (us.getD i 0) k).length (i : Int) (k : Int) a b c (B ++ lowB (us.getD i 0) k) = K0 (w : Int) (ci us) (B ++ lowB (us.getD i 0) w).length (i : Int) a b c (B ++ lowB (us.getD i 0) w)
  | 0, _, _, h => by omega
  | N + 1, k, h1, h2 => by
    simp only [haystackref03_Make_l11_3_L, haystackref03_Make_l11_3_T]
    by_cases h : k < w
    · have hl : (B ++ lowB (us.getD i 0) k).length = B.length + k := by rw [List.length_append, lowB_length]
      have ih := ref03_bits_f us hu w hw i hi hi2 B hB a b c K0 N (k + 1) (by omega) (by omega)
      rw [lowB_succ, ← List.append_assoc, List.length_append (bs := [_])] at ih
      rw [ci_length, sel_pos (by omega), sel_pos (by omega), sel_pos (by omega), Int.toNat_natCast, ci_getD, ref_bit _ _ (getD_lt hu i) (by omega), sel_pos (by rw [cvtW_u64 (by omega) (by omega)]; omega), letV_eq, letV_eq, sel_pos (by first | rfl | trivial), sel_pos (by first | rfl | trivial), sel_pos (by omega), letV_eq, addW_i64 (by omega) (by omega), show (k : Int) + 1 = ((k + 1 : Nat) : Int) by omega]
      exact ih
    · have : k = w := by omega
      subst this
      rw [sel_neg (by omega)]
theorem ref03_first_f (us : List Nat) (hu : ∀ u ∈ us, u < 2 ^ 64) (w : Nat) (hw : w ≤ 64) (hw1 : 1 ≤ w) (i : Nat) (hi : i < us.length) (hi2 : us.length < 1000000000) (a b c : Int) (K0 : Int → List Int → Nat → Int → Int → Int → Int → List Bool → Option R) (K1 : Int → List Int → Int → Int → Int → Int → Option R) :
    haystackref03_Make_l11_2_L K0 K1 NR (w : Int) (ci us) (i : Int) 0 a b c = K0 (w : Int) (ci us) (lowB (us.getD i 0) w).length (i : Int) a b c (lowB (us.getD i 0) w) := by
  obtain ⟨N, hN⟩ : ∃ N, NR = N + 1 := ⟨NR - 1, by have := NR_lt; omega⟩
  have hN2 : 64 < N := by have := NR_lt; omega
  rw [hN]
  simp only [haystackref03_Make_l11_2_L, haystackref03_Make_l11_2_T]
  have ih := ref03_bits_f us hu w hw i hi hi2 [] (by simp; omega) a b c K0 N 1 hw1 (by omega)
  have e1 : lowB (us.getD i 0) 1 = [(us.getD i 0).testBit 0] := by simp [lowB, List.range_succ]
  rw [List.nil_append, List.nil_append, e1] at ih
  have hb := ref_bit (us.getD i 0) 0 (getD_lt hu i) (by omega)
  rw [show ((0 : Nat) : Int) = 0 from rfl] at hb
  rw [ci_length, sel_pos (by omega), sel_pos (by omega), sel_pos (by omega), Int.toNat_natCast, ci_getD, hb, sel_pos (by rw [cvtW_u64 (by omega) (by omega)]; omega), letV_eq, letV_eq, sel_pos (by first | rfl | trivial), addW_i64 (by omega) (by omega)]
  exact ih
/-- all of them fit -/
theorem ref03_all_f (us : List Nat) (hu : ∀ u ∈ us, u < 2 ^ 64) (w : Nat) (hw : w ≤ 64) (hw1 : 1 ≤ w) (hm : us.length * w ≤ 1048576) (hf : ∀ j, j < us.length → bitLen (us.getD j 0) ≤ w) (a b c : Int) (K0 : Int → Int → Int → Int → Option R) (K1 : Int → List Int → Nat → Int → Int → Int → List Bool → Option R) : ∀ (N i : Nat), i ≤ us.length → us.length - i < N →
    haystackref03_Make_l6_3_L K0 K1 N (w : Int) (ci us) (catI w (us.take i)).length (i : Int) a b c (catI w (us.take i)) = K1 (w : Int) (ci us) (catI w us).length a b c (catI w us)
  | 0, _, _, h => by omega
  | N + 1, i, h1, h2 => by
    have hle : us.length ≤ us.length * w := Nat.le_mul_of_pos_right _ hw1
    simp only [haystackref03_Make_l6_3_L, haystackref03_Make_l6_3_T]
    by_cases h : i < us.length
    · have hB : (catI w (us.take i)).length + w ≤ 1048576 := by
        rw [catI_length, List.length_take, Nat.min_eq_left (by omega)]
        have : (i + 1) * w ≤ us.length * w := Nat.mul_le_mul_right _ (by omega)
        rw [Nat.add_mul] at this; omega
      have hb := ref03_bits_f us hu w hw i h (by omega) (catI w (us.take i)) hB a b c (fun n976 xs980 l978 n979 n981 n982 n983 bs984 => haystackref03_Make_l6_3_L K0 K1 N n976 xs980 l978 (addW .i64 n979 1) n981 n982 n983 bs984) NR 0 (by omega) (by have := NR_lt; omega)
      rw [show lowB (us.getD i 0) 0 = [] from rfl, List.append_nil, ← catI_take us w h] at hb
      have hfi := hf i h
      rw [ci_length, sel_pos (by omega), sel_pos (by omega), sel_pos (by omega), Int.toNat_natCast, ci_getD, haystackref03_fits_spec _ (getD_lt hu i), decide_eq_true (by omega), Bool.not_true, Ev.sel_false, haystackref03_Make_l11_3_unf]; unfold haystackref03_Make_l11_3_B
      refine Eq.trans (by exact hb) ?_
      rw [addW_i64 (by omega) (by omega), show (i : Int) + 1 = ((i + 1 : Nat) : Int) by omega]
      exact ref03_all_f us hu w hw hw1 hm hf a b c K0 K1 N (i + 1) (by omega) (by omega)
    · have : i = us.length := by omega
      subst this
      rw [ci_length, sel_neg (by omega), List.take_length]
theorem ref03_not_f (us : List Nat) (hu : ∀ u ∈ us, u < 2 ^ 64) (w : Nat) (hw : w ≤ 64) (hw1 : 1 ≤ w) (hm : us.length * w ≤ 1048576) (j : Nat) (hj : j < us.length) (hf : w < bitLen (us.getD j 0)) (a b c : Int) (K0 : Int → Int → Int → Int → Option R) (K1 : Int → List Int → Nat → Int → Int → Int → List Bool → Option R) : ∀ (N i : Nat), i ≤ j → us.length - i < N →
    haystackref03_Make_l6_3_L K0 K1 N (w : Int) (ci us) (catI w (us.take i)).length (i : Int) a b c (catI w (us.take i)) = K0 2 0 0 0
  | 0, _, _, h => by omega
  | N + 1, i, h1, h2 => by
    have hle : us.length ≤ us.length * w := Nat.le_mul_of_pos_right _ hw1
    have h : i < us.length := by omega
    simp only [haystackref03_Make_l6_3_L, haystackref03_Make_l6_3_T]
    have hB : (catI w (us.take i)).length + w ≤ 1048576 := by
      rw [catI_length, List.length_take, Nat.min_eq_left (by omega)]
      have : (i + 1) * w ≤ us.length * w := Nat.mul_le_mul_right _ (by omega)
      rw [Nat.add_mul] at this; omega
    have hb := ref03_bits_f us hu w hw i h (by omega) (catI w (us.take i)) hB a b c (fun n976 xs980 l978 n979 n981 n982 n983 bs984 => haystackref03_Make_l6_3_L K0 K1 N n976 xs980 l978 (addW .i64 n979 1) n981 n982 n983 bs984) NR 0 (by omega) (by have := NR_lt; omega)
    rw [show lowB (us.getD i 0) 0 = [] from rfl, List.append_nil, ← catI_take us w h] at hb
    rw [ci_length, sel_pos (by omega), sel_pos (by omega), sel_pos (by omega), Int.toNat_natCast, ci_getD, haystackref03_fits_spec _ (getD_lt hu i)]
    by_cases hfi : bitLen (us.getD i 0) ≤ w
    · rw [decide_eq_true (by omega), Bool.not_true, Ev.sel_false, haystackref03_Make_l11_3_unf]; unfold haystackref03_Make_l11_3_B
      refine Eq.trans (by exact hb) ?_
      have : i ≠ j := fun e => by subst e; omega
      rw [addW_i64 (by omega) (by omega), show (i : Int) + 1 = ((i + 1 : Nat) : Int) by omega]
      exact ref03_not_f us hu w hw hw1 hm j hj hf a b c K0 K1 N (i + 1) (by omega) (by omega)
    · rw [decide_eq_false (by omega), Bool.not_false, Ev.sel_true]
theorem ref03_Make_j4_1_spec (us : List Nat) (hu : ∀ u ∈ us, u < 2 ^ 64) (w : Nat) (hw : w ≤ 64) (hw1 : 1 ≤ w) (hm : us.length * w ≤ 1048576) (h0 : us ≠ []) (a b c : Int) (K0 : Int → Int → Int → Int → Option R) (K1 : Int → Int → Int → Int → Nat → List Int → Option R) (K2 : Int → Int → Int → Int → List Int → Option R) :
    haystackref03_Make_j4_1 (w : Int) (ci us) a b c K0 K1 K2 = if widL us ≤ w then K1 0 (us.length : Int) (w : Int) ((us.length * w : Nat) : Int) ((us.length * w + 63) / 64) (ci (wds (catI w us))) else K0 2 0 0 0 := by
  have hle : us.length ≤ us.length * w := Nat.le_mul_of_pos_right _ hw1
  have hp : 0 < us.length := List.length_pos_iff.2 h0
  obtain ⟨N, hN⟩ : ∃ N, NR = N + 1 := ⟨NR - 1, by have := NR_lt; omega⟩
  have hN2 : 4000000000 ≤ N := by have := NR_lt; omega
  have ec : catI w (us.take 1) = lowB (us.getD 0 0) w := by
    have := catI_take us w (i := 0) hp
    rwa [List.take_zero, show catI w [] = [] from rfl, List.nil_append] at this
  rw [haystackref03_Make_j4_1_unf]; unfold haystackref03_Make_j4_1_B
  rw [haystackref03_Make_l6_2_unf]; unfold haystackref03_Make_l6_2_B
  rw [hN]
  simp only [haystackref03_Make_l6_2_L, haystackref03_Make_l6_2_T]
  rw [ci_length, sel_pos (by omega), sel_pos (by omega), sel_pos (by omega), show Int.toNat 0 = 0 from rfl, ci_getD, haystackref03_fits_spec _ (getD_lt hu 0)]
  by_cases hfit : bitLen (us.getD 0 0) ≤ w
  · rw [decide_eq_true (by omega), Bool.not_true, Ev.sel_false, haystackref03_Make_l11_2_unf]; unfold haystackref03_Make_l11_2_B
    have hb := fun K0 K1 => ref03_first_f us hu w hw hw1 0 hp (by omega) a b c (R := R) K0 K1
    rw [show ((0 : Nat) : Int) = 0 from rfl] at hb
    rw [hb, addW_i64 (by omega) (by omega), show (0 : Int) + 1 = ((1 : Nat) : Int) from rfl, ← ec]
    by_cases hA : widL us ≤ w
    · rw [if_pos hA, ref03_all_f us hu w hw hw1 hm (fit_all hw1 hA) a b c _ _ N 1 (by omega) (by omega), haystackref02_From_r_spec _ (by rw [catI_length]; omega)]
      rw [catI_length, ci_length]
    · obtain ⟨j, hj, hf⟩ := fit_not hw1 hA
      have : j ≠ 0 := fun e => by subst e; omega
      rw [if_neg hA, ref03_not_f us hu w hw hw1 hm j hj hf a b c _ _ N 1 (by omega) (by omega)]
  · have hA : ¬ widL us ≤ w := fun h => hfit (fit_all hw1 h 0 hp)
    rw [decide_eq_false (by omega), Bool.not_false, Ev.sel_true, if_neg hA]
theorem ref03_none (w : Nat) (a b c : Int) (K0 : Int → Int → Int → Int → Option R) (K1 : Int → Int → Int → Int → Nat → List Int → Option R) (K2 : Int → Int → Int → Int → List Int → Option R) : haystackref03_Make_j4_1 (w : Int) (ci []) a b c K0 K1 K2 = K2 0 0 (w : Int) 0 [] := by
  obtain ⟨N, hN⟩ : ∃ N, NR = N + 1 := ⟨NR - 1, by have := NR_lt; omega⟩
  rw [haystackref03_Make_j4_1_unf]; unfold haystackref03_Make_j4_1_B
  rw [haystackref03_Make_l6_2_unf]; unfold haystackref03_Make_l6_2_B
  rw [hN]
  simp only [haystackref03_Make_l6_2_L, haystackref03_Make_l6_2_T]
  rw [ci_length, sel_neg (by simp), haystackref02_From_spec [] (by decide)]
  rfl
theorem haystackref03_Make_spec (w : Int) (us : List Nat) (hu : ∀ u ∈ us, u < 2 ^ 64) (hl : us.length < 1000000000) (K : Int → Int → Int → List Int → Int → Option R) :
    haystackref03_Make w (ci us) K = K (makeI w us).1 (makeI w us).2.1 (makeI w us).2.2.1 (ci (makeI w us).2.2.2.1) (makeI w us).2.2.2.2 := by
  have bad : ∀ (K0 : Int → Int → Int → Int → Option R) (K1 : Int → List Int → Int → Int → Int → Option R), haystackref03_Make_j3_1 w (ci us) true 0 0 0 K0 K1 = K0 2 0 0 0 := fun K0 K1 => by
    rw [haystackref03_Make_j3_1_unf]; unfold haystackref03_Make_j3_1_B; rfl
  rw [haystackref03_Make_unf]; unfold haystackref03_Make_B
  by_cases h1 : w < 1
  · rw [sel_pos h1, bad, makeI_no (by omega)]; rfl
  by_cases h2 : 64 < w
  · rw [sel_neg h1, sel_pos h2, bad, makeI_no (by omega)]; rfl
  obtain ⟨v, rfl⟩ : ∃ v : Nat, w = (v : Int) := ⟨w.toNat, by omega⟩
  have hle : us.length ≤ us.length * v := Nat.le_mul_of_pos_right _ (by omega)
  rw [sel_neg h1, sel_neg h2, ci_length]
  by_cases h3 : 1048576 < us.length
  · rw [sel_pos (by omega), bad, makeI_no (by rw [← Int.natCast_mul]; omega)]; rfl
  have hm : us.length * v ≤ 1048576 * 64 := Nat.mul_le_mul (by omega) (by omega)
  rw [sel_neg (by omega), mulW_i64 (by rw [← Int.natCast_mul]; omega) (by rw [← Int.natCast_mul]; omega)]
  by_cases h4 : us.length * v ≤ 1048576
  · rw [decide_eq_false (by rw [← Int.natCast_mul]; omega), haystackref03_Make_j3_1_unf]; unfold haystackref03_Make_j3_1_B
    rw [Ev.sel_false]
    dsimp only
    by_cases h0 : us = []
    · subst h0
      rw [ref03_none, makeI_yes (by omega) (by omega) h4 (by show 1 ≤ v; omega)]
      simp [catI, wds, ci]
    · rw [ref03_Make_j4_1_spec us hu v (by omega) (by omega) h4 h0]
      by_cases h5 : widL us ≤ v
      · rw [if_pos h5, makeI_yes (by omega) (by omega) h4 h5, sel_pos (by rw [ci_length, wds_length, catI_length])]
      · rw [if_neg h5, makeI_no (by omega)]; rfl
  · rw [decide_eq_true (by rw [← Int.natCast_mul]; omega), bad, makeI_no (by rw [← Int.natCast_mul]; omega)]; rfl
theorem ref03_Width_loop (us : List Nat) (hu : ∀ u ∈ us, u < 2 ^ 64) (hl : us.length < 1000000000) (K0 : Int → Option R) : ∀ (N i : Nat), i ≤ us.length → us.length - i < N →
    haystackref03_Width_l4_L K0 N (ci us) ((widT us i : Nat) : Int) (i : Int) = K0 ((widL us : Nat) : Int)
  | 0, _, _, h => by omega
  | N + 1, i, h1, h2 => by
    simp only [haystackref03_Width_l4_L, haystackref03_Width_l4_T]
    by_cases h : i < us.length
    · rw [ci_length, sel_pos (by omega), sel_pos (by omega), sel_pos (by omega), Int.toNat_natCast, ci_getD, haystackref01_Len_spec _ (getD_lt hu i), max2_nat, addW_i64 (by omega) (by omega), show (i : Int) + 1 = ((i + 1 : Nat) : Int) by omega]
      exact ref03_Width_loop us hu hl K0 N (i + 1) (by omega) (by omega)
    · have : i = us.length := by omega
      subst this
      rw [ci_length, sel_neg (by omega)]; rfl
theorem haystackref03_Of_spec (us : List Nat) (hu : ∀ u ∈ us, u < 2 ^ 64) (hl : us.length < 1000000000) (K : Int → Int → Int → List Int → Int → Option R) :
    haystackref03_Of (ci us) K = K (makeI (widL us) us).1 (makeI (widL us) us).2.1 (makeI (widL us) us).2.2.1 (ci (makeI (widL us) us).2.2.2.1) (makeI (widL us) us).2.2.2.2 := by
  rw [haystackref03_Of_unf]; unfold haystackref03_Of_B
  rw [haystackref03_Width_unf]; unfold haystackref03_Width_B
  rw [haystackref03_Width_l4_unf]; unfold haystackref03_Width_l4_B
  refine (ref03_Width_loop us hu hl _ NR 0 (by omega) (by have := NR_lt; omega)).trans ?_
  dsimp only
  rw [haystackref03_Make_spec _ us hu hl]
/-! ### what rows tell -/
theorem haystackref03_Get_spec (N w n : Int) (ws : List Nat) (hw : Ws ws) (i : Int) (K : Int → Int → Option R) : haystackref03_Get N w n (ci ws) i K = K (getI N w n ws i).1 (getI N w n ws i).2 := by
  rw [haystackref03_Get_unf]; unfold haystackref03_Get_B getI
  rw [haystackref03_Check_spec N w n ws hw]
  cases hok : okI N w n ws with
  | false => rfl
  | true =>
    rw [Bool.not_true, Ev.sel_false, if_pos rfl]
    by_cases h1 : i < 0
    · rw [sel_pos h1, if_pos (.inl h1)]
    by_cases h2 : N ≤ i
    · rw [sel_neg h1, sel_pos h2, if_pos (.inr h2)]
    rw [sel_neg h1, sel_neg h2, if_neg (by omega)]
    obtain ⟨a, b, l, rfl, rfl, rfl, rfl, hl, f6, f7, f8, f9⟩ := okI_is hok hw.1
    obtain ⟨k, rfl⟩ : ∃ k : Nat, i = (k : Int) := ⟨i.toNat, by omega⟩
    have hk : k < a := by omega
    have hm : k * b ≤ a * b := Nat.mul_le_mul_right _ (by omega)
    obtain ⟨_, g2, _⟩ := okI_Ws hok hw rfl rfl
    rw [haystackref03_Get_j6_unf]; unfold haystackref03_Get_j6_B
    rw [mulW_i64 (by rw [← Int.natCast_mul]; omega) (by rw [← Int.natCast_mul]; omega), ← Int.natCast_mul, haystackref02_Slice_spec _ _ hw _ _, slice_num rfl g2 f6 f7 hk, Int.toNat_natCast, Int.toNat_natCast]
theorem getI_yes {N w n : Int} {ws : List Nat} (hok : okI N w n ws = true) {i : Nat} (hi : (i : Int) < N) : getI N w n ws (i : Int) = (((sliceN ws (i * w.toNat) w.toNat : Nat) : Int), 0) := by
  unfold getI
  rw [if_pos hok, if_neg (by omega), Int.toNat_natCast]
theorem ref03_List_loop (a b : Nat) (n : Int) (ws : List Nat) (hw : Ws ws) (hok : okI (a : Int) (b : Int) n ws = true) (ha : a ≤ 1048576) (K0 : Nat → List Int → Option R) : ∀ (N i : Nat), i ≤ a → a - i < N →
    haystackref03_List_l4_1_L K0 N i (i : Int) (a : Int) (b : Int) n (ci ws) (ci (numW ws b i)) = K0 a (ci (numW ws b a))
  | 0, _, _, h => by omega
  | N + 1, i, g1, g2 => by
    simp only [haystackref03_List_l4_1_L, haystackref03_List_l4_1_T]
    by_cases h : i < a
    · rw [sel_pos (by omega), haystackref03_Check_spec _ _ _ _ hw, hok, Ev.sel_true, haystackref03_List_j6_1_unf]; unfold haystackref03_List_j6_1_B
      rw [haystackref03_Get_spec _ _ _ _ hw, getI_yes hok (by omega), letV_eq, sel_pos (by first | rfl | trivial), sel_pos (by rw [ci_length, numW_length]), sel_pos (by omega), letV_eq, Int.toNat_natCast, addW_i64 (by omega) (by omega), show (i : Int) + 1 = ((i + 1 : Nat) : Int) by omega]
      have e : ci (numW ws b i) ++ [((sliceN ws (i * b) b : Nat) : Int)] = ci (numW ws b (i + 1)) := by rw [numW_succ, ← ci_append]; rfl
      rw [e]
      exact ref03_List_loop a b n ws hw hok ha K0 N (i + 1) (by omega) (by omega)
    · have : i = a := by omega
      subst this
      rw [sel_neg (by omega)]
theorem haystackref03_List_r_spec (a b : Nat) (n : Int) (ws : List Nat) (hw : Ws ws) (hok : okI (a : Int) (b : Int) n ws = true) (ha : a ≤ 1048576) (h0 : 0 < a) (K0 : Nat → List Int → Option R) (K1 : Unit → Option R) : haystackref03_List_r (a : Int) (b : Int) n (ci ws) K0 K1 = K0 a (ci (numW ws b a)) := by
  obtain ⟨N, hN⟩ : ∃ N, NR = N + 1 := ⟨NR - 1, by have := NR_lt; omega⟩
  have hN2 : 4000000000 ≤ N := by have := NR_lt; omega
  rw [haystackref03_List_r_unf]; unfold haystackref03_List_r_B
  rw [haystackref03_List_l4_unf]; unfold haystackref03_List_l4_B
  rw [hN]
  simp only [haystackref03_List_l4_L, haystackref03_List_l4_T]
  have h := getI_yes (i := 0) hok (by omega)
  rw [show ((0 : Nat) : Int) = 0 from rfl, Int.toNat_natCast] at h
  rw [sel_pos (by omega), haystackref03_Check_spec _ _ _ _ hw, hok, Ev.sel_true, haystackref03_List_j6_unf]; unfold haystackref03_List_j6_B
  rw [haystackref03_Get_spec _ _ _ _ hw, h, letV_eq, sel_pos (by first | rfl | trivial), addW_i64 (by omega) (by omega)]
  have e : [((sliceN ws (0 * b) b : Nat) : Int)] = ci (numW ws b 1) := by simp [numW, ci, List.range_succ]
  rw [e]
  exact ref03_List_loop a b n ws hw hok ha K0 N 1 (by omega) (by omega)
theorem haystackref03_List_spec (N w n : Int) (ws : List Nat) (hw : Ws ws) (K : List Int → Option R) : haystackref03_List N w n (ci ws) K = K (ci (listI N w n ws)) := by
  obtain ⟨M, hM⟩ : ∃ M, NR = M + 1 := ⟨NR - 1, by have := NR_lt; omega⟩
  have hM2 : 4000000000 ≤ M := by have := NR_lt; omega
  rw [haystackref03_List_unf]; unfold haystackref03_List_B listI
  rw [haystackref03_List_l4_unf]; unfold haystackref03_List_l4_B
  rw [hM]
  simp only [haystackref03_List_l4_L, haystackref03_List_l4_T]
  rw [haystackref03_Check_spec N w n ws hw]
  cases hok : okI N w n ws with
  | false =>
    by_cases h0 : 0 < N
    · rw [sel_pos h0]; rfl
    · rw [sel_neg h0]; rfl
  | true =>
    obtain ⟨a, b, l, rfl, rfl, rfl, rfl, hl, f6, f7, f8, f9⟩ := okI_is hok hw.1
    rw [if_pos rfl, Int.toNat_natCast, Int.toNat_natCast]
    by_cases h0 : 0 < a
    · have h := getI_yes (i := 0) hok (by omega)
      rw [show ((0 : Nat) : Int) = 0 from rfl, Int.toNat_natCast] at h
      rw [sel_pos (by omega), Ev.sel_true, haystackref03_List_j6_unf]; unfold haystackref03_List_j6_B
      rw [haystackref03_Get_spec _ _ _ _ hw, h, letV_eq, sel_pos (by first | rfl | trivial), addW_i64 (by omega) (by omega)]
      have e : [((sliceN (wds l) (0 * b) b : Nat) : Int)] = ci (numW (wds l) b 1) := by simp [numW, ci, List.range_succ]
      rw [e]
      refine Eq.trans (ref03_List_loop a b _ (wds l) hw hok f8 _ M 1 (by omega) (by omega)) ?_
      rw [sel_pos (by rw [ci_length, numW_length])]
    · have : a = 0 := by omega
      subst this
      rw [sel_neg (by omega)]; rfl
theorem haystackref03_Put_spec (N w n : Int) (ws : List Nat) (hw : Ws ws) (i : Int) (v : Nat) (hv : v < 2 ^ 64) (K : Int → Int → Int → List Int → Int → Option R) :
    haystackref03_Put N w n (ci ws) i (v : Int) K = K (putI N w n ws i v).1 (putI N w n ws i v).2.1 (putI N w n ws i v).2.2.1 (ci (putI N w n ws i v).2.2.2.1) (putI N w n ws i v).2.2.2.2 := by
  rw [haystackref03_Put_unf]; unfold haystackref03_Put_B putI
  rw [haystackref03_Check_spec N w n ws hw]
  cases hok : okI N w n ws with
  | false => rfl
  | true =>
    have j5 : ∀ (b : Bool) (K0 : Int → Int → Int → Int → List Int → Option R) (K1 : Int → Int → Int → Int → Int → List Int → Int → Int → Int → Option R), haystackref03_Put_j5 i (v : Int) b N w n (ci ws) 0 0 0 K0 K1 = if b = true then K0 3 N w n (ci ws) else K1 i (v : Int) N w n (ci ws) 0 0 0 := fun b K0 K1 => by
      rw [haystackref03_Put_j5_unf]; unfold haystackref03_Put_j5_B; cases b <;> rfl
    rw [Bool.not_true, Ev.sel_false, if_pos rfl]
    by_cases h1 : i < 0
    · rw [sel_pos h1, j5, if_pos rfl, if_pos (.inl h1)]
    rw [sel_neg h1, j5]
    by_cases h2 : N ≤ i
    · rw [if_pos (decide_eq_true h2), if_pos (.inr h2)]
    rw [if_neg (by simpa using h2), if_neg (by omega)]
    obtain ⟨a, b, l, rfl, rfl, rfl, rfl, hl, f6, f7, f8, f9⟩ := okI_is hok hw.1
    obtain ⟨k, rfl⟩ : ∃ k : Nat, i = (k : Int) := ⟨i.toNat, by omega⟩
    have hk : k < a := by omega
    have hLt : ∀ u ∈ (numW (wds l) b a).set k v, u < 2 ^ 64 := fun u hu => by
      rcases mem_set hu with hu | rfl
      · exact Ws_num f7 a u hu
      · exact hv
    have hLen : ((numW (wds l) b a).set k v).length = a := by rw [List.length_set, numW_length]
    have hne : (numW (wds l) b a).set k v ≠ [] := fun e => by rw [e] at hLen; simp at hLen; omega
    rw [haystackref03_Put_j6_unf]; unfold haystackref03_Put_j6_B
    rw [haystackref03_fits_spec v hv]
    by_cases h5 : v < 2 ^ b
    · have hb := lt_two_iff.1 h5
      have hwid : widL ((numW (wds l) b a).set k v) ≤ b := (widL_le f6).2 fun u hu => by
        rcases mem_set hu with hu | rfl
        · exact numW_lt _ _ _ u hu
        · exact h5
      rw [decide_eq_true (by omega), Bool.not_true, Ev.sel_false, if_pos (by rw [Int.toNat_natCast]; exact h5), haystackref03_List_r_spec a b _ _ hw hok f8 (by omega)]
      dsimp only
      rw [sel_pos (by omega), sel_pos (by omega), ci_length, numW_length, sel_pos (by omega), letV_eq, Int.toNat_natCast, Int.toNat_natCast, Int.toNat_natCast, ci_set, haystackref03_Make_r_spec b _ hLt f7 f6 (by rw [hLen]; exact f9) hne _ hLen.symm, if_pos hwid, hLen]
      rw [sel_pos (by rw [ci_length, wds_length, catI_length, hLen])]
    · have hb : ¬ bitLen v ≤ b := fun h => h5 (lt_two_iff.2 h)
      rw [decide_eq_false (by omega), Bool.not_false, Ev.sel_true, if_neg (by rw [Int.toNat_natCast]; exact h5)]
theorem haystackref03_Same_spec (N w n : Int) (ws : List Int) (N' w' n' : Int) (ws' : List Int) (h : ws.length < 4000000000) (K : Bool → Option R) : haystackref03_Same N w n ws N' w' n' ws' K = K (decide (N = N' ∧ w = w' ∧ n = n' ∧ ws = ws')) := by
  rw [haystackref03_Same_unf]; unfold haystackref03_Same_B
  by_cases h1 : N = N'
  · rw [sel_pos h1]
    by_cases h2 : w = w'
    · rw [sel_pos h2, haystackref02_Same_spec _ _ _ _ h]
      congr 1
      rw [decide_eq_decide]
      exact ⟨fun q => ⟨h1, h2, q.1, q.2⟩, fun q => ⟨q.2.2.1, q.2.2.2⟩⟩
    · rw [sel_neg h2, decide_eq_false (fun q => h2 q.2.1)]
  · rw [sel_neg h1, decide_eq_false (fun q => h1 q.1)]
theorem ref03_Rows_loop (a b : List Int) (h : a.length = b.length) (ha : a.length < 4000000000) (K0 : Bool → Option R) (K1 : Unit → Option R) : ∀ (N j : Nat), j ≤ a.length → a.length - j < N →
    haystackref03_Rows_l5_1_L K0 K1 N a b (j : Int) = if a.drop j = b.drop j then K1 () else K0 false
  | 0, _, _, h => by omega
  | N + 1, j, hj, hN => by
    simp only [haystackref03_Rows_l5_1_L, haystackref03_Rows_l5_1_T]
    by_cases h1 : j < a.length
    · rw [sel_pos (by omega), sel_pos (by omega), sel_pos (by omega), sel_pos (by omega), sel_pos (by omega), Int.toNat_natCast, addW_i64 (by omega) (by omega), show (j : Int) + 1 = ((j + 1 : Nat) : Int) by omega]
      by_cases h2 : a.getD j 0 = b.getD j 0
      · rw [sel_npos h2, ref03_Rows_loop a b h ha K0 K1 N (j + 1) (by omega) (by omega)]
        simp only [drop_eq_iff a b h j h1, h2, true_and]
      · rw [sel_nneg h2]
        simp only [drop_eq_iff a b h j h1, h2, false_and, if_false]
    · rw [sel_neg (by omega), List.drop_of_length_le (by omega), List.drop_of_length_le (by omega), if_pos rfl]
theorem haystackref03_Rows_spec (a b : List Int) (ha : a.length < 4000000000) (K : Bool → Option R) : haystackref03_Rows a b K = K (decide (a = b)) := by
  rw [haystackref03_Rows_unf]; unfold haystackref03_Rows_B
  by_cases h2 : a.length = b.length
  · rw [sel_npos (by omega), haystackref03_Rows_l5_1_unf]
    unfold haystackref03_Rows_l5_1_B
    refine (ref03_Rows_loop a b h2 ha _ _ NR 0 (by omega) (by have := NR_lt; omega)).trans ?_
    simp only [List.drop_zero]
    split <;> simp_all
  · rw [sel_nneg (by omega)]
    congr 1
    have : ¬ a = b := by rintro rfl; exact h2 rfl
    simp [this]
end
end Go.Proofs.YtapgclloopcbhaaDoor
