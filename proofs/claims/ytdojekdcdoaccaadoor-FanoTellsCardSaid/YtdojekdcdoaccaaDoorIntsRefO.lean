/- Layer 3: rows of numbers, by the document (empty slices told as rows). -/
import Derived.Test.YtdojekdcdoaccaaDoorInts
import Derived.Test.YtdojekdcdoaccaaDoorBitsRefC
import Derived.Test.YtdojekdcdoaccaaDoorWordRefD
import Derived.Test.YtdojekdcdoaccaaDoorBitsRefD
namespace Go.Proofs.YtdojekdcdoaccaaDoor
open Go Go.Ev
section
variable {R : Type}
theorem haystackref03_Check_spec (N w n : Int) (ws : List Nat) (hw : Ws ws) (K : Bool → Option R) : haystackref03_Check N w n (ci ws) K = K (okI N w n ws) := by
  rw [haystackref03_Check_unf]; unfold haystackref03_Check_B okI
  by_cases h1 : 1 ≤ w
  · rw [sel_pos h1]
    by_cases h2 : w ≤ 64
    · rw [sel_pos h2]
      by_cases h3 : 0 ≤ N
      · rw [sel_pos h3]
        by_cases h4 : N ≤ 1048576
        · obtain ⟨a, rfl⟩ : ∃ a : Nat, N = (a : Int) := ⟨N.toNat, by omega⟩
          obtain ⟨b, rfl⟩ : ∃ b : Nat, w = (b : Int) := ⟨w.toNat, by omega⟩
          have hm : a * b ≤ 1048576 * 64 := Nat.mul_le_mul (by omega) (by omega)
          rw [sel_pos h4, haystackref02_Check_spec n ws hw, decide_eq_true (show (1 : Int) ≤ (b : Int) ∧ (b : Int) ≤ 64 ∧ (0 : Int) ≤ (a : Int) ∧ (a : Int) ≤ 1048576 from ⟨h1, h2, h3, h4⟩), Bool.true_and, mulW_i64 (by rw [← Int.natCast_mul]; omega) (by rw [← Int.natCast_mul]; omega)]
          cases okRow n ws <;> rfl
        · rw [sel_neg h4, decide_eq_false (by omega)]; rfl
      · rw [sel_neg h3, decide_eq_false (by omega)]; rfl
    · rw [sel_neg h2, decide_eq_false (by omega)]; rfl
  · rw [sel_neg h1, decide_eq_false (by omega)]; rfl
theorem haystackref03_fits_spec (u : Nat) (hu : u < 2 ^ 64) (w : Int) (K : Bool → Option R) : haystackref03_fits (u : Int) w K = K (decide (((bitLen u : Nat) : Int) ≤ w)) := by
  rw [haystackref03_fits_unf]; unfold haystackref03_fits_B
  rw [haystackref01_Len_spec u hu]
theorem lowB_succ (u k : Nat) : lowB u (k + 1) = lowB u k ++ [u.testBit k] := by simp [lowB, List.range_succ]
theorem ref_bit (u k : Nat) (hu : u < 2 ^ 64) (hk : k ≤ 64) : decide (remW (shrW .u64 (u : Int) (cvtW .u64 (k : Int))) 2 = 1) = u.testBit k := by
  rw [cvtW_u64 (by omega) (by omega), shrW_u64 _ _ hu, show (2 : Int) = ((2 : Nat) : Int) from rfl, remW_nat, Bool.eq_iff_iff, decide_eq_true_iff, ← bit_mod]
  omega
theorem fit_all {us : List Nat} {w : Nat} (hw1 : 1 ≤ w) (h : widL us ≤ w) : ∀ j, j < us.length → bitLen (us.getD j 0) ≤ w := fun j hj => Nat.le_trans (widT_mono us us.length j hj) h
theorem fit_not {us : List Nat} {w : Nat} (hw1 : 1 ≤ w) (h : ¬ widL us ≤ w) : ∃ j, j < us.length ∧ w < bitLen (us.getD j 0) := by
  rcases widT_is us us.length with e | ⟨j, h1, h2⟩
  · unfold widL at h; omega
  · exact ⟨j, h1, by unfold widL at h; omega⟩
theorem ref03_bits_o (us : List Nat) (hu : ∀ u ∈ us, u < 2 ^ 64) (w : Nat) (hw : w ≤ 64) (i : Nat) (hi : i < us.length) (hi2 : us.length < 1000000000) (B : List Bool) (hB : B.length + w ≤ 1048576) (a b c : Int) (K0 : Int → List Int → Nat → Int → Int → Int → Int → List Bool → Option R) : ∀ (N k : Nat), k ≤ w → w - k < N →
    haystackref03_Make_l11_L K0 N (w : Int) (ci us) (B.length + k) (i : Int) (k : Int) a b c (B ++ lowB (us.getD i 0) k) = K0 (w : Int) (ci us) (B.length + w) (i : Int) a b c (B ++ lowB (us.getD i 0) w)
  | 0, _, _, h => by omega
  | N + 1, k, h1, h2 => by
    simp only [haystackref03_Make_l11_L, haystackref03_Make_l11_T]
    by_cases h : k < w
    · have hx := getD_lt hu i
      have e : B ++ lowB (us.getD i 0) k ++ [decide (remW (shrW .u64 ((us.getD i 0 : Nat) : Int) (cvtW .u64 (k : Int))) 2 = 1)] = B ++ lowB (us.getD i 0) (k + 1) := by
        rw [ref_bit _ _ hx (by omega), lowB_succ, List.append_assoc]
      rw [sel_pos (by omega), sel_pos (by omega), ci_length, sel_pos (by omega), Int.toNat_natCast, ci_getD, sel_pos (by rw [cvtW_u64 (by omega) (by omega)]; omega), letV_eq, sel_pos (by rw [List.length_append, lowB_length]), sel_pos (by omega), letV_eq, e, addW_i64 (by omega) (by omega), show (k : Int) + 1 = ((k + 1 : Nat) : Int) by omega, show B.length + k + 1 = B.length + (k + 1) by omega]
      exact ref03_bits_o us hu w hw i hi hi2 B hB a b c K0 N (k + 1) (by omega) (by omega)
    · have : k = w := by omega
      subst this
      rw [sel_neg (by omega)]
open Classical in
theorem ref03_all_o (us : List Nat) (hu : ∀ u ∈ us, u < 2 ^ 64) (w : Nat) (hw : w ≤ 64) (hm : us.length * w ≤ 1048576) (hl : us.length < 1000000000) (a b c : Int) (K0 : Int → Int → Int → Int → Option R) (K1 : Int → List Int → Nat → Int → Int → Int → List Bool → Option R) : ∀ (N i : Nat), i ≤ us.length → us.length - i < N →
    haystackref03_Make_l6_L K0 K1 N (w : Int) (ci us) (i * w) (i : Int) a b c (catI w (us.take i)) = if ∀ j, i ≤ j → j < us.length → bitLen (us.getD j 0) ≤ w then K1 (w : Int) (ci us) (us.length * w) a b c (catI w us) else K0 2 0 0 0
  | 0, _, _, h => by omega
  | N + 1, i, h1, h2 => by
    simp only [haystackref03_Make_l6_L, haystackref03_Make_l6_T]
    by_cases h : i < us.length
    · have hi : (i + 1) * w ≤ us.length * w := Nat.mul_le_mul_right _ (by omega)
      have e1 : (i + 1) * w = i * w + w := by rw [Nat.add_mul]; omega
      have hc : (catI w (us.take i)).length = i * w := by rw [catI_length, List.length_take, Nat.min_eq_left (by omega)]
      rw [sel_pos (by rw [ci_length]; omega), sel_pos (by omega), sel_pos (by rw [ci_length]; omega), Int.toNat_natCast, ci_getD, haystackref03_fits_spec _ (getD_lt hu i)]
      by_cases h3 : bitLen (us.getD i 0) ≤ w
      · have hb := ref03_bits_o us hu w hw i h hl (catI w (us.take i)) (by omega) a b c
          (fun vc vd ve vf vg vh vi vj => haystackref03_Make_l6_L K0 K1 N vc vd ve (addW .i64 vf 1) vg vh vi vj) NR 0 (by omega) (by have := NR_lt; omega)
        have e0 : catI w (us.take i) ++ lowB (us.getD i 0) 0 = catI w (us.take i) := by simp [lowB]
        rw [hc, e0, ← catI_take us w h, Nat.add_zero, ← e1] at hb
        rw [decide_eq_true (by omega), Bool.not_true, Ev.sel_false, haystackref03_Make_l11_unf]; unfold haystackref03_Make_l11_B
        refine (show _ = _ from hb).trans ?_
        rw [addW_i64 (by omega) (by omega), show (i : Int) + 1 = ((i + 1 : Nat) : Int) by omega, ref03_all_o us hu w hw hm hl a b c K0 K1 N (i + 1) (by omega) (by omega)]
        by_cases h4 : ∀ j, i + 1 ≤ j → j < us.length → bitLen (us.getD j 0) ≤ w
        · have h5 : ∀ j, i ≤ j → j < us.length → bitLen (us.getD j 0) ≤ w := fun j hj1 hj2 => by
            by_cases hj : j = i
            · subst hj; exact h3
            · exact h4 j (by omega) hj2
          rw [if_pos h4, if_pos h5]
        · rw [if_neg h4, if_neg (fun h5 => h4 fun j hj1 hj2 => h5 j (by omega) hj2)]
      · rw [decide_eq_false (by omega), Bool.not_false, Ev.sel_true, if_neg (fun h5 => h3 (h5 i (Nat.le_refl _) h))]
    · have : i = us.length := by omega
      subst this
      rw [sel_neg (by rw [ci_length]; omega), List.take_length, if_pos (fun j hj1 hj2 => by omega)]
theorem ref03_Make_j4_spec (us : List Nat) (hu : ∀ u ∈ us, u < 2 ^ 64) (w : Nat) (hw : w ≤ 64) (hw1 : 1 ≤ w) (hm : us.length * w ≤ 1048576) (a b c : Int) (K0 : Int → Int → Int → Int → Option R) (K1 : Int → Int → Int → Int → List Int → Option R) :
    haystackref03_Make_j4 (w : Int) (ci us) a b c K0 K1 = if widL us ≤ w then K1 0 (us.length : Int) (w : Int) ((us.length * w : Nat) : Int) (ci (wds (catI w us))) else K0 2 0 0 0 := by
  have hle : us.length ≤ us.length * w := Nat.le_mul_of_pos_right _ hw1
  rw [haystackref03_Make_j4_unf]; unfold haystackref03_Make_j4_B
  rw [haystackref03_Make_l6_unf]; unfold haystackref03_Make_l6_B
  have hb := fun K0 K1 => ref03_all_o (R := R) us hu w hw hm (by omega) a b c K0 K1 NR 0 (by omega) (by have := NR_lt; omega)
  rw [Nat.zero_mul, List.take_zero] at hb
  refine (show _ = _ from hb _ _).trans ?_
  by_cases hA : widL us ≤ w
  · rw [if_pos hA, if_pos (fun j _ hj => fit_all hw1 hA j hj), sel_pos (by rw [catI_length]), sel_pos (by rw [catI_length]), haystackref02_From_spec _ (by rw [catI_length]; omega)]
    rw [catI_length, ci_length]
  · obtain ⟨j, hj, hf⟩ := fit_not hw1 hA
    rw [if_neg hA, if_neg (fun h => by have := h j (Nat.zero_le _) hj; omega)]
theorem haystackref03_Make_spec (w : Int) (us : List Nat) (hu : ∀ u ∈ us, u < 2 ^ 64) (hl : us.length < 1000000000) (K : Int → Int → Int → List Int → Int → Option R) :
    haystackref03_Make w (ci us) K = K (makeI w us).1 (makeI w us).2.1 (makeI w us).2.2.1 (ci (makeI w us).2.2.2.1) (makeI w us).2.2.2.2 := by
  have bad : ∀ (K0 : Int → Int → Int → Int → Option R) (K1 : Int → List Int → Int → Int → Int → Option R), haystackref03_Make_j3 w (ci us) true 0 0 0 K0 K1 = K0 2 0 0 0 := fun K0 K1 => by
    rw [haystackref03_Make_j3_unf]; unfold haystackref03_Make_j3_B; rfl
  rw [haystackref03_Make_unf]; unfold haystackref03_Make_B
  by_cases h1 : w < 1
  · rw [sel_pos h1, bad, makeI_no (by omega)]; rfl
  by_cases h2 : 64 < w
  · rw [sel_neg h1, sel_pos h2, bad, makeI_no (by omega)]; rfl
  obtain ⟨v, rfl⟩ : ∃ v : Nat, w = (v : Int) := ⟨w.toNat, by omega⟩
  have hle : us.length ≤ us.length * v := Nat.le_mul_of_pos_right _ (by omega)
  rw [sel_neg h1, sel_neg h2, ci_length]
  by_cases h3 : 1048576 < us.length
  · rw [sel_pos (by omega), bad, makeI_no (by rw [← Int.natCast_mul]; omega)]; rfl
  have hm : us.length * v ≤ 1048576 * 64 := Nat.mul_le_mul (by omega) (by omega)
  rw [sel_neg (by omega), mulW_i64 (by rw [← Int.natCast_mul]; omega) (by rw [← Int.natCast_mul]; omega)]
  by_cases h4 : us.length * v ≤ 1048576
  · rw [decide_eq_false (by rw [← Int.natCast_mul]; omega), haystackref03_Make_j3_unf]; unfold haystackref03_Make_j3_B
    rw [Ev.sel_false]
    dsimp only
    rw [ref03_Make_j4_spec us hu v (by omega) (by omega) h4]
    by_cases h5 : widL us ≤ v
    · rw [if_pos h5, makeI_yes (by omega) (by omega) h4 h5]
    · rw [if_neg h5, makeI_no (by omega)]; rfl
  · rw [decide_eq_true (by rw [← Int.natCast_mul]; omega), bad, makeI_no (by rw [← Int.natCast_mul]; omega)]; rfl
theorem haystackref03_Get_spec (N w n : Int) (ws : List Nat) (hw : Ws ws) (i : Int) (K : Int → Int → Option R) : haystackref03_Get N w n (ci ws) i K = K (getI N w n ws i).1 (getI N w n ws i).2 := by
  rw [haystackref03_Get_unf]; unfold haystackref03_Get_B getI
  rw [haystackref03_Check_spec N w n ws hw]
  cases hok : okI N w n ws with
  | false => rfl
  | true =>
    rw [Bool.not_true, Ev.sel_false, if_pos rfl]
    by_cases h1 : i < 0
    · rw [sel_pos h1, if_pos (.inl h1)]
    by_cases h2 : N ≤ i
    · rw [sel_neg h1, sel_pos h2, if_pos (.inr h2)]
    rw [sel_neg h1, sel_neg h2, if_neg (by omega)]
    obtain ⟨a, b, l, rfl, rfl, rfl, rfl, hl, f6, f7, f8, f9⟩ := okI_is hok hw.1
    obtain ⟨k, rfl⟩ : ∃ k : Nat, i = (k : Int) := ⟨i.toNat, by omega⟩
    have hk : k < a := by omega
    have hm : k * b ≤ a * b := Nat.mul_le_mul_right _ (by omega)
    obtain ⟨_, g2, _⟩ := okI_Ws hok hw rfl rfl
    rw [haystackref03_Get_j6_unf]; unfold haystackref03_Get_j6_B
    rw [mulW_i64 (by rw [← Int.natCast_mul]; omega) (by rw [← Int.natCast_mul]; omega), ← Int.natCast_mul, haystackref02_Slice_spec _ _ hw _ _, slice_num rfl g2 f6 f7 hk, Int.toNat_natCast, Int.toNat_natCast]
theorem getI_yes {N w n : Int} {ws : List Nat} (hok : okI N w n ws = true) {i : Nat} (hi : (i : Int) < N) : getI N w n ws (i : Int) = (((sliceN ws (i * w.toNat) w.toNat : Nat) : Int), 0) := by
  unfold getI
  rw [if_pos hok, if_neg (by omega), Int.toNat_natCast]
theorem ref03_List_loop (a b : Nat) (n : Int) (ws : List Nat) (hw : Ws ws) (hok : okI (a : Int) (b : Int) n ws = true) (ha : a ≤ 1048576) (K0 : Nat → List Int → Option R) : ∀ (N i : Nat), i ≤ a → a - i < N →
    haystackref03_List_l4_L K0 N i (i : Int) (a : Int) (b : Int) n (ci ws) (ci (numW ws b i)) = K0 a (ci (numW ws b a))
  | 0, _, _, h => by omega
  | N + 1, i, g1, g2 => by
    simp only [haystackref03_List_l4_L, haystackref03_List_l4_T]
    by_cases h : i < a
    · rw [sel_pos (by omega), haystackref03_Check_spec _ _ _ _ hw, hok, Ev.sel_true, haystackref03_List_j6_unf]; unfold haystackref03_List_j6_B
      have e : ci (numW ws b i) ++ [((sliceN ws (i * b) b : Nat) : Int)] = ci (numW ws b (i + 1)) := by rw [numW_succ, ← ci_append]; rfl
      rw [haystackref03_Get_spec _ _ _ _ hw, getI_yes hok (by omega), Int.toNat_natCast]
      dsimp only
      rw [sel_pos (by rw [ci_length, numW_length]), sel_pos (by omega), letV_eq, addW_i64 (by omega) (by omega), show (i : Int) + 1 = ((i + 1 : Nat) : Int) by omega, e]
      exact ref03_List_loop a b n ws hw hok ha K0 N (i + 1) (by omega) (by omega)
    · have : i = a := by omega
      subst this
      rw [sel_neg (by omega)]
theorem haystackref03_List_spec (N w n : Int) (ws : List Nat) (hw : Ws ws) (K : List Int → Option R) : haystackref03_List N w n (ci ws) K = K (ci (listI N w n ws)) := by
  obtain ⟨M, hM⟩ : ∃ M, NR = M + 1 := ⟨NR - 1, by have := NR_lt; omega⟩
  rw [haystackref03_List_unf]; unfold haystackref03_List_B listI
  rw [haystackref03_List_l4_unf]; unfold haystackref03_List_l4_B
  cases hok : okI N w n ws with
  | false =>
    rw [hM]
    simp only [haystackref03_List_l4_L, haystackref03_List_l4_T]
    by_cases h0 : 0 < N
    · rw [sel_pos h0, haystackref03_Check_spec N w n ws hw, hok]; rfl
    · rw [sel_neg h0]; rfl
  | true =>
    obtain ⟨a, b, l, rfl, rfl, rfl, rfl, hl, f6, f7, f8, f9⟩ := okI_is hok hw.1
    rw [if_pos rfl, Int.toNat_natCast, Int.toNat_natCast]
    refine (show _ = _ from ref03_List_loop a b _ (wds l) hw hok f8 (fun v4 v5 => sel (decide (v4 = List.length v5)) (K v5) none) NR 0 (by omega) (by have := NR_lt; omega)).trans ?_
    rw [sel_pos (by rw [ci_length, numW_length])]
theorem haystackref03_Same_spec (N w n : Int) (ws : List Int) (N' w' n' : Int) (ws' : List Int) (h : ws.length < 4000000000) (K : Bool → Option R) : haystackref03_Same N w n ws N' w' n' ws' K = K (decide (N = N' ∧ w = w' ∧ n = n' ∧ ws = ws')) := by
  rw [haystackref03_Same_unf]; unfold haystackref03_Same_B
  by_cases h1 : N = N'
  · rw [sel_pos h1]
    by_cases h2 : w = w'
    · rw [sel_pos h2, haystackref02_Same_spec _ _ _ _ h]
      congr 1
      rw [decide_eq_decide]
      exact ⟨fun q => ⟨h1, h2, q.1, q.2⟩, fun q => ⟨q.2.2.1, q.2.2.2⟩⟩
    · rw [sel_neg h2, decide_eq_false (fun q => h2 q.2.1)]
  · rw [sel_neg h1, decide_eq_false (fun q => h1 q.1)]
end
end Go.Proofs.YtdojekdcdoaccaaDoor
