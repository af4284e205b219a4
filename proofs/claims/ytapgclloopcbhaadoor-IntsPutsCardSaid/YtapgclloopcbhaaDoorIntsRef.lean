/- Layer 3: rows of numbers, by the document. -/
import Derived.Test.YtapgclloopcbhaaDoorInts
import Derived.Test.YtapgclloopcbhaaDoorBitsRefC
import Derived.Test.YtapgclloopcbhaaDoorWordRefD
namespace Go.Proofs.YtapgclloopcbhaaDoor
open Go Go.Ev
section
variable {R : Type}
theorem haystackref03_Check_spec (N w n : Int) (ws : List Nat) (hw : Ws ws) (K : Bool → Option R) : haystackref03_Check N w n (ci ws) K = K (okI N w n ws) := by
  rw [haystackref03_Check_unf]; unfold haystackref03_Check_B okI
  by_cases h1 : 1 ≤ w
  · rw [sel_pos h1]
    by_cases h2 : w ≤ 64
    · rw [sel_pos h2]
      by_cases h3 : 0 ≤ N
      · rw [sel_pos h3]
        by_cases h4 : N ≤ 1048576
        · obtain ⟨a, rfl⟩ : ∃ a : Nat, N = (a : Int) := ⟨N.toNat, by omega⟩
          obtain ⟨b, rfl⟩ : ∃ b : Nat, w = (b : Int) := ⟨w.toNat, by omega⟩
          have hm : a * b ≤ 1048576 * 64 := Nat.mul_le_mul (by omega) (by omega)
          rw [sel_pos h4, haystackref02_Check_spec n ws hw, decide_eq_true (show (1 : Int) ≤ (b : Int) ∧ (b : Int) ≤ 64 ∧ (0 : Int) ≤ (a : Int) ∧ (a : Int) ≤ 1048576 from ⟨h1, h2, h3, h4⟩), Bool.true_and, mulW_i64 (by rw [← Int.natCast_mul]; omega) (by rw [← Int.natCast_mul]; omega)]
          cases okRow n ws <;> rfl
        · rw [sel_neg h4, decide_eq_false (by omega)]; rfl
      · rw [sel_neg h3, decide_eq_false (by omega)]; rfl
    · rw [sel_neg h2, decide_eq_false (by omega)]; rfl
  · rw [sel_neg h1, decide_eq_false (by omega)]; rfl
theorem haystackref03_fits_spec (u : Nat) (hu : u < 2 ^ 64) (w : Int) (K : Bool → Option R) : haystackref03_fits (u : Int) w K = K (decide (((bitLen u : Nat) : Int) ≤ w)) := by
  rw [haystackref03_fits_unf]; unfold haystackref03_fits_B
  rw [haystackref01_Len_spec u hu]
theorem lowB_succ (u k : Nat) : lowB u (k + 1) = lowB u k ++ [u.testBit k] := by simp [lowB, List.range_succ]
theorem ref_bit (u k : Nat) (hu : u < 2 ^ 64) (hk : k ≤ 64) : decide (remW (shrW .u64 (u : Int) (cvtW .u64 (k : Int))) 2 = 1) = u.testBit k := by
  rw [cvtW_u64 (by omega) (by omega), shrW_u64 _ _ hu, show (2 : Int) = ((2 : Nat) : Int) from rfl, remW_nat, Bool.eq_iff_iff, decide_eq_true_iff, ← bit_mod]
  omega
/-! ### of a slice that is still one's own -/
theorem ref03_bits_r (us : List Nat) (hu : ∀ u ∈ us, u < 2 ^ 64) (w : Nat) (hw : w ≤ 64) (i : Nat) (hi : i < us.length) (hi2 : us.length < 1000000000) (B : List Bool) (hB : B.length + w ≤ 1048576) (a b c : Int) (K0 : Int → Nat → Nat → Int → List Int → Int → Int → Int → List Bool → Option R) : ∀ (N k : Nat), k ≤ w → w - k < N →
    haystackref03_Make_l11_1_L K0 N (w : Int) us.length (B ++ lowB (us.getD i 0) k).length (i : Int) (k : Int) (ci us) a b c (B ++ lowB (us.getD i 0) k) = K0 (w : Int) us.length (B ++ lowB (us.getD i 0) w).length (i : Int) (ci us) a b c (B ++ lowB (us.getD i 0) w)
  | 0, _, _, h => by omega
  | N + 1, k, h1, h2 => by
    simp only [haystackref03_Make_l11_1_L, haystackref03_Make_l11_1_T]
    by_cases h : k < w
    · have hl : (B ++ lowB (us.getD i 0) k).length = B.length + k := by rw [List.length_append, lowB_length]
      have ih := ref03_bits_r us hu w hw i hi hi2 B hB a b c K0 N (k + 1) (by omega) (by omega)
      rw [lowB_succ, ← List.append_assoc, List.length_append (bs := [_])] at ih
      rw [ci_length, sel_pos (by omega), sel_pos (by omega), sel_pos (by omega), sel_pos (by omega), Int.toNat_natCast, ci_getD, ref_bit _ _ (getD_lt hu i) (by omega), sel_pos (by rw [cvtW_u64 (by omega) (by omega)]; omega), letV_eq, letV_eq, sel_pos (by first | rfl | trivial), sel_pos (by first | rfl | trivial), sel_pos (by omega), letV_eq, addW_i64 (by omega) (by omega), show (k : Int) + 1 = ((k + 1 : Nat) : Int) by omega]
      exact ih
    · have : k = w := by omega
      subst this
      rw [sel_neg (by omega)]
theorem ref03_first_r (us : List Nat) (hu : ∀ u ∈ us, u < 2 ^ 64) (w : Nat) (hw : w ≤ 64) (hw1 : 1 ≤ w) (i : Nat) (hi : i < us.length) (hi2 : us.length < 1000000000) (a b c : Int) (K0 : Int → Nat → Nat → Int → List Int → Int → Int → Int → List Bool → Option R) (K1 : Int → Nat → Int → List Int → Int → Int → Int → Option R) :
    haystackref03_Make_l11_L K0 K1 NR (w : Int) us.length (i : Int) 0 (ci us) a b c = K0 (w : Int) us.length (lowB (us.getD i 0) w).length (i : Int) (ci us) a b c (lowB (us.getD i 0) w) := by
  obtain ⟨N, hN⟩ : ∃ N, NR = N + 1 := ⟨NR - 1, by have := NR_lt; omega⟩
  have hN2 : 64 < N := by have := NR_lt; omega
  rw [hN]
  simp only [haystackref03_Make_l11_L, haystackref03_Make_l11_T]
  have ih := ref03_bits_r us hu w hw i hi hi2 [] (by simp; omega) a b c K0 N 1 hw1 (by omega)
  have e1 : lowB (us.getD i 0) 1 = [(us.getD i 0).testBit 0] := by simp [lowB, List.range_succ]
  rw [List.nil_append, List.nil_append, e1] at ih
  have hb := ref_bit (us.getD i 0) 0 (getD_lt hu i) (by omega)
  rw [show ((0 : Nat) : Int) = 0 from rfl] at hb
  rw [ci_length, sel_pos (by omega), sel_pos (by omega), sel_pos (by omega), sel_pos (by omega), Int.toNat_natCast, ci_getD, hb, sel_pos (by rw [cvtW_u64 (by omega) (by omega)]; omega), letV_eq, letV_eq, sel_pos (by first | rfl | trivial), addW_i64 (by omega) (by omega)]
  exact ih
/-- all of them fit -/
theorem ref03_all_r (us : List Nat) (hu : ∀ u ∈ us, u < 2 ^ 64) (w : Nat) (hw : w ≤ 64) (hw1 : 1 ≤ w) (hm : us.length * w ≤ 1048576) (hf : ∀ j, j < us.length → bitLen (us.getD j 0) ≤ w) (a b c : Int) (K0 : Int → List Int → Int → Int → Int → Option R) (K1 : Int → Nat → Nat → List Int → Int → Int → Int → List Bool → Option R) : ∀ (N i : Nat), i ≤ us.length → us.length - i < N →
    haystackref03_Make_l6_1_L K0 K1 N (w : Int) us.length (catI w (us.take i)).length (i : Int) (ci us) a b c (catI w (us.take i)) = K1 (w : Int) us.length (catI w us).length (ci us) a b c (catI w us)
  | 0, _, _, h => by omega
  | N + 1, i, h1, h2 => by
    have hle : us.length ≤ us.length * w := Nat.le_mul_of_pos_right _ hw1
    simp only [haystackref03_Make_l6_1_L, haystackref03_Make_l6_1_T]
    by_cases h : i < us.length
    · have hB : (catI w (us.take i)).length + w ≤ 1048576 := by
        rw [catI_length, List.length_take, Nat.min_eq_left (by omega)]
        have : (i + 1) * w ≤ us.length * w := Nat.mul_le_mul_right _ (by omega)
        rw [Nat.add_mul] at this; omega
      have hb := ref03_bits_r us hu w hw i h (by omega) (catI w (us.take i)) hB a b c (fun n976 l977 l978 n979 xs980 n981 n982 n983 bs984 => haystackref03_Make_l6_1_L K0 K1 N n976 l977 l978 (addW .i64 n979 1) xs980 n981 n982 n983 bs984) NR 0 (by omega) (by have := NR_lt; omega)
      rw [show lowB (us.getD i 0) 0 = [] from rfl, List.append_nil, ← catI_take us w h] at hb
      have hfi := hf i h
      rw [ci_length, sel_pos (by omega), sel_pos (by omega), sel_pos (by omega), sel_pos (by omega), Int.toNat_natCast, ci_getD, haystackref03_fits_spec _ (getD_lt hu i), decide_eq_true (by omega), Bool.not_true, Ev.sel_false, haystackref03_Make_l11_1_unf]; unfold haystackref03_Make_l11_1_B
      refine Eq.trans (by exact hb) ?_
      rw [addW_i64 (by omega) (by omega), show (i : Int) + 1 = ((i + 1 : Nat) : Int) by omega]
      exact ref03_all_r us hu w hw hw1 hm hf a b c K0 K1 N (i + 1) (by omega) (by omega)
    · have : i = us.length := by omega
      subst this
      rw [sel_neg (by omega), List.take_length]
theorem ref03_not_r (us : List Nat) (hu : ∀ u ∈ us, u < 2 ^ 64) (w : Nat) (hw : w ≤ 64) (hw1 : 1 ≤ w) (hm : us.length * w ≤ 1048576) (j : Nat) (hj : j < us.length) (hf : w < bitLen (us.getD j 0)) (a b c : Int) (K0 : Int → List Int → Int → Int → Int → Option R) (K1 : Int → Nat → Nat → List Int → Int → Int → Int → List Bool → Option R) : ∀ (N i : Nat), i ≤ j → us.length - i < N →
    haystackref03_Make_l6_1_L K0 K1 N (w : Int) us.length (catI w (us.take i)).length (i : Int) (ci us) a b c (catI w (us.take i)) = K0 2 (ci us) 0 0 0
  | 0, _, _, h => by omega
  | N + 1, i, h1, h2 => by
    have hle : us.length ≤ us.length * w := Nat.le_mul_of_pos_right _ hw1
    have h : i < us.length := by omega
    simp only [haystackref03_Make_l6_1_L, haystackref03_Make_l6_1_T]
    have hB : (catI w (us.take i)).length + w ≤ 1048576 := by
      rw [catI_length, List.length_take, Nat.min_eq_left (by omega)]
      have : (i + 1) * w ≤ us.length * w := Nat.mul_le_mul_right _ (by omega)
      rw [Nat.add_mul] at this; omega
    have hb := ref03_bits_r us hu w hw i h (by omega) (catI w (us.take i)) hB a b c (fun n976 l977 l978 n979 xs980 n981 n982 n983 bs984 => haystackref03_Make_l6_1_L K0 K1 N n976 l977 l978 (addW .i64 n979 1) xs980 n981 n982 n983 bs984) NR 0 (by omega) (by have := NR_lt; omega)
    rw [show lowB (us.getD i 0) 0 = [] from rfl, List.append_nil, ← catI_take us w h] at hb
    rw [ci_length, sel_pos (by omega), sel_pos (by omega), sel_pos (by omega), sel_pos (by omega), Int.toNat_natCast, ci_getD, haystackref03_fits_spec _ (getD_lt hu i)]
    by_cases hfi : bitLen (us.getD i 0) ≤ w
    · rw [decide_eq_true (by omega), Bool.not_true, Ev.sel_false, haystackref03_Make_l11_1_unf]; unfold haystackref03_Make_l11_1_B
      refine Eq.trans (by exact hb) ?_
      have : i ≠ j := fun e => by subst e; omega
      rw [addW_i64 (by omega) (by omega), show (i : Int) + 1 = ((i + 1 : Nat) : Int) by omega]
      exact ref03_not_r us hu w hw hw1 hm j hj hf a b c K0 K1 N (i + 1) (by omega) (by omega)
    · rw [decide_eq_false (by omega), Bool.not_false, Ev.sel_true]
theorem fit_all {us : List Nat} {w : Nat} (hw1 : 1 ≤ w) (h : widL us ≤ w) : ∀ j, j < us.length → bitLen (us.getD j 0) ≤ w := fun j hj => Nat.le_trans (widT_mono us us.length j hj) h
theorem fit_not {us : List Nat} {w : Nat} (hw1 : 1 ≤ w) (h : ¬ widL us ≤ w) : ∃ j, j < us.length ∧ w < bitLen (us.getD j 0) := by
  rcases widT_is us us.length with e | ⟨j, h1, h2⟩
  · unfold widL at h; omega
  · exact ⟨j, h1, by unfold widL at h; omega⟩
theorem ref03_Make_j4_spec (us : List Nat) (hu : ∀ u ∈ us, u < 2 ^ 64) (w : Nat) (hw : w ≤ 64) (hw1 : 1 ≤ w) (hm : us.length * w ≤ 1048576) (h0 : us ≠ []) (a b c : Int) (K0 : Int → List Int → Int → Int → Int → Option R) (K1 : Int → List Int → Int → Int → Int → Nat → List Int → Option R) (K2 : Int → List Int → Int → Int → Int → List Int → Option R) :
    haystackref03_Make_j4 (w : Int) us.length (ci us) a b c K0 K1 K2 = if widL us ≤ w then K1 0 (ci us) (us.length : Int) (w : Int) ((us.length * w : Nat) : Int) ((us.length * w + 63) / 64) (ci (wds (catI w us))) else K0 2 (ci us) 0 0 0 := by
  have hle : us.length ≤ us.length * w := Nat.le_mul_of_pos_right _ hw1
  have hp : 0 < us.length := List.length_pos_iff.2 h0
  obtain ⟨N, hN⟩ : ∃ N, NR = N + 1 := ⟨NR - 1, by have := NR_lt; omega⟩
  have hN2 : 4000000000 ≤ N := by have := NR_lt; omega
  have ec : catI w (us.take 1) = lowB (us.getD 0 0) w := by
    have := catI_take us w (i := 0) hp
    rwa [List.take_zero, show catI w [] = [] from rfl, List.nil_append] at this
  rw [haystackref03_Make_j4_unf]; unfold haystackref03_Make_j4_B
  rw [haystackref03_Make_l6_unf]; unfold haystackref03_Make_l6_B
  rw [hN]
  simp only [haystackref03_Make_l6_L, haystackref03_Make_l6_T]
  rw [ci_length, sel_pos (by omega), sel_pos (by omega), sel_pos (by omega), sel_pos (by omega), show Int.toNat 0 = 0 from rfl, ci_getD, haystackref03_fits_spec _ (getD_lt hu 0)]
  by_cases hfit : bitLen (us.getD 0 0) ≤ w
  · rw [decide_eq_true (by omega), Bool.not_true, Ev.sel_false, haystackref03_Make_l11_unf]; unfold haystackref03_Make_l11_B
    have hb := fun K0 K1 => ref03_first_r us hu w hw hw1 0 hp (by omega) a b c (R := R) K0 K1
    rw [show ((0 : Nat) : Int) = 0 from rfl] at hb
    rw [hb, addW_i64 (by omega) (by omega), show (0 : Int) + 1 = ((1 : Nat) : Int) from rfl, ← ec]
    by_cases hA : widL us ≤ w
    · rw [if_pos hA, ref03_all_r us hu w hw hw1 hm (fit_all hw1 hA) a b c _ _ N 1 (by omega) (by omega), haystackref02_From_r_spec _ (by rw [catI_length]; omega)]
      rw [catI_length]
    · obtain ⟨j, hj, hf⟩ := fit_not hw1 hA
      have : j ≠ 0 := fun e => by subst e; omega
      rw [if_neg hA, ref03_not_r us hu w hw hw1 hm j hj hf a b c _ _ N 1 (by omega) (by omega)]
  · have hA : ¬ widL us ≤ w := fun h => hfit (fit_all hw1 h 0 hp)
    rw [decide_eq_false (by omega), Bool.not_false, Ev.sel_true, if_neg hA]
theorem haystackref03_Make_r_spec (w : Nat) (us : List Nat) (hu : ∀ u ∈ us, u < 2 ^ 64) (hw : w ≤ 64) (hw1 : 1 ≤ w) (hm : us.length * w ≤ 1048576) (h0 : us ≠ []) (l : Nat) (he : l = us.length) (K0 : Int → Int → Int → Int → List Int → Option R) (K1 : Int → Int → Int → Nat → Int → List Int → List Int → Option R) (K2 : Int → Int → Int → List Int → Int → List Int → Option R) :
    haystackref03_Make_r (w : Int) l (ci us) K0 K1 K2 = if widL us ≤ w then K1 (us.length : Int) (w : Int) ((us.length * w : Nat) : Int) ((us.length * w + 63) / 64) 0 (ci us) (ci (wds (catI w us))) else K0 0 0 0 2 (ci us) := by
  subst he
  have hle : us.length ≤ us.length * w := Nat.le_mul_of_pos_right _ hw1
  rw [haystackref03_Make_r_unf]; unfold haystackref03_Make_r_B
  rw [sel_neg (by omega), sel_neg (by omega), sel_neg (by omega), mulW_i64 (by rw [← Int.natCast_mul]; omega) (by rw [← Int.natCast_mul]; omega), decide_eq_false (by rw [← Int.natCast_mul]; omega), haystackref03_Make_j3_unf]; unfold haystackref03_Make_j3_B
  rw [Ev.sel_false]
  dsimp only
  rw [ref03_Make_j4_spec us hu w hw hw1 hm h0]
end
end Go.Proofs.YtapgclloopcbhaaDoor
