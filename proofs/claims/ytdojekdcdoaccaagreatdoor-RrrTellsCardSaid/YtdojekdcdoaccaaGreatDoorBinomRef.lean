/- Layer 6: the document's ways, places and words. -/
import Derived.Test.YtdojekdcdoaccaaGreatDoorBinom
import Derived.Test.YtdojekdcdoaccaaGreatDoorWordRefB
import Derived.Test.YtdojekdcdoaccaaGreatDoorWordRefD
namespace Go.Proofs.YtdojekdcdoaccaaGreatDoor
open Go Go.Ev
section
variable {R : Type}
theorem ref06_inner (n : Nat) (k : Int) (i : Nat) (hi : i + 1 ≤ n) (hn : n ≤ 62) (K : Int → Int → Nat → Int → List Int → Option R) : ∀ (N j : Nat), j ≤ i + 1 → j < N → haystackref06_Choose_l10_L K N (n : Int) k (n + 1) ((i + 1 : Nat) : Int) (j : Int) (tab (mixR i j) (n + 1)) = K (n : Int) k (n + 1) ((i + 1 : Nat) : Int) (tab (ch (i + 1)) (n + 1))
  | 0, _, _, h => by omega
  | N + 1, j, h1, h2 => by
    simp only [haystackref06_Choose_l10_L, haystackref06_Choose_l10_T]
    cases j with
    | zero => rw [sel_neg (by omega), mixR_last]
    | succ j =>
      have e0 : subW .i64 ((j + 1 : Nat) : Int) 1 = (j : Int) := by rw [subW_i64 (by omega) (by omega)]; omega
      have a1 := ch_lt (n := i + 1) (k := j + 1) (by omega)
      have e1 : mixR i (j + 1) (j + 1) + mixR i (j + 1) j = ch (i + 1) (j + 1) := by
        unfold mixR
        rw [if_neg (by omega), if_neg (by omega), ch]; omega
      have ea : addW .u64 ((tab (mixR i (j + 1)) (n + 1)).getD (Int.toNat ((j + 1 : Nat) : Int)) 0) ((tab (mixR i (j + 1)) (n + 1)).getD (Int.toNat (j : Int)) 0) = ((mixR i (j + 1) (j + 1) + mixR i (j + 1) j : Nat) : Int) := by
        rw [Int.toNat_natCast, Int.toNat_natCast, tab_get _ (by omega), tab_get _ (by omega), addW_u64 (by omega) (by omega)]; omega
      rw [tab_length, e0, ea, sel_pos (by omega), sel_pos (by omega), sel_pos (by omega), sel_pos (by omega), sel_pos (by omega), sel_pos (by omega), sel_pos (by omega), sel_pos (by omega), sel_pos (by omega), sel_pos (by omega), letV_eq, Int.toNat_natCast, mixR_step i j (n + 1) (by omega)]
      exact ref06_inner n k i hi hn K N j (by omega) (by omega)
theorem ref06_outer (n : Nat) (k : Int) (hn : n ≤ 62) (K : Int → Nat → List Int → Option R) : ∀ (N i : Nat), i ≤ n → n - i < N → haystackref06_Choose_l7_L K N (n : Int) k (n + 1) ((i + 1 : Nat) : Int) (tab (ch i) (n + 1)) = K k (n + 1) (tab (ch n) (n + 1))
  | 0, _, _, h => by omega
  | N + 1, i, h1, h2 => by
    simp only [haystackref06_Choose_l7_L, haystackref06_Choose_l7_T]
    by_cases h : i < n
    · rw [sel_pos (by omega), haystackref06_Choose_l10_unf, ← mixR_first i (n + 1)]; unfold haystackref06_Choose_l10_B
      refine (ref06_inner n k i (by omega) hn _ NR (i + 1) (Nat.le_refl _) (by have := NR_lt; omega)).trans ?_
      rw [addW_i64 (by omega) (by omega), show ((i + 1 : Nat) : Int) + 1 = ((i + 1 + 1 : Nat) : Int) by omega]
      exact ref06_outer n k hn K N (i + 1) (by omega) (by omega)
    · have : i = n := by omega
      subst this
      rw [sel_neg (by omega)]
theorem tab_one (n : Nat) : (List.replicate (n + 1) (0 : Int)).set 0 1 = tab (ch 0) (n + 1) := by
  apply List.ext_getElem?
  intro j
  rw [List.getElem?_set, tab_at, List.getElem?_replicate, List.length_replicate]
  cases j with
  | zero => rw [if_pos rfl, if_pos (by omega), if_pos (by omega)]; rfl
  | succ j =>
    rw [if_neg (by omega), ch_more 0 (j + 1) (by omega)]; rfl
theorem haystackref06_Choose_spec (n k : Int) (K : Int → Option R) : haystackref06_Choose n k K = K ((chI n k : Nat) : Int) := by
  rw [haystackref06_Choose_unf]; unfold haystackref06_Choose_B chI
  by_cases h1 : n < 0
  · rw [sel_pos h1, if_neg (by omega)]; rfl
  by_cases h2 : 62 < n
  · rw [sel_neg h1, sel_pos h2, if_neg (by omega)]; rfl
  by_cases h3 : k < 0
  · rw [sel_neg h1, sel_neg h2, sel_pos h3, if_neg (by omega)]; rfl
  by_cases h4 : n < k
  · rw [sel_neg h1, sel_neg h2, sel_neg h3, sel_pos h4, if_neg (by omega)]; rfl
  obtain ⟨a, rfl⟩ : ∃ a : Nat, n = (a : Int) := ⟨n.toNat, by omega⟩
  obtain ⟨b, rfl⟩ : ∃ b : Nat, k = (b : Int) := ⟨k.toNat, by omega⟩
  rw [sel_neg h1, sel_neg h2, sel_neg h3, sel_neg h4, if_pos ⟨by omega, by omega, by omega, by omega⟩, haystackref06_Choose_j4_unf]; unfold haystackref06_Choose_j4_B
  have e1 : addW .i64 (a : Int) 1 = ((a + 1 : Nat) : Int) := by rw [addW_i64 (by omega) (by omega)]; omega
  rw [e1, sel_pos (by omega), sel_pos (by omega), sel_pos (by omega), sel_pos (by omega), letV_eq, Int.toNat_natCast, sel_pos (by omega), sel_pos (by rw [List.length_replicate]; omega), letV_eq, tab_one, haystackref06_Choose_l7_unf]; unfold haystackref06_Choose_l7_B
  refine (ref06_outer a (b : Int) (by omega) _ NR 0 (by omega) (by have := NR_lt; omega)).trans ?_
  rw [tab_length, Int.toNat_natCast, Int.toNat_natCast, sel_pos (by omega), sel_pos (by omega), sel_pos (by omega), tab_get _ (by omega)]
theorem ref06_Offset_loop (x : Nat) (hx : x < 2 ^ 64) (n : Nat) (hn : n ≤ 62) (c : Int) (K0 : Int → Int → Option R) : ∀ (N m o : Nat), m ≤ n → m < N → o + offN x m ≤ 4611686018427387904 → haystackref06_Offset_l8_L K0 N (x : Int) c (o : Int) ((pc x m : Nat) : Int) ((m : Int) - 1) = K0 c ((o + offN x m : Nat) : Int)
  | 0, _, _, _, h, _ => by omega
  | N + 1, m, o, h1, h2, h3 => by
    simp only [haystackref06_Offset_l8_L, haystackref06_Offset_l8_T]
    cases m with
    | zero => rw [sel_neg (by omega)]; rfl
    | succ m =>
      have e0 : ((m + 1 : Nat) : Int) - 1 = (m : Int) := by omega
      have e1 : subW .i64 (m : Int) 1 = (m : Int) - 1 := subW_i64 (by omega) (by omega)
      have hb := bit_mod x m
      have hs := pc_succ x m
      have hl := pc_le x m
      rw [e0, sel_pos (by omega), cvtW_u64 (by omega) (by omega), sel_pos (by omega), shrW_u64 _ _ hx, show (2 : Int) = ((2 : Nat) : Int) from rfl, remW_nat, e1]
      by_cases hbit : x.testBit m = true
      · have g := hb.2 hbit
        have eo : offN x (m + 1) = offN x m + ch m (pc x (m + 1)) := by simp only [offN]; rw [if_pos hbit]
        rw [if_pos hbit] at hs
        have hcl := ch_lt (n := m) (k := pc x (m + 1)) (by omega)
        have ih := ref06_Offset_loop x hx n hn c K0 N m (o + ch m (pc x (m + 1))) (by omega) (by omega) (by omega)
        rw [sel_pos (by omega), haystackref06_Choose_spec, chI_nat' m _ (by omega), addW_u64 (by omega) (by omega), subW_i64 (by omega) (by omega), show ((pc x (m + 1) : Nat) : Int) - 1 = ((pc x m : Nat) : Int) by omega, ← Int.natCast_add, ih, eo]
        congr 2; omega
      · have g : ¬ x / 2 ^ m % 2 = 1 := fun k => hbit (hb.1 k)
        have eo : offN x (m + 1) = offN x m := by simp only [offN]; rw [if_neg hbit]; rfl
        rw [if_neg hbit] at hs
        replace hs : pc x (m + 1) = pc x m := by omega
        rw [sel_neg (by omega), hs, ref06_Offset_loop x hx n hn c K0 N m o (by omega) (by omega) (by omega), eo]
theorem haystackref06_Offset_spec (x : Nat) (hx : x < 2 ^ 64) (n : Nat) (hn : n ≤ 62) (K : Int → Int → Option R) : haystackref06_Offset (x : Int) (n : Int) K = K ((pc x n : Nat) : Int) ((offN x n : Nat) : Int) := by
  rw [haystackref06_Offset_unf]; unfold haystackref06_Offset_B
  have hlt := offN_lt x n
  have hcl := ch_lt (n := n) (k := pc x n) hn
  have er : rankN x (n : Int) = pc x n := by unfold rankN; congr 1; omega
  rw [sel_neg (by omega), sel_neg (by omega), haystackref06_Offset_j4_unf]; unfold haystackref06_Offset_j4_B
  rw [haystackref01_Rank_spec x hx _ (by omega), er, subW_i64 (by omega) (by omega), haystackref06_Offset_l8_unf]; unfold haystackref06_Offset_l8_B
  refine (ref06_Offset_loop x hx n hn _ _ NR n 0 (Nat.le_refl _) (by have := NR_lt; omega) (by omega)).trans ?_
  rw [Nat.zero_add]
theorem haystackref06_Offset_none (x n : Int) (h : n < 0 ∨ 62 < n) (K : Int → Int → Option R) : haystackref06_Offset x n K = K 0 0 := by
  rw [haystackref06_Offset_unf]; unfold haystackref06_Offset_B
  by_cases h1 : n < 0
  · rw [sel_pos h1]
  · rw [sel_neg h1, sel_pos (by omega)]
theorem ref06_Block_loop (n : Nat) (hn : n ≤ 62) (K0 : Int → Option R) : ∀ (N m k off x : Nat), m ≤ n → m < N → k ≤ 62 → off < 2 ^ 64 → x % 2 ^ m = 0 → x + 2 ^ m ≤ 2 ^ n → haystackref06_Block_l6_L K0 N (k : Int) (off : Int) (x : Int) ((m : Int) - 1) = K0 ((x + blkN m k off : Nat) : Int)
  | 0, _, _, _, _, _, h, _, _, _, _ => by omega
  | N + 1, m, k, off, x, h1, h2, hk, ho, hx, hx2 => by
    have hp : 2 ^ n ≤ 2 ^ 62 := Nat.pow_le_pow_right (by decide) hn
    simp only [haystackref06_Block_l6_L, haystackref06_Block_l6_T]
    cases m with
    | zero => rw [sel_neg (by omega)]; rfl
    | succ m =>
      have e0 : ((m + 1 : Nat) : Int) - 1 = (m : Int) := by omega
      have e1 : subW .i64 (m : Int) 1 = (m : Int) - 1 := subW_i64 (by omega) (by omega)
      rw [e0, sel_pos (by omega)]
      simp only [blkN]
      by_cases h0 : k = 0
      · subst h0; rw [sel_neg (by omega), if_pos rfl]; rfl
      · have hpm : 2 ^ (m + 1) = 2 ^ m * 2 := Nat.pow_succ 2 m
        have hcl := ch_lt (n := m) (k := k) (by omega)
        have hxm := mod_down hx
        rw [sel_pos (by omega), haystackref06_Block_j8_unf]; unfold haystackref06_Block_j8_B
        rw [haystackref06_Choose_spec, chI_nat' m k (by omega), if_neg h0, e1]
        by_cases h : ch m k ≤ off
        · rw [sel_pos (by omega), if_pos h, cvtW_u64 (by omega) (by omega), sel_pos (by omega), subW_i64 (by omega) (by omega), subW_u64 (by omega) (by omega), show (1 : Int) = ((1 : Nat) : Int) from rfl, shlW_u64 _ _ (by omega), Nat.one_mul, Nat.mod_eq_of_lt (by omega), orW_u64 _ _ (by omega) (by omega), or_bit hx,
            show ((off : Nat) : Int) - ((ch m k : Nat) : Int) = ((off - ch m k : Nat) : Int) by omega, show ((k : Nat) : Int) - ((1 : Nat) : Int) = ((k - 1 : Nat) : Int) by omega]
          refine (ref06_Block_loop n hn K0 N m (k - 1) (off - ch m k) (x + 2 ^ m) (by omega) (by omega) (by omega) (by omega) (by rw [Nat.add_mod_right]; exact hxm) (by omega)).trans ?_
          rw [Nat.add_assoc]
        · rw [sel_neg (by omega), if_neg h]
          exact ref06_Block_loop n hn K0 N m k off x (by omega) (by omega) hk ho hxm (by omega)
theorem haystackref06_Block_spec (n k : Int) (off : Nat) (ho : off < 2 ^ 64) (K : Int → Bool → Option R) : haystackref06_Block n k (off : Int) K = if chI n k ≤ off then K 0 false else K ((blkN n.toNat k.toNat off : Nat) : Int) true := by
  rw [haystackref06_Block_unf]; unfold haystackref06_Block_B
  rw [haystackref06_Choose_spec]
  by_cases h : chI n k ≤ off
  · rw [sel_pos (by omega), if_pos h]
  · rw [sel_neg (by omega), if_neg h]
    have hc : 0 ≤ n ∧ n ≤ 62 ∧ 0 ≤ k ∧ k ≤ n := by
      apply Decidable.byContradiction
      intro hc
      have : chI n k = 0 := if_neg hc
      omega
    obtain ⟨a, rfl⟩ : ∃ a : Nat, n = (a : Int) := ⟨n.toNat, by omega⟩
    obtain ⟨b, rfl⟩ : ∃ b : Nat, k = (b : Int) := ⟨k.toNat, by omega⟩
    rw [haystackref06_Block_l6_unf, subW_i64 (by omega) (by omega)]; unfold haystackref06_Block_l6_B
    refine (ref06_Block_loop a (by omega) _ NR a b off 0 (Nat.le_refl _) (by have := NR_lt; omega) (by omega) ho (Nat.zero_mod _) (by omega)).trans ?_
    rw [Nat.zero_add, Int.toNat_natCast, Int.toNat_natCast]
theorem haystackref06_Width_spec (n k : Int) (K : Int → Option R) : haystackref06_Width n k K = K ((widI n k : Nat) : Int) := by
  rw [haystackref06_Width_unf]; unfold haystackref06_Width_B widI
  rw [haystackref06_Choose_spec]
  have hl := chI_lt n k
  by_cases h : chI n k = 0
  · rw [h, sel_pos (by omega), if_pos rfl]; rfl
  · rw [sel_neg (by omega), if_neg h, subW_u64 (by omega) (by omega), show ((chI n k : Nat) : Int) - 1 = ((chI n k - 1 : Nat) : Int) by omega, haystackref01_Len_spec _ (by omega)]
end
end Go.Proofs.YtdojekdcdoaccaaGreatDoor
