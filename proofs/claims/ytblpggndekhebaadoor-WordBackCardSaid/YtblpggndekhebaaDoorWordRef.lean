/- Layer 1: what the reference's functions come to. -/
import Derived.Test.YtblpggndekhebaaDoorWord
namespace Go.Proofs.YtblpggndekhebaaDoor
open Go Go.Ev
section
variable {R : Type}
theorem or_next (i : Nat) : (2 ^ i - 1) ||| 2 ^ i = 2 ^ (i + 1) - 1 := by
  have hp : 0 < 2 ^ i := Nat.two_pow_pos i
  have h := and_add_or (2 ^ i - 1) (2 ^ i) (by
    apply Nat.eq_of_testBit_eq
    intro j
    rw [Nat.testBit_and, Nat.testBit_two_pow_sub_one, Nat.testBit_two_pow, Nat.zero_testBit]
    by_cases h : j < i
    · have : ¬ i = j := by omega
      simp [this]
    · simp [h])
  rw [← h, Nat.pow_succ]; omega
theorem haystackref01_Mask_loop (n : Int) (h2 : n ≤ 9223372036854775807) (K : Int → Option R) : ∀ (N i : Nat), i ≤ min n.toNat 64 → 64 - i < N → haystackref01_Mask_l4_L K N n ((2 ^ i - 1 : Nat) : Int) (i : Int) = K ((maskN n : Nat) : Int)
  | 0, _, _, h => by omega
  | N + 1, i, hi, hN => by
    simp only [haystackref01_Mask_l4_L, haystackref01_Mask_l4_T]
    by_cases h : i < min n.toNat 64
    · have hp : 2 ^ i < 2 ^ 64 := Nat.pow_lt_pow_right (by decide) (by omega)
      rw [sel_pos (by omega), sel_pos (by omega), haystackref01_Mask_j6_unf]
      unfold haystackref01_Mask_j6_B
      rw [cvtW_u64 (by omega) (by omega), sel_pos (by omega), addW_i64 (by omega) (by omega), show (1 : Int) = ((1 : Nat) : Int) from rfl, shlW_u64 1 i (by decide), Nat.one_mul, Nat.mod_eq_of_lt hp, orW_u64 _ _ (by omega) hp, or_next, ← Int.natCast_add]
      exact haystackref01_Mask_loop n h2 K N (i + 1) (by omega) (by omega)
    · have e : i = min n.toNat 64 := by omega
      have : K (((2 ^ i - 1 : Nat) : Int)) = K ((maskN n : Nat) : Int) := by rw [e]; rfl
      by_cases h64 : i < 64
      · rw [sel_pos (by omega), sel_neg (by omega), this]
      · rw [sel_neg (by omega), this]
theorem haystackref01_Mask_spec (n : Int) (h2 : n ≤ 9223372036854775807) (K : Int → Option R) : haystackref01_Mask n K = K ((maskN n : Nat) : Int) := by
  rw [haystackref01_Mask_unf]; unfold haystackref01_Mask_B
  rw [haystackref01_Mask_l4_unf]; unfold haystackref01_Mask_l4_B
  exact haystackref01_Mask_loop n h2 _ NR 0 (Nat.zero_le _) (by have := NR_lt; omega)

theorem haystackref01_Rank_loop (x : Nat) (hx : x < 2 ^ 64) (n : Int) (h2 : n ≤ 9223372036854775807) (K : Int → Option R) : ∀ (N i : Nat), i ≤ min n.toNat 64 → 64 - i < N → haystackref01_Rank_l4_L K N (x : Int) n ((pc x i : Nat) : Int) (i : Int) = K ((rankN x n : Nat) : Int)
  | 0, _, _, h => by omega
  | N + 1, i, hi, hN => by
    simp only [haystackref01_Rank_l4_L, haystackref01_Rank_l4_T]
    have hl := pc_le x i
    by_cases h : i < min n.toNat 64
    · rw [sel_pos (by omega), sel_pos (by omega), haystackref01_Rank_j6_unf]
      unfold haystackref01_Rank_j6_B
      rw [cvtW_u64 (by omega) (by omega), sel_pos (by omega), addW_i64 (a := (i : Int)) (by omega) (by omega), shrW_u64 _ _ hx, show (2 : Int) = ((2 : Nat) : Int) from rfl, remW_nat]
      have ih := haystackref01_Rank_loop x hx n h2 K N (i + 1) (by omega) (by omega)
      by_cases hb : x / 2 ^ i % 2 = 1
      · rw [sel_pos (by omega), addW_i64 (by omega) (by omega)]
        simp only [pc, (bit_mod x i).1 hb, Bool.toNat_true] at ih
        exact ih
      · rw [sel_neg (by omega)]
        have : x.testBit i = false := by
          cases h : x.testBit i with
          | false => rfl
          | true => exact absurd ((bit_mod x i).2 h) hb
        simp only [pc, this, Bool.toNat_false] at ih
        exact ih
    · have e : i = min n.toNat 64 := by omega
      have : K ((pc x i : Nat) : Int) = K ((rankN x n : Nat) : Int) := by rw [e]; rfl
      by_cases h64 : i < 64
      · rw [sel_pos (by omega), sel_neg (by omega), this]
      · rw [sel_neg (by omega), this]
theorem haystackref01_Rank_spec (x : Nat) (hx : x < 2 ^ 64) (n : Int) (h2 : n ≤ 9223372036854775807) (K : Int → Option R) : haystackref01_Rank (x : Int) n K = K ((rankN x n : Nat) : Int) := by
  rw [haystackref01_Rank_unf]; unfold haystackref01_Rank_B
  rw [haystackref01_Rank_l4_unf]; unfold haystackref01_Rank_l4_B
  exact haystackref01_Rank_loop x hx n h2 _ NR 0 (Nat.zero_le _) (by have := NR_lt; omega)
theorem haystackref01_Pop_spec (x : Nat) (hx : x < 2 ^ 64) (K : Int → Option R) : haystackref01_Pop (x : Int) K = K ((pc x 64 : Nat) : Int) := by
  rw [haystackref01_Pop_unf]; unfold haystackref01_Pop_B
  rw [haystackref01_Rank_spec x hx 64 (by decide)]; rfl

theorem haystackref01_Select_loop (x : Nat) (hx : x < 2 ^ 64) (k : Int) (K : Int → Option R) (K1 : Unit → Option R) (hK : K1 () = K 64) : ∀ (N i : Nat), i ≤ 64 → 64 - i < N → haystackref01_Select_l4_L K K1 N (x : Int) k ((pc x i : Nat) : Int) (i : Int) = K ((if k < 0 then 64 else selG x k.toNat i (64 - i) : Nat) : Int)
  | 0, _, _, h => by omega
  | N + 1, i, hi, hN => by
    simp only [haystackref01_Select_l4_L, haystackref01_Select_l4_T]
    have hl := pc_le x i
    by_cases h : i < 64
    · rw [sel_pos (by omega), cvtW_u64 (by omega) (by omega), sel_pos (by omega), shrW_u64 _ _ hx, show (2 : Int) = ((2 : Nat) : Int) from rfl, remW_nat]
      have ih := haystackref01_Select_loop x hx k K K1 hK N (i + 1) (by omega) (by omega)
      obtain ⟨f, hf⟩ : ∃ f, 64 - i = f + 1 := ⟨64 - i - 1, by omega⟩
      rw [show 64 - (i + 1) = f by omega] at ih
      rw [hf, addW_i64 (a := (i : Int)) (by omega) (by omega)]
      simp only [selG]
      by_cases hb : x / 2 ^ i % 2 = 1
      · rw [sel_pos (by omega)]
        have hb' := (bit_mod x i).1 hb
        by_cases hk : ((pc x i : Nat) : Int) = k
        · rw [sel_pos hk, if_neg (by omega), if_pos ⟨hb', by omega⟩]
        · rw [sel_neg hk, addW_i64 (by omega) (by omega)]
          simp only [pc, hb', Bool.toNat_true] at ih
          refine ih.trans ?_
          by_cases hk0 : k < 0
          · rw [if_pos hk0, if_pos hk0]
          · rw [if_neg hk0, if_neg hk0, if_neg (by rintro ⟨_, h⟩; omega)]
      · rw [sel_neg (by omega)]
        have hb' : x.testBit i = false := by
          cases h : x.testBit i with
          | false => rfl
          | true => exact absurd ((bit_mod x i).2 h) hb
        simp only [pc, hb', Bool.toNat_false] at ih
        rw [Nat.add_zero] at ih
        refine ih.trans ?_
        by_cases hk0 : k < 0
        · rw [if_pos hk0, if_pos hk0]
        · rw [if_neg hk0, if_neg hk0, if_neg (by rintro ⟨h, _⟩; rw [hb'] at h; cases h)]
    · have e : i = 64 := by omega
      subst e
      rw [sel_neg (by omega), hK]
      congr 1
      split <;> rfl
theorem haystackref01_Select_spec (x : Nat) (hx : x < 2 ^ 64) (k : Int) (K : Int → Option R) : haystackref01_Select (x : Int) k K = K ((selN x k : Nat) : Int) := by
  rw [haystackref01_Select_unf]; unfold haystackref01_Select_B
  rw [haystackref01_Select_l4_unf]; unfold haystackref01_Select_l4_B
  exact haystackref01_Select_loop x hx k _ _ rfl NR 0 (by decide) (by have := NR_lt; omega)

theorem haystackref01_Len_loop (x : Nat) (hx : x < 2 ^ 64) (K : Int → Option R) (K1 : Unit → Option R) (hK : K1 () = K 0) : ∀ (N i : Nat), i ≤ 64 → x < 2 ^ i → i < N → haystackref01_Len_l3_L K K1 N (x : Int) (i : Int) = K ((bitLen x : Nat) : Int)
  | 0, _, _, _, h => by omega
  | N + 1, i, hi, hlt, hN => by
    simp only [haystackref01_Len_l3_L, haystackref01_Len_l3_T]
    by_cases h : i = 0
    · subst h
      simp at hlt; subst hlt
      rw [sel_neg (by omega), hK]; rfl
    · rw [sel_pos (by omega), subW_i64 (by omega) (by omega), show (i : Int) - 1 = ((i - 1 : Nat) : Int) by omega, cvtW_u64 (by omega) (by omega), sel_pos (by omega), shrW_u64 _ _ hx, show (2 : Int) = ((2 : Nat) : Int) from rfl, remW_nat]
      by_cases hb : x / 2 ^ (i - 1) % 2 = 1
      · rw [sel_pos (by omega), bitLen_eq hlt fun _ => (bit_mod x (i - 1)).1 hb]
      · rw [sel_neg (by omega)]
        refine haystackref01_Len_loop x hx K K1 hK N (i - 1) (by omega) ?_ (by omega)
        obtain ⟨j, rfl⟩ : ∃ j, i = j + 1 := ⟨i - 1, by omega⟩
        rw [Nat.add_sub_cancel] at hb ⊢
        have h1 : x / 2 ^ j < 2 := by rw [Nat.div_lt_iff_lt_mul (Nat.two_pow_pos j)]; rw [Nat.pow_succ] at hlt; omega
        have h2 : x / 2 ^ j = 0 := by
          generalize x / 2 ^ j = q at h1 hb
          omega
        exact (Nat.div_eq_zero_iff_lt (Nat.two_pow_pos j)).1 h2
theorem haystackref01_Len_spec (x : Nat) (hx : x < 2 ^ 64) (K : Int → Option R) : haystackref01_Len (x : Int) K = K ((bitLen x : Nat) : Int) := by
  rw [haystackref01_Len_unf]; unfold haystackref01_Len_B
  rw [haystackref01_Len_l3_unf]; unfold haystackref01_Len_l3_B
  exact haystackref01_Len_loop x hx _ _ rfl NR 64 (by decide) hx (by have := NR_lt; omega)
end
end Go.Proofs.YtblpggndekhebaaDoor
