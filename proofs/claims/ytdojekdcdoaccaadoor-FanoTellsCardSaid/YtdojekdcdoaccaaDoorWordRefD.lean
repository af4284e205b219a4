/- Layer 1: what the reference's lengths come to. -/
import Derived.Test.YtdojekdcdoaccaaDoorWordA
namespace Go.Proofs.YtdojekdcdoaccaaDoor
open Go Go.Ev
section
variable {R : Type}
theorem haystackref01_Len_loop (x : Nat) (hx : x < 2 ^ 64) (K : Int → Option R) (K1 : Unit → Option R) (hK : K1 () = K 0) : ∀ (N i : Nat), i ≤ 64 → x < 2 ^ i → i < N → haystackref01_Len_l3_L K K1 N (x : Int) (i : Int) = K ((bitLen x : Nat) : Int)
  | 0, _, _, _, h => by omega
  | N + 1, i, hi, hlt, hN => by
    simp only [haystackref01_Len_l3_L, haystackref01_Len_l3_T]
    by_cases h : i = 0
    · subst h
      simp at hlt; subst hlt
      rw [sel_neg (by omega), hK]; rfl
    · rw [sel_pos (by omega), subW_i64 (by omega) (by omega), show (i : Int) - 1 = ((i - 1 : Nat) : Int) by omega, cvtW_u64 (by omega) (by omega), sel_pos (by omega), shrW_u64 _ _ hx, show (2 : Int) = ((2 : Nat) : Int) from rfl, remW_nat]
      by_cases hb : x / 2 ^ (i - 1) % 2 = 1
      · rw [sel_pos (by omega), bitLen_eq hlt fun _ => (bit_mod x (i - 1)).1 hb]
      · rw [sel_neg (by omega)]
        refine haystackref01_Len_loop x hx K K1 hK N (i - 1) (by omega) ?_ (by omega)
        obtain ⟨j, rfl⟩ : ∃ j, i = j + 1 := ⟨i - 1, by omega⟩
        rw [Nat.add_sub_cancel] at hb ⊢
        have h1 : x / 2 ^ j < 2 := by rw [Nat.div_lt_iff_lt_mul (Nat.two_pow_pos j)]; rw [Nat.pow_succ] at hlt; omega
        have h2 : x / 2 ^ j = 0 := by
          generalize x / 2 ^ j = q at h1 hb
          omega
        exact (Nat.div_eq_zero_iff_lt (Nat.two_pow_pos j)).1 h2
theorem haystackref01_Len_spec (x : Nat) (hx : x < 2 ^ 64) (K : Int → Option R) : haystackref01_Len (x : Int) K = K ((bitLen x : Nat) : Int) := by
  rw [haystackref01_Len_unf]; unfold haystackref01_Len_B
  rw [haystackref01_Len_l3_unf]; unfold haystackref01_Len_l3_B
  exact haystackref01_Len_loop x hx _ _ rfl NR 64 (by decide) hx (by have := NR_lt; omega)
end
end Go.Proofs.YtdojekdcdoaccaaDoor
