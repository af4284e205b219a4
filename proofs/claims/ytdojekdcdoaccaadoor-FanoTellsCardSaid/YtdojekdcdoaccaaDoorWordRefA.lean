/- Layer 1: what the reference's masks come to. -/
import Derived.Test.YtdojekdcdoaccaaDoorWordA
namespace Go.Proofs.YtdojekdcdoaccaaDoor
open Go Go.Ev
section
variable {R : Type}
theorem or_next (i : Nat) : (2 ^ i - 1) ||| 2 ^ i = 2 ^ (i + 1) - 1 := by
  have hp : 0 < 2 ^ i := Nat.two_pow_pos i
  have h := and_add_or (2 ^ i - 1) (2 ^ i) (by
    apply Nat.eq_of_testBit_eq
    intro j
    rw [Nat.testBit_and, Nat.testBit_two_pow_sub_one, Nat.testBit_two_pow, Nat.zero_testBit]
    by_cases h : j < i
    · have : ¬ i = j := by omega
      simp [this]
    · simp [h])
  rw [← h, Nat.pow_succ]; omega
theorem haystackref01_Mask_loop (n : Int) (h2 : n ≤ 9223372036854775807) (K : Int → Option R) : ∀ (N i : Nat), i ≤ min n.toNat 64 → 64 - i < N → haystackref01_Mask_l4_L K N n ((2 ^ i - 1 : Nat) : Int) (i : Int) = K ((maskN n : Nat) : Int)
  | 0, _, _, h => by omega
  | N + 1, i, hi, hN => by
    simp only [haystackref01_Mask_l4_L, haystackref01_Mask_l4_T]
    by_cases h : i < min n.toNat 64
    · have hp : 2 ^ i < 2 ^ 64 := Nat.pow_lt_pow_right (by decide) (by omega)
      rw [sel_pos (by omega), sel_pos (by omega), haystackref01_Mask_j6_unf]
      unfold haystackref01_Mask_j6_B
      rw [cvtW_u64 (by omega) (by omega), sel_pos (by omega), addW_i64 (by omega) (by omega), show (1 : Int) = ((1 : Nat) : Int) from rfl, shlW_u64 1 i (by decide), Nat.one_mul, Nat.mod_eq_of_lt hp, orW_u64 _ _ (by omega) hp, or_next, ← Int.natCast_add]
      exact haystackref01_Mask_loop n h2 K N (i + 1) (by omega) (by omega)
    · have e : i = min n.toNat 64 := by omega
      have : K (((2 ^ i - 1 : Nat) : Int)) = K ((maskN n : Nat) : Int) := by rw [e]; rfl
      by_cases h64 : i < 64
      · rw [sel_pos (by omega), sel_neg (by omega), this]
      · rw [sel_neg (by omega), this]
theorem haystackref01_Mask_spec (n : Int) (h2 : n ≤ 9223372036854775807) (K : Int → Option R) : haystackref01_Mask n K = K ((maskN n : Nat) : Int) := by
  rw [haystackref01_Mask_unf]; unfold haystackref01_Mask_B
  rw [haystackref01_Mask_l4_unf]; unfold haystackref01_Mask_l4_B
  exact haystackref01_Mask_loop n h2 _ NR 0 (Nat.zero_le _) (by have := NR_lt; omega)

end
end Go.Proofs.YtdojekdcdoaccaaDoor
