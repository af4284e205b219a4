/- Layer 1: what the reference's ranks come to. -/
import Derived.Test.YtdojekdcdoaccaaGreatDoorWordA
namespace Go.Proofs.YtdojekdcdoaccaaGreatDoor
open Go Go.Ev
section
variable {R : Type}
theorem haystackref01_Rank_loop (x : Nat) (hx : x < 2 ^ 64) (n : Int) (h2 : n ≤ 9223372036854775807) (K : Int → Option R) : ∀ (N i : Nat), i ≤ min n.toNat 64 → 64 - i < N → haystackref01_Rank_l4_L K N (x : Int) n ((pc x i : Nat) : Int) (i : Int) = K ((rankN x n : Nat) : Int)
  | 0, _, _, h => by omega
  | N + 1, i, hi, hN => by
    simp only [haystackref01_Rank_l4_L, haystackref01_Rank_l4_T]
    have hl := pc_le x i
    by_cases h : i < min n.toNat 64
    · rw [sel_pos (by omega), sel_pos (by omega), haystackref01_Rank_j6_unf]
      unfold haystackref01_Rank_j6_B
      rw [cvtW_u64 (by omega) (by omega), sel_pos (by omega), addW_i64 (a := (i : Int)) (by omega) (by omega), shrW_u64 _ _ hx, show (2 : Int) = ((2 : Nat) : Int) from rfl, remW_nat]
      have ih := haystackref01_Rank_loop x hx n h2 K N (i + 1) (by omega) (by omega)
      by_cases hb : x / 2 ^ i % 2 = 1
      · rw [sel_pos (by omega), addW_i64 (by omega) (by omega)]
        simp only [pc, (bit_mod x i).1 hb, Bool.toNat_true] at ih
        exact ih
      · rw [sel_neg (by omega)]
        have : x.testBit i = false := by
          cases h : x.testBit i with
          | false => rfl
          | true => exact absurd ((bit_mod x i).2 h) hb
        simp only [pc, this, Bool.toNat_false] at ih
        exact ih
    · have e : i = min n.toNat 64 := by omega
      have : K ((pc x i : Nat) : Int) = K ((rankN x n : Nat) : Int) := by rw [e]; rfl
      by_cases h64 : i < 64
      · rw [sel_pos (by omega), sel_neg (by omega), this]
      · rw [sel_neg (by omega), this]
theorem haystackref01_Rank_spec (x : Nat) (hx : x < 2 ^ 64) (n : Int) (h2 : n ≤ 9223372036854775807) (K : Int → Option R) : haystackref01_Rank (x : Int) n K = K ((rankN x n : Nat) : Int) := by
  rw [haystackref01_Rank_unf]; unfold haystackref01_Rank_B
  rw [haystackref01_Rank_l4_unf]; unfold haystackref01_Rank_l4_B
  exact haystackref01_Rank_loop x hx n h2 _ NR 0 (Nat.zero_le _) (by have := NR_lt; omega)
end
end Go.Proofs.YtdojekdcdoaccaaGreatDoor
