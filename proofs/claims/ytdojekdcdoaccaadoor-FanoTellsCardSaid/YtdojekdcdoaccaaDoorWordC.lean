/- Layer 1: what lengths come to. -/
import Derived.Test.YtdojekdcdoaccaaDoorWordA
namespace Go.Proofs.YtdojekdcdoaccaaDoor
open Go Go.Ev
section
variable {R : Type}
theorem len_tab : ∀ i, i < 256 → (txt__14a5d8.data.toList.getD i 0).toNat = bitLen i := by decide +kernel
theorem len_size : txt__14a5d8.size = 256 := by decide +kernel
theorem math_bits_Len64_j11_spec (x n : Nat) (hx : x < 256) (hn : n ≤ 64) (K : Int → Option R) : math_bits_Len64_j11 (x : Int) (n : Int) K = K ((n + bitLen x : Nat) : Int) := by
  rw [math_bits_Len64_j11_unf]; unfold math_bits_Len64_j11_B
  rw [cvtW_u8 (by omega) (by omega), sel_pos (by omega), len_size, sel_pos (by omega), letV_eq, Int.toNat_natCast, len_tab x hx]
  have := bitLen_le8 x hx
  rw [cvtW_i64 (by omega) (by omega), addW_i64 (by omega) (by omega), ← Int.natCast_add]
theorem len_part (x b : Nat) (h : 2 ^ b ≤ x) : bitLen x = b + bitLen (x / 2 ^ b) :=
  bitLen_shift x b (by have := Nat.div_pos h (Nat.two_pow_pos b); omega)
theorem math_bits_Len64_j8_spec (x n : Nat) (hx : x < 65536) (hn : n ≤ 48) (K : Int → Option R) : math_bits_Len64_j8 (x : Int) (n : Int) K = K ((n + bitLen x : Nat) : Int) := by
  rw [math_bits_Len64_j8_unf]; unfold math_bits_Len64_j8_B
  by_cases h : 256 ≤ x
  · rw [sel_pos (by omega), show (8 : Int) = ((8 : Nat) : Int) from rfl, shrW_u64 _ _ (by omega), addW_i64 (by omega) (by omega), ← Int.natCast_add, math_bits_Len64_j11_spec _ _ (by omega) (by omega), len_part x 8 h]
    congr 1; omega
  · rw [sel_neg (by omega), math_bits_Len64_j11_spec _ _ (by omega) (by omega)]
theorem math_bits_Len64_j5_spec (x n : Nat) (hx : x < 4294967296) (hn : n ≤ 32) (K : Int → Option R) : math_bits_Len64_j5 (x : Int) (n : Int) K = K ((n + bitLen x : Nat) : Int) := by
  rw [math_bits_Len64_j5_unf]; unfold math_bits_Len64_j5_B
  by_cases h : 65536 ≤ x
  · rw [sel_pos (by omega), show (16 : Int) = ((16 : Nat) : Int) from rfl, shrW_u64 _ _ (by omega), addW_i64 (by omega) (by omega), ← Int.natCast_add, math_bits_Len64_j8_spec _ _ (by omega) (by omega), len_part x 16 h]
    congr 1; omega
  · rw [sel_neg (by omega), math_bits_Len64_j8_spec _ _ (by omega) (by omega)]
theorem math_bits_Len64_spec (x : Nat) (hx : x < 2 ^ 64) (K : Int → Option R) : math_bits_Len64 (x : Int) K = K ((bitLen x : Nat) : Int) := by
  rw [math_bits_Len64_unf]; unfold math_bits_Len64_B
  by_cases h : 4294967296 ≤ x
  · rw [sel_pos (by omega), show (32 : Int) = ((32 : Nat) : Int) from rfl, shrW_u64 _ _ (by omega), math_bits_Len64_j5_spec _ _ (by omega) (by omega), len_part x 32 h]
  · rw [sel_neg (by omega), show (0 : Int) = ((0 : Nat) : Int) from rfl, math_bits_Len64_j5_spec _ _ (by omega) (by omega), Nat.zero_add]
theorem word_Len_spec (x : Nat) (hx : x < 2 ^ 64) (K : Int → Option R) : word_Len (x : Int) K = K ((bitLen x : Nat) : Int) := by
  rw [word_Len_unf]; unfold word_Len_B
  rw [math_bits_Len64_spec x hx]
end
end Go.Proofs.YtdojekdcdoaccaaDoor
