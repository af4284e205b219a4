/- Layer 1: what masks and ranks come to. -/
import Derived.Test.YtapgclloopcbhaaDoorFn
import Derived.Test.YtapgclloopcbhaaDoorWA
namespace Go.Proofs.YtapgclloopcbhaaDoor
open Go Go.Ev
section
variable {R : Type}
theorem NR_lt : 4000000000 < NR := by unfold NR; decide

theorem ones_mask (j : Nat) (h : j ≤ 64) : (2 ^ 64 - 1) / 2 ^ (64 - j) = 2 ^ j - 1 := by
  have hp : 0 < 2 ^ (64 - j) := Nat.two_pow_pos _
  have hj : 0 < 2 ^ j := Nat.two_pow_pos _
  have e : 2 ^ 64 = 2 ^ (64 - j) * 2 ^ j := by rw [← Nat.pow_add]; congr 1; omega
  have e2 : 2 ^ 64 - 1 = 2 ^ (64 - j) * (2 ^ j - 1) + (2 ^ (64 - j) - 1) := by
    rw [Nat.mul_sub, Nat.mul_one, ← e]
    have : 2 ^ (64 - j) ≤ 2 ^ 64 := Nat.pow_le_pow_right (by decide) (by omega)
    omega
  rw [e2, mul_add_div' _ _ _ (by omega)]

theorem word_Mask_spec (n : Int) (h1 : -9223372036854775808 ≤ n) (h2 : n ≤ 9223372036854775807) (K : Int → Option R) : word_Mask n K = K ((maskN n : Nat) : Int) := by
  rw [word_Mask_unf]; unfold word_Mask_B
  by_cases h : n ≤ 0
  · rw [sel_pos h]
    unfold maskN
    rw [show n.toNat = 0 by omega]; rfl
  · rw [sel_neg h, subW_i64 (by omega) (by omega)]
    have e : max2 0 (64 - n) = ((64 - min n.toNat 64 : Nat) : Int) := by unfold max2; split <;> omega
    rw [e, sel_pos (Int.natCast_nonneg _), show (18446744073709551615 : Int) = ((2 ^ 64 - 1 : Nat) : Int) by decide, shrW_u64 _ _ (by decide), ones_mask _ (by omega)]
    rfl

theorem ones_last (z p : Nat) (lz : z < 2 ^ 64) (k : z % 128 = p) (hp : p ≤ 64) : andW .i64 (cvtW .i64 (z : Int)) 127 = (p : Int) := by
  rw [cvtW_eq, andW_eq]
  show IntKind.i64.wrap ((BitVec.ofInt 64 (IntKind.i64.wrap (z : Int)) &&& BitVec.ofInt 64 ((127 : Nat) : Int)).toNat : Int) = _
  have e1 : BitVec.ofInt 64 (IntKind.i64.wrap (z : Int)) = BitVec.ofNat 64 z := by
    apply BitVec.eq_of_toNat_eq
    rw [Ev.wrap_i64, BitVec.toNat_ofInt, BitVec.toNat_ofNat]
    omega
  rw [e1, BitVec.toNat_and, BitVec.toNat_ofNat, ofInt_nat 127 (by decide), Nat.mod_eq_of_lt lz, show z &&& 127 = p by rw [← k]; exact Nat.and_two_pow_sub_one_eq_mod z 7, Ev.wrap_i64]
  omega
end
end Go.Proofs.YtapgclloopcbhaaDoor
