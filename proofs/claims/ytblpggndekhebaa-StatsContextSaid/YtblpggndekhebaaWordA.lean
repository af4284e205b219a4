/- Layer 1: what masks and ranks come to. -/
import Derived.Test.YtblpggndekhebaaFn
import Derived.Test.YtblpggndekhebaaWA
namespace Go.Proofs.Ytblpggndekhebaa
open Go Go.Ev
section
variable {R : Type}
theorem NR_lt : 4000000000 < NR := by unfold NR; decide

theorem ones_mask (j : Nat) (h : j ≤ 64) : (2 ^ 64 - 1) / 2 ^ (64 - j) = 2 ^ j - 1 := by
  have hp : 0 < 2 ^ (64 - j) := Nat.two_pow_pos _
  have hj : 0 < 2 ^ j := Nat.two_pow_pos _
  have e : 2 ^ 64 = 2 ^ (64 - j) * 2 ^ j := by rw [← Nat.pow_add]; congr 1; omega
  have e2 : 2 ^ 64 - 1 = 2 ^ (64 - j) * (2 ^ j - 1) + (2 ^ (64 - j) - 1) := by
    rw [Nat.mul_sub, Nat.mul_one, ← e]
    have : 2 ^ (64 - j) ≤ 2 ^ 64 := Nat.pow_le_pow_right (by decide) (by omega)
    omega
  rw [e2, mul_add_div' _ _ _ (by omega)]

theorem ones_last (z p : Nat) (lz : z < 2 ^ 64) (k : z % 128 = p) (hp : p ≤ 64) : andW .i64 (cvtW .i64 (z : Int)) 127 = (p : Int) := by
  rw [cvtW_eq, andW_eq]
  show IntKind.i64.wrap ((BitVec.ofInt 64 (IntKind.i64.wrap (z : Int)) &&& BitVec.ofInt 64 ((127 : Nat) : Int)).toNat : Int) = _
  have e1 : BitVec.ofInt 64 (IntKind.i64.wrap (z : Int)) = BitVec.ofNat 64 z := by
    apply BitVec.eq_of_toNat_eq
    rw [Ev.wrap_i64, BitVec.toNat_ofInt, BitVec.toNat_ofNat]
    omega
  rw [e1, BitVec.toNat_and, BitVec.toNat_ofNat, ofInt_nat 127 (by decide), Nat.mod_eq_of_lt lz, show z &&& 127 = p by rw [← k]; exact Nat.and_two_pow_sub_one_eq_mod z 7, Ev.wrap_i64]
  omega
end
end Go.Proofs.Ytblpggndekhebaa
