/- Layer 1: what masks and ranks come to. -/
import Derived.Test.YtdojekdcdoaccaaDoorFn
import Derived.Test.YtdojekdcdoaccaaDoorWA
namespace Go.Proofs.YtdojekdcdoaccaaDoor
open Go Go.Ev
section
variable {R : Type}
theorem NR_lt : 4000000000 < NR := by unfold NR; decide

theorem ones_mask (j : Nat) (h : j ≤ 64) : (2 ^ 64 - 1) / 2 ^ (64 - j) = 2 ^ j - 1 := by
  have hp : 0 < 2 ^ (64 - j) := Nat.two_pow_pos _
  have hj : 0 < 2 ^ j := Nat.two_pow_pos _
  have e : 2 ^ 64 = 2 ^ (64 - j) * 2 ^ j := by rw [← Nat.pow_add]; congr 1; omega
  have e2 : 2 ^ 64 - 1 = 2 ^ (64 - j) * (2 ^ j - 1) + (2 ^ (64 - j) - 1) := by
    rw [Nat.mul_sub, Nat.mul_one, ← e]
    have : 2 ^ (64 - j) ≤ 2 ^ 64 := Nat.pow_le_pow_right (by decide) (by omega)
    omega
  rw [e2, mul_add_div' _ _ _ (by omega)]

theorem word_Mask_spec (n : Int) (h1 : -9223372036854775808 ≤ n) (h2 : n ≤ 9223372036854775807) (K : Int → Option R) : word_Mask n K = K ((maskN n : Nat) : Int) := by
  rw [word_Mask_unf]; unfold word_Mask_B
  by_cases h : n ≤ 0
  · rw [sel_pos h]
    unfold maskN
    rw [show n.toNat = 0 by omega]; rfl
  · rw [sel_neg h, subW_i64 (by omega) (by omega)]
    have e : max2 0 (64 - n) = ((64 - min n.toNat 64 : Nat) : Int) := by unfold max2; split <;> omega
    rw [e, sel_pos (Int.natCast_nonneg _), show (18446744073709551615 : Int) = ((2 ^ 64 - 1 : Nat) : Int) by decide, shrW_u64 _ _ (by decide), ones_mask _ (by omega)]
    rfl

theorem ones_last (z p : Nat) (lz : z < 2 ^ 64) (k : z % 128 = p) (hp : p ≤ 64) : andW .i64 (cvtW .i64 (z : Int)) 127 = (p : Int) := by
  rw [cvtW_eq, andW_eq]
  show IntKind.i64.wrap ((BitVec.ofInt 64 (IntKind.i64.wrap (z : Int)) &&& BitVec.ofInt 64 ((127 : Nat) : Int)).toNat : Int) = _
  have e1 : BitVec.ofInt 64 (IntKind.i64.wrap (z : Int)) = BitVec.ofNat 64 z := by
    apply BitVec.eq_of_toNat_eq
    rw [Ev.wrap_i64, BitVec.toNat_ofInt, BitVec.toNat_ofNat]
    omega
  rw [e1, BitVec.toNat_and, BitVec.toNat_ofNat, ofInt_nat 127 (by decide), Nat.mod_eq_of_lt lz, show z &&& 127 = p by rw [← k]; exact Nat.and_two_pow_sub_one_eq_mod z 7, Ev.wrap_i64]
  omega
theorem math_bits_OnesCount64_spec (x : Nat) (hx : x < 2 ^ 64) (K : Int → Option R) : math_bits_OnesCount64 (x : Int) K = K ((pc x 64 : Nat) : Int) := by
  rw [math_bits_OnesCount64_unf]; unfold math_bits_OnesCount64_B
  simp only [letV_eq]
  have l : ∀ (a m : Nat) , m < 2 ^ 64 → a &&& m < 2 ^ 64 := fun a m h => Nat.lt_of_le_of_lt Nat.and_le_right h
  have s : ∀ (a : Nat) (b : Nat) (c : Int), a < 2 ^ 64 → c = (b : Int) → shrW .u64 (a : Int) c = ((a / 2 ^ b : Nat) : Int) := fun a b c h e => by rw [e]; exact shrW_u64 a b h
  have t : ∀ a b : Nat, a < 2 ^ 64 → a / 2 ^ b < 2 ^ 64 := fun a b h => Nat.lt_of_le_of_lt (Nat.div_le_self _ _) h
  have m : ∀ a : Nat, a % 2 ^ 64 < 2 ^ 64 := fun a => Nat.mod_lt _ (by decide)
  obtain ⟨a, ha⟩ : ∃ a, a = ((x / 2 ^ 1 &&& 6148914691236517205) + (x &&& 6148914691236517205)) % 2 ^ 64 := ⟨_, rfl⟩
  have la : a < 2 ^ 64 := by rw [ha]; exact m _
  have ea : addW .u64 (andW .u64 (shrW .u64 (x : Int) 1) 6148914691236517205) (andW .u64 (x : Int) 6148914691236517205) = (a : Int) := by
    rw [s x 1 1 hx rfl, andW_u64l _ 6148914691236517205 6148914691236517205 (t _ _ hx) (by decide) rfl, andW_u64l _ 6148914691236517205 6148914691236517205 hx (by decide) rfl, addW_u64', ha]
  rw [ea]
  obtain ⟨b, hb⟩ : ∃ b, b = ((a / 2 ^ 2 &&& 3689348814741910323) + (a &&& 3689348814741910323)) % 2 ^ 64 := ⟨_, rfl⟩
  have lb : b < 2 ^ 64 := by rw [hb]; exact m _
  have eb : addW .u64 (andW .u64 (shrW .u64 (a : Int) 2) 3689348814741910323) (andW .u64 (a : Int) 3689348814741910323) = (b : Int) := by
    rw [s a 2 2 la rfl, andW_u64l _ 3689348814741910323 3689348814741910323 (t _ _ la) (by decide) rfl, andW_u64l _ 3689348814741910323 3689348814741910323 la (by decide) rfl, addW_u64', hb]
  rw [eb]
  obtain ⟨c, hc⟩ : ∃ c, c = (b / 2 ^ 4 + b) % 2 ^ 64 := ⟨_, rfl⟩
  have lc : c < 2 ^ 64 := by rw [hc]; exact m _
  have ec : addW .u64 (shrW .u64 (b : Int) 4) (b : Int) = (c : Int) := by rw [s b 4 4 lb rfl, addW_u64', hc]
  rw [ec]
  obtain ⟨d, hd⟩ : ∃ d, d = c &&& 1085102592571150095 := ⟨_, rfl⟩
  have ld : d < 2 ^ 64 := by rw [hd]; exact l _ _ (by decide)
  have ed : andW .u64 (c : Int) 1085102592571150095 = (d : Int) := by rw [andW_u64l _ 1085102592571150095 1085102592571150095 lc (by decide) rfl, hd]
  rw [ed, s d 8 8 ld rfl, addW_u64', s _ 16 16 (m _) rfl, addW_u64', s _ 32 32 (m _) rfl, addW_u64']
  have k := ones_count x hx a b c d ha hb hc hd
  obtain ⟨z, hz⟩ : ∃ z, z = (((d + d / 2 ^ 8) % 2 ^ 64 + (d + d / 2 ^ 8) % 2 ^ 64 / 2 ^ 16) % 2 ^ 64 + ((d + d / 2 ^ 8) % 2 ^ 64 + (d + d / 2 ^ 8) % 2 ^ 64 / 2 ^ 16) % 2 ^ 64 / 2 ^ 32) % 2 ^ 64 := ⟨_, rfl⟩
  rw [← hz] at k ⊢
  have lz : z < 2 ^ 64 := by rw [hz]; exact m _
  clear hz
  rw [ones_last z _ lz k (pc_le x 64)]

theorem word_Pop_spec (x : Nat) (hx : x < 2 ^ 64) (K : Int → Option R) : word_Pop (x : Int) K = K ((pc x 64 : Nat) : Int) := by
  rw [word_Pop_unf]; unfold word_Pop_B
  rw [math_bits_OnesCount64_spec x hx]

theorem word_Rank_spec (x : Nat) (hx : x < 2 ^ 64) (n : Int) (h1 : -9223372036854775808 ≤ n) (h2 : n ≤ 9223372036854775807) (K : Int → Option R) : word_Rank (x : Int) n K = K ((rankN x n : Nat) : Int) := by
  rw [word_Rank_unf]; unfold word_Rank_B
  rw [word_Mask_spec n h1 h2, andW_u64 _ _ hx (maskN_lt n), word_Pop_spec _ (and_lt_64 hx), pc_and_mask]

end
end Go.Proofs.YtdojekdcdoaccaaDoor
