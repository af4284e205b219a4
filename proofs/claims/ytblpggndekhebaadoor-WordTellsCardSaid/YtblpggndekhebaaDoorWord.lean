/- Layer 1: what the functions of the package of words and of its reference come to. -/
import Derived.Test.YtblpggndekhebaaDoorFn
import Derived.Test.YtblpggndekhebaaDoorW3
namespace Go.Proofs.YtblpggndekhebaaDoor
open Go Go.Ev

section
variable {R : Type}
theorem NR_lt : 4000000000 < NR := by unfold NR; decide

theorem ones_mask (j : Nat) (h : j ≤ 64) : (2 ^ 64 - 1) / 2 ^ (64 - j) = 2 ^ j - 1 := by
  have hp : 0 < 2 ^ (64 - j) := Nat.two_pow_pos _
  have hj : 0 < 2 ^ j := Nat.two_pow_pos _
  have e : 2 ^ 64 = 2 ^ (64 - j) * 2 ^ j := by rw [← Nat.pow_add]; congr 1; omega
  have e2 : 2 ^ 64 - 1 = 2 ^ (64 - j) * (2 ^ j - 1) + (2 ^ (64 - j) - 1) := by
    rw [Nat.mul_sub, Nat.mul_one, ← e]
    have : 2 ^ (64 - j) ≤ 2 ^ 64 := Nat.pow_le_pow_right (by decide) (by omega)
    omega
  rw [e2, mul_add_div' _ _ _ (by omega)]

theorem word_Mask_spec (n : Int) (h1 : -9223372036854775808 ≤ n) (h2 : n ≤ 9223372036854775807) (K : Int → Option R) : word_Mask n K = K ((maskN n : Nat) : Int) := by
  rw [word_Mask_unf]; unfold word_Mask_B
  by_cases h : n ≤ 0
  · rw [sel_pos h]
    unfold maskN
    rw [show n.toNat = 0 by omega]; rfl
  · rw [sel_neg h, subW_i64 (by omega) (by omega)]
    have e : max2 0 (64 - n) = ((64 - min n.toNat 64 : Nat) : Int) := by unfold max2; split <;> omega
    rw [e, sel_pos (Int.natCast_nonneg _), show (18446744073709551615 : Int) = ((2 ^ 64 - 1 : Nat) : Int) by decide, shrW_u64 _ _ (by decide), ones_mask _ (by omega)]
    rfl

theorem ones_last (z p : Nat) (lz : z < 2 ^ 64) (k : z % 128 = p) (hp : p ≤ 64) : andW .i64 (cvtW .i64 (z : Int)) 127 = (p : Int) := by
  rw [cvtW_eq, andW_eq]
  show IntKind.i64.wrap ((BitVec.ofInt 64 (IntKind.i64.wrap (z : Int)) &&& BitVec.ofInt 64 ((127 : Nat) : Int)).toNat : Int) = _
  have e1 : BitVec.ofInt 64 (IntKind.i64.wrap (z : Int)) = BitVec.ofNat 64 z := by
    apply BitVec.eq_of_toNat_eq
    rw [Ev.wrap_i64, BitVec.toNat_ofInt, BitVec.toNat_ofNat]
    omega
  rw [e1, BitVec.toNat_and, BitVec.toNat_ofNat, ofInt_nat 127 (by decide), Nat.mod_eq_of_lt lz, show z &&& 127 = p by rw [← k]; exact Nat.and_two_pow_sub_one_eq_mod z 7, Ev.wrap_i64]
  omega
theorem math_bits_OnesCount64_spec (x : Nat) (hx : x < 2 ^ 64) (K : Int → Option R) : math_bits_OnesCount64 (x : Int) K = K ((pc x 64 : Nat) : Int) := by
  rw [math_bits_OnesCount64_unf]; unfold math_bits_OnesCount64_B
  simp only [letV_eq]
  have l : ∀ (a m : Nat) , m < 2 ^ 64 → a &&& m < 2 ^ 64 := fun a m h => Nat.lt_of_le_of_lt Nat.and_le_right h
  have s : ∀ (a : Nat) (b : Nat) (c : Int), a < 2 ^ 64 → c = (b : Int) → shrW .u64 (a : Int) c = ((a / 2 ^ b : Nat) : Int) := fun a b c h e => by rw [e]; exact shrW_u64 a b h
  have t : ∀ a b : Nat, a < 2 ^ 64 → a / 2 ^ b < 2 ^ 64 := fun a b h => Nat.lt_of_le_of_lt (Nat.div_le_self _ _) h
  have m : ∀ a : Nat, a % 2 ^ 64 < 2 ^ 64 := fun a => Nat.mod_lt _ (by decide)
  obtain ⟨a, ha⟩ : ∃ a, a = ((x / 2 ^ 1 &&& 6148914691236517205) + (x &&& 6148914691236517205)) % 2 ^ 64 := ⟨_, rfl⟩
  have la : a < 2 ^ 64 := by rw [ha]; exact m _
  have ea : addW .u64 (andW .u64 (shrW .u64 (x : Int) 1) 6148914691236517205) (andW .u64 (x : Int) 6148914691236517205) = (a : Int) := by
    rw [s x 1 1 hx rfl, andW_u64l _ 6148914691236517205 6148914691236517205 (t _ _ hx) (by decide) rfl, andW_u64l _ 6148914691236517205 6148914691236517205 hx (by decide) rfl, addW_u64', ha]
  rw [ea]
  obtain ⟨b, hb⟩ : ∃ b, b = ((a / 2 ^ 2 &&& 3689348814741910323) + (a &&& 3689348814741910323)) % 2 ^ 64 := ⟨_, rfl⟩
  have lb : b < 2 ^ 64 := by rw [hb]; exact m _
  have eb : addW .u64 (andW .u64 (shrW .u64 (a : Int) 2) 3689348814741910323) (andW .u64 (a : Int) 3689348814741910323) = (b : Int) := by
    rw [s a 2 2 la rfl, andW_u64l _ 3689348814741910323 3689348814741910323 (t _ _ la) (by decide) rfl, andW_u64l _ 3689348814741910323 3689348814741910323 la (by decide) rfl, addW_u64', hb]
  rw [eb]
  obtain ⟨c, hc⟩ : ∃ c, c = (b / 2 ^ 4 + b) % 2 ^ 64 := ⟨_, rfl⟩
  have lc : c < 2 ^ 64 := by rw [hc]; exact m _
  have ec : addW .u64 (shrW .u64 (b : Int) 4) (b : Int) = (c : Int) := by rw [s b 4 4 lb rfl, addW_u64', hc]
  rw [ec]
  obtain ⟨d, hd⟩ : ∃ d, d = c &&& 1085102592571150095 := ⟨_, rfl⟩
  have ld : d < 2 ^ 64 := by rw [hd]; exact l _ _ (by decide)
  have ed : andW .u64 (c : Int) 1085102592571150095 = (d : Int) := by rw [andW_u64l _ 1085102592571150095 1085102592571150095 lc (by decide) rfl, hd]
  rw [ed, s d 8 8 ld rfl, addW_u64', s _ 16 16 (m _) rfl, addW_u64', s _ 32 32 (m _) rfl, addW_u64']
  have k := ones_count x hx a b c d ha hb hc hd
  obtain ⟨z, hz⟩ : ∃ z, z = (((d + d / 2 ^ 8) % 2 ^ 64 + (d + d / 2 ^ 8) % 2 ^ 64 / 2 ^ 16) % 2 ^ 64 + ((d + d / 2 ^ 8) % 2 ^ 64 + (d + d / 2 ^ 8) % 2 ^ 64 / 2 ^ 16) % 2 ^ 64 / 2 ^ 32) % 2 ^ 64 := ⟨_, rfl⟩
  rw [← hz] at k ⊢
  have lz : z < 2 ^ 64 := by rw [hz]; exact m _
  clear hz
  rw [ones_last z _ lz k (pc_le x 64)]

theorem word_Pop_spec (x : Nat) (hx : x < 2 ^ 64) (K : Int → Option R) : word_Pop (x : Int) K = K ((pc x 64 : Nat) : Int) := by
  rw [word_Pop_unf]; unfold word_Pop_B
  rw [math_bits_OnesCount64_spec x hx]

theorem word_Rank_spec (x : Nat) (hx : x < 2 ^ 64) (n : Int) (h1 : -9223372036854775808 ≤ n) (h2 : n ≤ 9223372036854775807) (K : Int → Option R) : word_Rank (x : Int) n K = K ((rankN x n : Nat) : Int) := by
  rw [word_Rank_unf]; unfold word_Rank_B
  rw [word_Mask_spec n h1 h2, andW_u64 _ _ hx (maskN_lt n), word_Pop_spec _ (and_lt_64 hx), pc_and_mask]

theorem tz_key (x : Nat) (h0 : x ≠ 0) (hx : x < 2 ^ 64) : shrW .u64 (mulW .u64 (andW .u64 (x : Int) (negW .u64 (x : Int))) 285870213051353865) 58 = ((2 ^ Lib.ctz 64 x * 285870213051353865 % 18446744073709551616 / 288230376151711744 : Nat) : Int) := by
  have e : negW .u64 (x : Int) = ((2 ^ 64 - x : Nat) : Int) := by rw [negW_eq, Ev.wrap_u64]; omega
  rw [e, andW_u64 _ _ hx (by omega), (Lib.lowest_bit 64 x h0 hx).1, show (285870213051353865 : Int) = ((285870213051353865 : Nat) : Int) from rfl, mulW_u64', show (58 : Int) = ((58 : Nat) : Int) from rfl, shrW_u64 _ _ (Nat.mod_lt _ (by decide))]
theorem tz_tab : ∀ k : Nat, k < 64 → 2 ^ k * 285870213051353865 % 18446744073709551616 / 288230376151711744 < 64 ∧ tzTab.getD (2 ^ k * 285870213051353865 % 18446744073709551616 / 288230376151711744) 0 = (k : Int) := by decide +kernel
theorem math_bits_TrailingZeros64_spec (x : Nat) (hx : x < 2 ^ 64) (K : Int → Option R) : math_bits_TrailingZeros64 (x : Int) K = K ((Lib.ctz 64 x : Nat) : Int) := by
  rw [math_bits_TrailingZeros64_unf]; unfold math_bits_TrailingZeros64_B
  by_cases h0 : x = 0
  · rw [sel_pos (by omega)]; subst h0; rfl
  · rw [sel_neg (by omega), tz_key x h0 hx]
    have hk := (Lib.lowest_bit 64 x h0 hx).2
    obtain ⟨h1, h2⟩ := tz_tab _ hk
    rw [sel_pos (Int.natCast_nonneg _), sel_pos (by omega), Int.toNat_natCast, h2, cvtW_i64 (by omega) (by omega)]

theorem word_Select_loop (k : Nat) (hk : k ≤ 64) (K : Int → Option R) : ∀ (N : Nat) (x i : Nat), x < 2 ^ 64 → i ≤ k → k - i < N → (k - i < pc x 64) → ∃ y : Nat, y < 2 ^ 64 ∧ y ≠ 0 ∧ selN y 0 = selN x ((k - i : Nat) : Int) ∧ word_Select_l5_L K N (x : Int) (k : Int) (i : Int) = K (y : Int)
  | 0, _, _, _, _, h, _ => by omega
  | N + 1, x, i, hx, hi, hN, hp => by
    have h0 : x ≠ 0 := by rintro rfl; rw [pc_zero] at hp; omega
    simp only [word_Select_l5_L, word_Select_l5_T]
    by_cases hlt : i < k
    · have hc := pc_clear h0 hx
      obtain ⟨y, h1, h2, h3, h4⟩ := word_Select_loop k hk K N (x &&& (x - 1)) (i + 1) (and_lt_64 hx) (by omega) (by omega) (by omega)
      refine ⟨y, h1, h2, ?_, ?_⟩
      · rw [h3, show ((k - i : Nat) : Int) = ((k - (i + 1) : Nat) : Int) + 1 by omega, sel_step h0 hx (by omega)]
      · rw [sel_pos (by omega), subW_u64 (by omega) (by omega), show (x : Int) - 1 = ((x - 1 : Nat) : Int) by omega, andW_u64 _ _ hx (by omega), addW_i64 (by omega) (by omega), show (i : Int) + 1 = ((i + 1 : Nat) : Int) by omega, h4]
    · have : i = k := by omega
      subst this
      rw [Nat.sub_self]
      exact ⟨x, hx, h0, rfl, sel_neg (by omega)⟩

theorem word_Select_spec (x : Nat) (hx : x < 2 ^ 64) (k : Int) (K : Int → Option R) : word_Select (x : Int) k K = K ((selN x k : Nat) : Int) := by
  rw [word_Select_unf]; unfold word_Select_B
  by_cases h : k < 0
  · rw [sel_pos h]
    unfold selN
    rw [if_pos h]; rfl
  · rw [sel_neg h, word_Pop_spec x hx]
    by_cases h1 : ((pc x 64 : Nat) : Int) ≤ k
    · rw [sel_pos h1, selN_eq (i := 64) (.inr ⟨rfl, .inr h1⟩)]; rfl
    · rw [sel_neg h1, word_Select_j4_unf]; unfold word_Select_j4_B
      have hp := pc_le x 64
      obtain ⟨q, rfl⟩ : ∃ q : Nat, k = (q : Int) := ⟨k.toNat, by omega⟩
      rw [word_Select_l5_unf]; unfold word_Select_l5_B
      obtain ⟨y, a1, a2, a3, a4⟩ := word_Select_loop (R := R) q (by omega) (fun n => math_bits_TrailingZeros64 n fun m => K m) NR x 0 hx (by omega) (by have := NR_lt; omega) (by omega)
      rw [show (0 : Int) = ((0 : Nat) : Int) from rfl, a4, math_bits_TrailingZeros64_spec y a1, ← sel_zero a2 a1, a3]; rfl

theorem len_tab : ∀ i, i < 256 → (txt__14a5d8.data.toList.getD i 0).toNat = bitLen i := by decide +kernel
theorem len_size : txt__14a5d8.size = 256 := by decide +kernel
theorem math_bits_Len64_j11_spec (x n : Nat) (hx : x < 256) (hn : n ≤ 64) (K : Int → Option R) : math_bits_Len64_j11 (x : Int) (n : Int) K = K ((n + bitLen x : Nat) : Int) := by
  rw [math_bits_Len64_j11_unf]; unfold math_bits_Len64_j11_B
  rw [cvtW_u8 (by omega) (by omega), sel_pos (by omega), len_size, sel_pos (by omega), letV_eq, Int.toNat_natCast, len_tab x hx]
  have := bitLen_le8 x hx
  rw [cvtW_i64 (by omega) (by omega), addW_i64 (by omega) (by omega), ← Int.natCast_add]
theorem len_part (x b : Nat) (h : 2 ^ b ≤ x) : bitLen x = b + bitLen (x / 2 ^ b) :=
  bitLen_shift x b (by have := Nat.div_pos h (Nat.two_pow_pos b); omega)
theorem math_bits_Len64_j8_spec (x n : Nat) (hx : x < 65536) (hn : n ≤ 48) (K : Int → Option R) : math_bits_Len64_j8 (x : Int) (n : Int) K = K ((n + bitLen x : Nat) : Int) := by
  rw [math_bits_Len64_j8_unf]; unfold math_bits_Len64_j8_B
  by_cases h : 256 ≤ x
  · rw [sel_pos (by omega), show (8 : Int) = ((8 : Nat) : Int) from rfl, shrW_u64 _ _ (by omega), addW_i64 (by omega) (by omega), ← Int.natCast_add, math_bits_Len64_j11_spec _ _ (by omega) (by omega), len_part x 8 h]
    congr 1; omega
  · rw [sel_neg (by omega), math_bits_Len64_j11_spec _ _ (by omega) (by omega)]
theorem math_bits_Len64_j5_spec (x n : Nat) (hx : x < 4294967296) (hn : n ≤ 32) (K : Int → Option R) : math_bits_Len64_j5 (x : Int) (n : Int) K = K ((n + bitLen x : Nat) : Int) := by
  rw [math_bits_Len64_j5_unf]; unfold math_bits_Len64_j5_B
  by_cases h : 65536 ≤ x
  · rw [sel_pos (by omega), show (16 : Int) = ((16 : Nat) : Int) from rfl, shrW_u64 _ _ (by omega), addW_i64 (by omega) (by omega), ← Int.natCast_add, math_bits_Len64_j8_spec _ _ (by omega) (by omega), len_part x 16 h]
    congr 1; omega
  · rw [sel_neg (by omega), math_bits_Len64_j8_spec _ _ (by omega) (by omega)]
theorem math_bits_Len64_spec (x : Nat) (hx : x < 2 ^ 64) (K : Int → Option R) : math_bits_Len64 (x : Int) K = K ((bitLen x : Nat) : Int) := by
  rw [math_bits_Len64_unf]; unfold math_bits_Len64_B
  by_cases h : 4294967296 ≤ x
  · rw [sel_pos (by omega), show (32 : Int) = ((32 : Nat) : Int) from rfl, shrW_u64 _ _ (by omega), math_bits_Len64_j5_spec _ _ (by omega) (by omega), len_part x 32 h]
  · rw [sel_neg (by omega), show (0 : Int) = ((0 : Nat) : Int) from rfl, math_bits_Len64_j5_spec _ _ (by omega) (by omega), Nat.zero_add]
theorem word_Len_spec (x : Nat) (hx : x < 2 ^ 64) (K : Int → Option R) : word_Len (x : Int) K = K ((bitLen x : Nat) : Int) := by
  rw [word_Len_unf]; unfold word_Len_B
  rw [math_bits_Len64_spec x hx]
end
end Go.Proofs.YtblpggndekhebaaDoor
