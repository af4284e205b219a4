/- Layer 1: what places come to. -/
import Derived.Test.YtdojekdcdoaccaaDoorWordA
namespace Go.Proofs.YtdojekdcdoaccaaDoor
open Go Go.Ev
section
variable {R : Type}
theorem tz_key (x : Nat) (h0 : x ≠ 0) (hx : x < 2 ^ 64) : shrW .u64 (mulW .u64 (andW .u64 (x : Int) (negW .u64 (x : Int))) 285870213051353865) 58 = ((2 ^ Lib.ctz 64 x * 285870213051353865 % 18446744073709551616 / 288230376151711744 : Nat) : Int) := by
  have e : negW .u64 (x : Int) = ((2 ^ 64 - x : Nat) : Int) := by rw [negW_eq, Ev.wrap_u64]; omega
  rw [e, andW_u64 _ _ hx (by omega), (Lib.lowest_bit 64 x h0 hx).1, show (285870213051353865 : Int) = ((285870213051353865 : Nat) : Int) from rfl, mulW_u64', show (58 : Int) = ((58 : Nat) : Int) from rfl, shrW_u64 _ _ (Nat.mod_lt _ (by decide))]
theorem tz_tab : ∀ k : Nat, k < 64 → 2 ^ k * 285870213051353865 % 18446744073709551616 / 288230376151711744 < 64 ∧ tzTab.getD (2 ^ k * 285870213051353865 % 18446744073709551616 / 288230376151711744) 0 = (k : Int) := by decide +kernel
theorem math_bits_TrailingZeros64_spec (x : Nat) (hx : x < 2 ^ 64) (K : Int → Option R) : math_bits_TrailingZeros64 (x : Int) K = K ((Lib.ctz 64 x : Nat) : Int) := by
  rw [math_bits_TrailingZeros64_unf]; unfold math_bits_TrailingZeros64_B
  by_cases h0 : x = 0
  · rw [sel_pos (by omega)]; subst h0; rfl
  · rw [sel_neg (by omega), tz_key x h0 hx]
    have hk := (Lib.lowest_bit 64 x h0 hx).2
    obtain ⟨h1, h2⟩ := tz_tab _ hk
    rw [sel_pos (Int.natCast_nonneg _), sel_pos (by omega), Int.toNat_natCast, h2, cvtW_i64 (by omega) (by omega)]

theorem word_Select_loop (k : Nat) (hk : k ≤ 64) (K : Int → Option R) : ∀ (N : Nat) (x i : Nat), x < 2 ^ 64 → i ≤ k → k - i < N → (k - i < pc x 64) → ∃ y : Nat, y < 2 ^ 64 ∧ y ≠ 0 ∧ selN y 0 = selN x ((k - i : Nat) : Int) ∧ word_Select_l5_L K N (x : Int) (k : Int) (i : Int) = K (y : Int)
  | 0, _, _, _, _, h, _ => by omega
  | N + 1, x, i, hx, hi, hN, hp => by
    have h0 : x ≠ 0 := by rintro rfl; rw [pc_zero] at hp; omega
    simp only [word_Select_l5_L, word_Select_l5_T]
    by_cases hlt : i < k
    · have hc := pc_clear h0 hx
      obtain ⟨y, h1, h2, h3, h4⟩ := word_Select_loop k hk K N (x &&& (x - 1)) (i + 1) (and_lt_64 hx) (by omega) (by omega) (by omega)
      refine ⟨y, h1, h2, ?_, ?_⟩
      · rw [h3, show ((k - i : Nat) : Int) = ((k - (i + 1) : Nat) : Int) + 1 by omega, sel_step h0 hx (by omega)]
      · rw [sel_pos (by omega), subW_u64 (by omega) (by omega), show (x : Int) - 1 = ((x - 1 : Nat) : Int) by omega, andW_u64 _ _ hx (by omega), addW_i64 (by omega) (by omega), show (i : Int) + 1 = ((i + 1 : Nat) : Int) by omega, h4]
    · have : i = k := by omega
      subst this
      rw [Nat.sub_self]
      exact ⟨x, hx, h0, rfl, sel_neg (by omega)⟩

theorem word_Select_spec (x : Nat) (hx : x < 2 ^ 64) (k : Int) (K : Int → Option R) : word_Select (x : Int) k K = K ((selN x k : Nat) : Int) := by
  rw [word_Select_unf]; unfold word_Select_B
  by_cases h : k < 0
  · rw [sel_pos h]
    unfold selN
    rw [if_pos h]; rfl
  · rw [sel_neg h, word_Pop_spec x hx]
    by_cases h1 : ((pc x 64 : Nat) : Int) ≤ k
    · rw [sel_pos h1, selN_eq (i := 64) (.inr ⟨rfl, .inr h1⟩)]; rfl
    · rw [sel_neg h1, word_Select_j4_unf]; unfold word_Select_j4_B
      have hp := pc_le x 64
      obtain ⟨q, rfl⟩ : ∃ q : Nat, k = (q : Int) := ⟨k.toNat, by omega⟩
      rw [word_Select_l5_unf]; unfold word_Select_l5_B
      obtain ⟨y, a1, a2, a3, a4⟩ := word_Select_loop (R := R) q (by omega) (fun n => math_bits_TrailingZeros64 n fun m => K m) NR x 0 hx (by omega) (by have := NR_lt; omega) (by omega)
      rw [show (0 : Int) = ((0 : Nat) : Int) from rfl, a4, math_bits_TrailingZeros64_spec y a1, ← sel_zero a2 a1, a3]; rfl

end
end Go.Proofs.YtdojekdcdoaccaaDoor
