/- Layer 19: logarithms. -/
import Derived.Test.YtblpggndekhebaaStats
import Derived.Test.YtblpggndekhebaaWordC
import Derived.Test.YtblpggndekhebaaWordRefD
namespace Go.Proofs.Ytblpggndekhebaa
open Go Go.Ev
section
variable {R : Type}
theorem orW_i64 (a b : Nat) (ha : a < 2 ^ 63) (hb : b < 2 ^ 63) : orW .i64 (a : Int) (b : Int) = ((a ||| b : Nat) : Int) := by
  rw [orW_eq]
  have hx : a ||| b < 2 ^ 63 := Nat.or_lt_two_pow ha hb
  show IntKind.i64.wrap ((BitVec.ofInt 64 (a : Int) ||| BitVec.ofInt 64 (b : Int)).toNat : Int) = _
  rw [BitVec.toNat_or, ofInt_nat a (by omega), ofInt_nat b (by omega), wrap_i64]
  omega
theorem shlW_i64_1 (a : Nat) (h : a < 2 ^ 60) : shlW .i64 (a : Int) 1 = ((2 * a : Nat) : Int) := by
  rw [shlW_eq, wrap_i64]
  have e : (2 : Int) ^ min (Int.toNat 1) IntKind.i64.bits = 2 := rfl
  rw [e]; omega
theorem shrW_i64_16 (a : Nat) : shrW .i64 (a : Int) 16 = ((a / 65536 : Nat) : Int) := by
  rw [shrW_eq]
  have e : (2 : Int) ^ min (Int.toNat 16) IntKind.i64.bits = ((65536 : Nat) : Int) := rfl
  rw [e, Int.fdiv_eq_ediv_of_nonneg _ (Int.natCast_nonneg _), ← Int.natCast_ediv]
theorem two_or (n b : Nat) (h : b ≤ 1) : 2 * n ||| b = 2 * n + b := by
  have := and_add_or (2 * n) b (by
    apply Nat.eq_of_testBit_eq
    intro i
    rw [Nat.testBit_and, Nat.zero_testBit]
    cases i with
    | zero => simp
    | succ i =>
      have : b.testBit (i + 1) = false := Nat.testBit_lt_two_pow (Nat.lt_of_le_of_lt h (Nat.one_lt_two_pow (by omega)))
      rw [this, Bool.and_false])
  exact this.symm
theorem lg_sq {m : Nat} (h : LgIn m) : shrW .u64 (mulW .u64 (m : Int) (m : Int)) 31 = ((m * m / 2147483648 : Nat) : Int) := by
  obtain ⟨h1, h2⟩ := h
  have b : m * m < 4294967296 * 4294967296 := Nat.mul_lt_mul'' h2 h2
  rw [mulW_u64', Nat.mod_eq_of_lt (by omega), show (31 : Int) = ((31 : Nat) : Int) from rfl, shrW_u64 _ _ (by omega)]
theorem lg_top {m : Nat} (h : LgIn m) : shrW .u64 ((m * m / 2147483648 : Nat) : Int) 32 = ((lgB m : Nat) : Int) := by
  have hq := lg_q h
  rw [show (32 : Int) = ((32 : Nat) : Int) from rfl, shrW_u64 _ _ (by omega)]
  unfold lgB
  split <;> congr 1 <;> omega
theorem lg_half {m : Nat} (h : LgIn m) : shrW .u64 ((m * m / 2147483648 : Nat) : Int) ((lgB m : Nat) : Int) = ((lgM m : Nat) : Int) := by
  have hq := lg_q h
  rw [shrW_u64 _ _ (by omega)]
  unfold lgB lgM
  split <;> congr 1 <;> omega
theorem stats_Log_loop (K : Int → Option R) : ∀ (N i n m : Nat), i ≤ 16 → 16 - i < N → LgIn m → n + 1 ≤ 32 * 2 ^ i → stats_Log_l7_L K N (n : Int) (m : Int) (i : Int) = K ((lgGo (16 - i) n m : Nat) : Int)
  | 0, _, _, _, _, h, _, _ => by omega
  | N + 1, i, n, m, h1, h2, hm, hn => by
    simp only [stats_Log_l7_L, stats_Log_l7_T]
    have hp : 2 ^ i ≤ 2 ^ 16 := Nat.pow_le_pow_right (by decide) h1
    have hb := lgB_le m
    by_cases h : i < 16
    · rw [sel_pos (by omega), lg_sq hm, lg_top hm, sel_pos (by omega), shlW_i64_1 _ (by omega), cvtW_i64 (by omega) (by omega), orW_i64 _ _ (by omega) (by omega), two_or _ _ hb, lg_half hm, addW_i64 (by omega) (by omega), show (i : Int) + 1 = ((i + 1 : Nat) : Int) by omega]
      rw [stats_Log_loop K N (i + 1) _ _ (by omega) (by omega) (lgM_in hm) (by rw [Nat.pow_succ]; omega), show 16 - i = (16 - (i + 1)) + 1 by omega]
      rfl
    · have : i = 16 := by omega
      subst this
      rw [sel_neg (by omega)]
      rfl
theorem ref19_Log_loop (K : Int → Option R) : ∀ (N i n m : Nat), i ≤ 16 → 16 - i < N → LgIn m → n + 1 ≤ 32 * 2 ^ i → haystackref19_Log_l8_L K N (m : Int) (n : Int) (i : Int) = K ((lgGo (16 - i) n m : Nat) : Int)
  | 0, _, _, _, _, h, _, _ => by omega
  | N + 1, i, n, m, h1, h2, hm, hn => by
    simp only [haystackref19_Log_l8_L, haystackref19_Log_l8_T]
    have hp : 2 ^ i ≤ 2 ^ 16 := Nat.pow_le_pow_right (by decide) h1
    have hb := lgB_le m
    have hq := lg_q hm
    by_cases h : i < 16
    · have ih := ref19_Log_loop K N (i + 1) (2 * n + lgB m) (lgM m) (by omega) (by omega) (lgM_in hm) (by rw [Nat.pow_succ]; omega)
      rw [sel_pos (by omega), lg_sq hm, mulW_i64 (by omega) (by omega), addW_i64 (a := (i : Int)) (by omega) (by omega), show (i : Int) + 1 = ((i + 1 : Nat) : Int) by omega, show 16 - i = (16 - (i + 1)) + 1 by omega]
      by_cases h3 : 4294967296 ≤ m * m / 2147483648
      · have e1 : lgB m = 1 := by unfold lgB; rw [if_pos h3]
        have e2 : lgM m = m * m / 2147483648 / 2 := by unfold lgM; rw [if_pos h3]
        rw [e1, e2] at ih
        rw [sel_pos (by omega), show (1 : Int) = ((1 : Nat) : Int) from rfl, shrW_u64 _ _ (by omega), addW_i64 (by omega) (by omega), show (2 : Int) * (n : Int) + ((1 : Nat) : Int) = ((2 * n + 1 : Nat) : Int) by omega]
        refine ih.trans ?_
        simp only [lgGo, e1, e2]
      · have e1 : lgB m = 0 := by unfold lgB; rw [if_neg h3]
        have e2 : lgM m = m * m / 2147483648 := by unfold lgM; rw [if_neg h3]
        rw [e1, e2] at ih
        rw [sel_neg (by omega), show (2 : Int) * (n : Int) = ((2 * n + 0 : Nat) : Int) by omega]
        refine ih.trans ?_
        simp only [lgGo, e1, e2]
    · have : i = 16 := by omega
      subst this
      rw [sel_neg (by omega)]
      rfl
theorem lg_start {x : Nat} (h0 : 0 < x) (h1 : x ≤ 1073741824) : 1 ≤ bitLen x ∧ bitLen x ≤ 31 ∧ LgIn (x * 2 ^ (31 - (bitLen x - 1))) := by
  have a1 := bitLen_pos (x := x) (by omega)
  have a2 : bitLen x ≤ 31 := bitLen_le (by omega)
  have a3 := top_add (x := x) (by omega)
  have a4 : 2 ^ (bitLen x - 1) ≤ x := by omega
  have a5 := (bitLen_spec x).1
  refine ⟨a1, a2, ?_, ?_⟩
  · calc 2147483648 = 2 ^ (bitLen x - 1) * 2 ^ (31 - (bitLen x - 1)) := by rw [← Nat.pow_add, show bitLen x - 1 + (31 - (bitLen x - 1)) = 31 by omega]
      _ ≤ _ := Nat.mul_le_mul_right _ a4
  · calc x * 2 ^ (31 - (bitLen x - 1)) < 2 ^ bitLen x * 2 ^ (31 - (bitLen x - 1)) := Nat.mul_lt_mul_of_pos_right a5 (Nat.two_pow_pos _)
      _ = 4294967296 := by rw [← Nat.pow_add, show bitLen x + (31 - (bitLen x - 1)) = 32 by omega]
/-- a logarithm, in 65536ths -/
def logS (x : Int) : Int := if x < 1 ∨ 1073741824 < x then 0 else ((lgN x.toNat : Nat) : Int)
theorem stats_Log_spec (x : Int) (K : Int → Option R) : stats_Log x K = K (logS x) := by
  rw [stats_Log_unf]; unfold stats_Log_B logS
  by_cases h1 : x < 1
  · rw [sel_pos h1, if_pos (.inl h1)]
  by_cases h2 : 1073741824 < x
  · rw [sel_neg h1, sel_pos h2, if_pos (.inr h2)]
  rw [sel_neg h1, sel_neg h2, if_neg (by omega), stats_Log_j4_unf]; unfold stats_Log_j4_B
  obtain ⟨y, rfl⟩ : ∃ y : Nat, x = (y : Int) := ⟨x.toNat, by omega⟩
  obtain ⟨b1, b2, b3⟩ := lg_start (x := y) (by omega) (by omega)
  have b4 := b3.2
  rw [cvtW_u64 (by omega) (by omega), word_Len_spec y (by omega), subW_i64 (a := ((bitLen y : Nat) : Int)) (by omega) (by omega), subW_i64 (by omega) (by omega), sel_pos (by omega),
    show (31 : Int) - (((bitLen y : Nat) : Int) - 1) = ((31 - (bitLen y - 1) : Nat) : Int) by omega, shlW_u64 _ _ (by omega), Nat.mod_eq_of_lt (by omega), show ((bitLen y : Nat) : Int) - 1 = ((bitLen y - 1 : Nat) : Int) by omega, stats_Log_l7_unf]
  unfold stats_Log_l7_B
  exact stats_Log_loop _ NR 0 _ _ (by omega) (by have := NR_lt; omega) b3 (by omega)
theorem haystackref19_Log_spec (x : Int) (K : Int → Option R) : haystackref19_Log x K = K (logS x) := by
  rw [haystackref19_Log_unf]; unfold haystackref19_Log_B logS
  by_cases h1 : x < 1
  · rw [sel_pos h1, if_pos (.inl h1)]
  by_cases h2 : 1073741824 < x
  · rw [sel_neg h1, sel_pos h2, if_pos (.inr h2)]
  rw [sel_neg h1, sel_neg h2, if_neg (by omega), haystackref19_Log_j4_unf]; unfold haystackref19_Log_j4_B
  obtain ⟨y, rfl⟩ : ∃ y : Nat, x = (y : Int) := ⟨x.toNat, by omega⟩
  obtain ⟨b1, b2, b3⟩ := lg_start (x := y) (by omega) (by omega)
  have b4 := b3.2
  rw [cvtW_u64 (by omega) (by omega), haystackref01_Len_spec y (by omega), subW_i64 (a := ((bitLen y : Nat) : Int)) (by omega) (by omega), subW_i64 (by omega) (by omega), cvtW_u64 (by omega) (by omega), sel_pos (by omega),
    show (31 : Int) - (((bitLen y : Nat) : Int) - 1) = ((31 - (bitLen y - 1) : Nat) : Int) by omega, shlW_u64 _ _ (by omega), Nat.mod_eq_of_lt (by omega), show ((bitLen y : Nat) : Int) - 1 = ((bitLen y - 1 : Nat) : Int) by omega, haystackref19_Log_l8_unf]
  unfold haystackref19_Log_l8_B
  exact ref19_Log_loop _ NR 0 _ _ (by omega) (by have := NR_lt; omega) b3 (by omega)
end
end Go.Proofs.Ytblpggndekhebaa
