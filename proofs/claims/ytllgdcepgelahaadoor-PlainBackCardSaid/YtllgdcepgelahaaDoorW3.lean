/- Words: masks, ranks, places and lengths, as plain functions, and what is true of them (no program). -/
import Derived.Test.YtllgdcepgelahaaDoorW2
namespace Go.Ev
open Go

def maskN (n : Int) : Nat := 2 ^ (min n.toNat 64) - 1
theorem maskN_lt (n : Int) : maskN n < 2 ^ 64 := by
  have : 2 ^ (min n.toNat 64) ≤ 2 ^ 64 := Nat.pow_le_pow_right (by decide) (by omega)
  unfold maskN; omega
theorem and_maskN {x : Nat} (n : Int) : x &&& maskN n = x % 2 ^ (min n.toNat 64) := Nat.and_two_pow_sub_one_eq_mod _ _
def rankN (x : Nat) (n : Int) : Nat := pc x (min n.toNat 64)
theorem rankN_le (x : Nat) (n : Int) : rankN x n ≤ 64 := Nat.le_trans (pc_le _ _) (by omega)
theorem pc_and_mask (x : Nat) (n : Int) : pc (x &&& maskN n) 64 = rankN x n := by
  rw [and_maskN, pc_mod]; unfold rankN; congr 1; omega
theorem and_lt_64 {x y : Nat} (h : x < 2 ^ 64) : x &&& y < 2 ^ 64 := Nat.lt_of_le_of_lt Nat.and_le_left h

/-! ### places -/
/-- i is the place of x's k-th one -/
def IsSel (x : Nat) (k : Int) (i : Nat) : Prop := (i < 64 ∧ x.testBit i = true ∧ (pc x i : Int) = k) ∨ (i = 64 ∧ (k < 0 ∨ (pc x 64 : Int) ≤ k))
theorem IsSel.uniq {x : Nat} {k : Int} {i j : Nat} (h1 : IsSel x k i) (h2 : IsSel x k j) : i = j := by
  rcases h1 with ⟨a1, a2, a3⟩ | ⟨a1, a2⟩ <;> rcases h2 with ⟨b1, b2, b3⟩ | ⟨b1, b2⟩
  · apply Nat.le_antisymm <;> apply Nat.le_of_not_lt <;> intro h
    · have := pc_lt_of_bit b2 h; omega
    · have := pc_lt_of_bit a2 h; omega
  · have := pc_lt_of_bit a2 a1; omega
  · have := pc_lt_of_bit b2 b1; omega
  · omega
def selG (x k : Nat) : Nat → Nat → Nat
  | i, 0 => i
  | i, f + 1 => if x.testBit i = true ∧ pc x i = k then i else selG x k (i + 1) f
def selN (x : Nat) (k : Int) : Nat := if k < 0 then 64 else selG x k.toNat 0 64
theorem selG_is (x k : Nat) : ∀ f i, i + f = 64 → pc x i ≤ k → IsSel x k (selG x k i f)
  | 0, i, h, hk => by
    have : i = 64 := by omega
    subst this
    exact .inr ⟨rfl, .inr (by omega)⟩
  | f + 1, i, h, hk => by
    unfold selG
    split
    · rename_i h1
      exact .inl ⟨by omega, h1.1, by omega⟩
    · rename_i h1
      refine selG_is x k f (i + 1) (by omega) ?_
      simp only [pc]
      cases hb : x.testBit i with
      | false => simpa using hk
      | true =>
        have : ¬ pc x i = k := fun h => h1 ⟨hb, h⟩
        simp only [Bool.toNat_true]; omega
theorem selN_is (x : Nat) (k : Int) : IsSel x k (selN x k) := by
  unfold selN
  split
  · exact .inr ⟨rfl, .inl (by assumption)⟩
  · have := selG_is x k.toNat 64 0 rfl (Nat.zero_le _)
    rwa [show ((k.toNat : Nat) : Int) = k by omega] at this
theorem selN_eq {x : Nat} {k : Int} {i : Nat} (h : IsSel x k i) : selN x k = i := (selN_is x k).uniq h
theorem selN_le (x : Nat) (k : Int) : selN x k ≤ 64 := by
  rcases selN_is x k with ⟨h, _⟩ | ⟨h, _⟩ <;> omega

/-- the lowest one cleared -/
theorem low_one {x : Nat} (h0 : x ≠ 0) (hx : x < 2 ^ 64) : ∃ m, x = 2 ^ Lib.ctz 64 x * (2 * m + 1) ∧ Lib.ctz 64 x < 64 := by
  have e : Lib.ctz 64 x = Lib.ctzFrom 64 x := by simp [Lib.ctz, h0]
  rw [e]
  exact Lib.ctzFrom_spec 64 x (by omega) hx
theorem and_pred (c m : Nat) : 2 ^ c * (2 * m + 1) &&& (2 ^ c * (2 * m + 1) - 1) = 2 ^ c * (2 * m) := by
  have hp : 0 < 2 ^ c := Nat.two_pow_pos c
  have e : 2 ^ c * (2 * m + 1) - 1 = 2 ^ c * (2 * m) + (2 ^ c - 1) := by rw [Nat.mul_add]; omega
  have h := and_split c 0 (2 * m + 1) (2 ^ c - 1) (2 * m) hp (by omega)
  have h2 := and_split 1 1 m 0 m (by decide) (by decide)
  simp only [Nat.pow_one, Nat.and_self, Nat.add_zero, Nat.and_zero] at h2
  rw [Nat.add_zero, h2, Nat.zero_and, Nat.add_zero] at h
  rw [e, h, Nat.add_zero]
theorem pc_mul (c y : Nat) (j : Nat) : pc (2 ^ c * y) (c + j) = pc y j := by
  have h := pc_div (2 ^ c * y) c j
  have h2 := pc_mod (2 ^ c * y) c c
  rw [Nat.mul_mod_right, pc_zero, Nat.min_self] at h2
  rw [Nat.mul_div_cancel_left _ (Nat.two_pow_pos c)] at h
  omega
theorem pc_mul_low (c y : Nat) {i : Nat} (h : i ≤ c) : pc (2 ^ c * y) i = 0 := by
  have h2 := pc_mul c y 0
  have := pc_mono (2 ^ c * y) h
  simp only [Nat.add_zero, pc] at h2
  omega
theorem pc_odd (m j : Nat) : pc (2 * m + 1) (j + 1) = 1 + pc m j := by rw [pc_low]; congr 1; omega; congr 1; omega
theorem pc_even (m j : Nat) : pc (2 * m) (j + 1) = pc m j := by rw [pc_low, show 2 * m / 2 = m by omega]; omega
theorem bit_mul (c y i : Nat) : (2 ^ c * y).testBit i = (decide (c ≤ i) && y.testBit (i - c)) := by
  rw [Nat.mul_comm, Nat.testBit_mul_two_pow]
theorem sel_step {x : Nat} {k : Int} (h0 : x ≠ 0) (hx : x < 2 ^ 64) (hk : 0 ≤ k) : selN x (k + 1) = selN (x &&& (x - 1)) k := by
  apply selN_eq
  obtain ⟨m, hm, hc⟩ := low_one h0 hx
  generalize Lib.ctz 64 x = c at hm hc
  have e := and_pred c m
  rw [← hm] at e
  rw [e]
  have key : ∀ i, c < i → pc x i = pc (2 ^ c * (2 * m)) i + 1 := by
    intro i hi
    obtain ⟨j, rfl⟩ : ∃ j, i = c + (j + 1) := ⟨i - c - 1, by omega⟩
    rw [hm, pc_mul, pc_mul, pc_odd, pc_even]; omega
  rcases selN_is (2 ^ c * (2 * m)) k with ⟨h1, h2, h3⟩ | ⟨h1, h2⟩
  · left
    generalize selN (2 ^ c * (2 * m)) k = i at h1 h2 h3
    rw [bit_mul] at h2
    simp only [Bool.and_eq_true, decide_eq_true_eq] at h2
    obtain ⟨h2, h4⟩ := h2
    have hi : c < i := by
      apply Nat.lt_of_le_of_ne h2
      rintro rfl
      rw [Nat.sub_self, Nat.testBit_zero] at h4
      simp at h4
    refine ⟨h1, ?_, ?_⟩
    · rw [hm, bit_mul]
      obtain ⟨j, rfl⟩ : ∃ j, i = c + (j + 1) := ⟨i - c - 1, by omega⟩
      rw [show c + (j + 1) - c = j + 1 by omega, Nat.testBit_succ] at h4 ⊢
      rw [show 2 * m / 2 = m by omega] at h4
      rw [show (2 * m + 1) / 2 = m by omega, h4]
      simp
    · rw [key i hi]; omega
  · right
    refine ⟨h1, .inr ?_⟩
    rw [key 64 hc]
    omega
theorem sel_zero {x : Nat} (h0 : x ≠ 0) (hx : x < 2 ^ 64) : selN x 0 = Lib.ctz 64 x := by
  apply selN_eq
  obtain ⟨m, hm, hc⟩ := low_one h0 hx
  left
  refine ⟨hc, ?_, ?_⟩
  · generalize Lib.ctz 64 x = c at hm hc
    rw [hm, bit_mul]; simp
  · generalize Lib.ctz 64 x = c at hm hc
    rw [hm, pc_mul_low _ _ (Nat.le_refl _)]; rfl
theorem pc_clear {x : Nat} (h0 : x ≠ 0) (hx : x < 2 ^ 64) : pc (x &&& (x - 1)) 64 + 1 = pc x 64 := by
  obtain ⟨m, hm, hc⟩ := low_one h0 hx
  generalize Lib.ctz 64 x = c at hm hc
  have e := and_pred c m
  rw [← hm] at e
  rw [e]
  obtain ⟨j, hj⟩ : ∃ j, 64 = c + (j + 1) := ⟨64 - c - 1, by omega⟩
  rw [hm, hj, pc_mul, pc_mul, pc_odd, pc_even]; omega

/-! ### lengths -/
theorem bitLen_eq {x n : Nat} (h : x < 2 ^ n) (h2 : n ≠ 0 → x.testBit (n - 1) = true) : bitLen x = n := by
  by_cases hn : n = 0
  · subst hn
    simp at h; subst h; rfl
  · have h3 := Nat.ge_two_pow_of_testBit (h2 hn)
    obtain ⟨h4, h5⟩ := bitLen_spec x
    have hx : x ≠ 0 := by have := Nat.two_pow_pos (n - 1); omega
    have h5 := h5 hx
    apply Nat.le_antisymm <;> apply Nat.le_of_not_lt <;> intro h6
    · have := Nat.pow_le_pow_right (n := 2) (by decide) (show n ≤ bitLen x - 1 by omega); omega
    · have := Nat.pow_le_pow_right (n := 2) (by decide) (show bitLen x ≤ n - 1 by omega); omega
theorem bitLen_le {x n : Nat} (h : x < 2 ^ n) : bitLen x ≤ n := by
  apply Nat.le_of_not_lt
  intro h1
  obtain ⟨h4, h5⟩ := bitLen_spec x
  by_cases hx : x = 0
  · subst hx; simp [bitLen] at h1
  · have := Nat.pow_le_pow_right (n := 2) (by decide) (show n ≤ bitLen x - 1 by omega)
    have := h5 hx
    omega
end Go.Ev
namespace Go.Ev
open Go
theorem has_u64 {n : Int} (h : IntKind.u64.has n) : 0 ≤ n ∧ n ≤ 18446744073709551615 := by
  simpa [IntKind.has, IntKind.min, IntKind.max, IntKind.bits, IntKind.signed] using h
theorem has_i64 {n : Int} (h : IntKind.i64.has n) : -9223372036854775808 ≤ n ∧ n ≤ 9223372036854775807 := by
  simpa [IntKind.has, IntKind.min, IntKind.max, IntKind.bits, IntKind.signed] using h
theorem has_u8 {n : Int} (h : IntKind.u8.has n) : 0 ≤ n ∧ n ≤ 255 := by
  simpa [IntKind.has, IntKind.min, IntKind.max, IntKind.bits, IntKind.signed] using h
theorem nat_u64 {n : Int} (h : IntKind.u64.has n) : ∃ x : Nat, n = (x : Int) ∧ x < 2 ^ 64 := by
  have := has_u64 h
  exact ⟨n.toNat, by omega, by omega⟩
end Go.Ev
