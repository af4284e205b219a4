/- Words: what operators make of whole numbers that are within bounds (no program). -/
import Derived.Test.YtllgdcepgelahaaDoorW1
import Derived.Laws.BitsAllLaws
namespace Go.Ev
open Go

theorem sel_pos {α : Type} {p : Prop} [Decidable p] {x y : Option α} (h : p) : sel (decide p) x y = x := by rw [decide_eq_true h]; rfl
theorem sel_neg {α : Type} {p : Prop} [Decidable p] {x y : Option α} (h : ¬ p) : sel (decide p) x y = y := by rw [decide_eq_false h]; rfl
theorem letV_eq {α R : Type} (e : α) (f : α → Option R) : letV e f = f e := rfl

theorem wrap_i64 (n : Int) : IntKind.i64.wrap n = (n + 9223372036854775808) % 18446744073709551616 - 9223372036854775808 := by
  simp only [IntKind.wrap, IntKind.bits, IntKind.signed, Bool.true_and]
  split <;> rename_i h <;> simp only [ge_iff_le, decide_eq_true_eq] at h <;> omega
theorem wrap_u64 (n : Int) : IntKind.u64.wrap n = n % 18446744073709551616 := by simp [IntKind.wrap, IntKind.bits, IntKind.signed]
theorem wrap_u8 (n : Int) : IntKind.u8.wrap n = n % 256 := by simp [IntKind.wrap, IntKind.bits, IntKind.signed]

theorem addW_i64 {a b : Int} (h1 : -9223372036854775808 ≤ a + b) (h2 : a + b ≤ 9223372036854775807) : addW .i64 a b = a + b := by rw [addW_eq, wrap_i64]; omega
theorem subW_i64 {a b : Int} (h1 : -9223372036854775808 ≤ a - b) (h2 : a - b ≤ 9223372036854775807) : subW .i64 a b = a - b := by rw [subW_eq, wrap_i64]; omega
theorem mulW_i64 {a b : Int} (h1 : -9223372036854775808 ≤ a * b) (h2 : a * b ≤ 9223372036854775807) : mulW .i64 a b = a * b := by rw [mulW_eq, wrap_i64]; omega
theorem cvtW_i64 {a : Int} (h1 : -9223372036854775808 ≤ a) (h2 : a ≤ 9223372036854775807) : cvtW .i64 a = a := by rw [cvtW_eq, wrap_i64]; omega
theorem addW_u64 {a b : Int} (h1 : 0 ≤ a + b) (h2 : a + b ≤ 18446744073709551615) : addW .u64 a b = a + b := by rw [addW_eq, wrap_u64]; omega
theorem subW_u64 {a b : Int} (h1 : 0 ≤ a - b) (h2 : a - b ≤ 18446744073709551615) : subW .u64 a b = a - b := by rw [subW_eq, wrap_u64]; omega
theorem cvtW_u64 {a : Int} (h1 : 0 ≤ a) (h2 : a ≤ 18446744073709551615) : cvtW .u64 a = a := by rw [cvtW_eq, wrap_u64]; omega
theorem cvtW_u8 {a : Int} (h1 : 0 ≤ a) (h2 : a ≤ 255) : cvtW .u8 a = a := by rw [cvtW_eq, wrap_u8]; omega
theorem cvtW_u8' (a : Nat) : cvtW .u8 (a : Int) = ((a % 256 : Nat) : Int) := by rw [cvtW_eq, wrap_u8]; omega
theorem addW_u64' (a b : Nat) : addW .u64 (a : Int) (b : Int) = (((a + b) % 2 ^ 64 : Nat) : Int) := by rw [addW_eq, wrap_u64]; omega
theorem mulW_u64' (a b : Nat) : mulW .u64 (a : Int) (b : Int) = (((a * b) % 2 ^ 64 : Nat) : Int) := by
  rw [mulW_eq, wrap_u64, ← Int.natCast_mul]; omega

theorem andW_u64 (a b : Nat) (ha : a < 2 ^ 64) (hb : b < 2 ^ 64) : andW .u64 (a : Int) (b : Int) = ((a &&& b : Nat) : Int) := by rw [andW_eq]; exact bits_and_u64_nat a b (by omega) (by omega)
theorem orW_u64 (a b : Nat) (ha : a < 2 ^ 64) (hb : b < 2 ^ 64) : orW .u64 (a : Int) (b : Int) = ((a ||| b : Nat) : Int) := by rw [orW_eq]; exact bits_or_u64_nat a b (by omega) (by omega)
theorem andW_u64l (a : Nat) (b : Nat) (c : Int) (ha : a < 2 ^ 64) (hb : b < 2 ^ 64) (hc : c = (b : Int)) : andW .u64 (a : Int) c = ((a &&& b : Nat) : Int) := by rw [hc]; exact andW_u64 a b ha hb
theorem ofInt_nat (a : Nat) (ha : a < 2 ^ 64) : (BitVec.ofInt 64 (a : Int)).toNat = a := by
  rw [BitVec.ofInt_natCast, BitVec.toNat_ofNat]; exact Nat.mod_eq_of_lt ha
theorem xorW_u64 (a b : Nat) (ha : a < 2 ^ 64) (hb : b < 2 ^ 64) : xorW .u64 (a : Int) (b : Int) = ((a ^^^ b : Nat) : Int) := by rw [xorW_eq]; exact bits_xor_u64_nat a b (by omega) (by omega)
theorem andW_i64 (a b : Nat) (ha : a < 2 ^ 63) (hb : b < 2 ^ 63) : andW .i64 (a : Int) (b : Int) = ((a &&& b : Nat) : Int) := by
  rw [andW_eq]
  have hx : a &&& b < 2 ^ 63 := Nat.and_lt_two_pow _ hb
  show IntKind.i64.wrap ((BitVec.ofInt 64 (a : Int) &&& BitVec.ofInt 64 (b : Int)).toNat : Int) = _
  rw [BitVec.toNat_and, ofInt_nat a (by omega), ofInt_nat b (by omega), wrap_i64]
  omega
theorem and_add_or : ∀ (a b : Nat), a &&& b = 0 → a + b = a ||| b := by
  intro a
  induction a using Nat.div2Induction with
  | ind a ih =>
    intro b h
    by_cases ha : a = 0
    · subst ha; simp
    · have h1 := and_split 1 (a % 2) (a / 2) (b % 2) (b / 2) (by omega) (by omega)
      simp only [Nat.pow_one, Nat.div_add_mod] at h1
      rw [h] at h1
      have h2 := ih (by omega) (b / 2) (by omega)
      apply Nat.eq_of_testBit_eq
      intro i
      cases i with
      | zero =>
        have h3 : (a % 2) &&& (b % 2) = 0 := by omega
        rw [Nat.testBit_or, Nat.testBit_zero, Nat.testBit_zero, Nat.testBit_zero]
        have ea : a % 2 = 0 ∨ a % 2 = 1 := by omega
        have eb : b % 2 = 0 ∨ b % 2 = 1 := by omega
        rcases ea with ea | ea <;> rcases eb with eb | eb <;> rw [ea, eb] at h3 <;> simp [ea, eb] <;> first | omega | (simp at h3)
      | succ i =>
        have h3 : (a % 2) &&& (b % 2) = 0 := by omega
        have e : (a + b) / 2 = a / 2 + b / 2 := by
          have ea : a % 2 = 0 ∨ a % 2 = 1 := by omega
          have eb : b % 2 = 0 ∨ b % 2 = 1 := by omega
          rcases ea with ea | ea <;> rcases eb with eb | eb <;> rw [ea, eb] at h3 <;> first | omega | (simp at h3)
        rw [Nat.testBit_or, Nat.testBit_succ, Nat.testBit_succ, Nat.testBit_succ, e, h2, Nat.testBit_or]
theorem and_not (a b : Nat) (ha : a < 2 ^ 64) (hb : b < 2 ^ 64) : a &&& (2 ^ 64 - 1 - b) = a - (a &&& b) := by
  have h : (a &&& b) + (a &&& (2 ^ 64 - 1 - b)) = a := by
    have e : a &&& b &&& (a &&& (2 ^ 64 - 1 - b)) = 0 := by
      apply Nat.eq_of_testBit_eq
      intro i
      rw [show 2 ^ 64 - 1 - b = 2 ^ 64 - (b + 1) by omega]
      simp only [Nat.testBit_and, Nat.testBit_two_pow_sub_succ hb, Nat.zero_testBit]
      cases a.testBit i <;> cases b.testBit i <;> simp
    have e2 : (a &&& b) ||| (a &&& (2 ^ 64 - 1 - b)) = a := by
      apply Nat.eq_of_testBit_eq
      intro i
      rw [show 2 ^ 64 - 1 - b = 2 ^ 64 - (b + 1) by omega]
      simp only [Nat.testBit_and, Nat.testBit_or, Nat.testBit_two_pow_sub_succ hb]
      by_cases hi : i < 64
      · cases a.testBit i <;> cases b.testBit i <;> simp [hi]
      · have : a.testBit i = false := Nat.testBit_lt_two_pow (Nat.lt_of_lt_of_le ha (Nat.pow_le_pow_right (by decide) (by omega)))
        simp [this]
    rw [and_add_or, e2]; exact e
  omega
theorem notW_u64 (a : Nat) (ha : a < 2 ^ 64) : notW .u64 (a : Int) = ((2 ^ 64 - 1 - a : Nat) : Int) := by
  rw [notW_eq]
  have e : (if IntKind.u64.signed = true then (-1 : Int) else IntKind.u64.max) = ((2 ^ 64 - 1 : Nat) : Int) := by decide
  rw [e, bits_xor_u64_nat _ _ (by decide) (by omega)]
  congr 1
  apply Nat.eq_of_testBit_eq
  intro i
  rw [Nat.testBit_xor, Nat.testBit_two_pow_sub_one, show 2 ^ 64 - 1 - a = 2 ^ 64 - (a + 1) by omega, Nat.testBit_two_pow_sub_succ ha]
  by_cases hi : i < 64
  · simp [hi]
  · have : a.testBit i = false := Nat.testBit_lt_two_pow (Nat.lt_of_lt_of_le ha (Nat.pow_le_pow_right (by decide) (by omega)))
    simp [hi, this]
theorem shrW_u64 (a b : Nat) (ha : a < 2 ^ 64) : shrW .u64 (a : Int) (b : Int) = ((a / 2 ^ b : Nat) : Int) := by
  rw [shrW_eq]
  have hb : (IntKind.u64.bits) = 64 := rfl
  rw [hb, Int.toNat_natCast]
  have e : (2 : Int) ^ min b 64 = ((2 ^ min b 64 : Nat) : Int) := by simp
  rw [e, Int.fdiv_eq_ediv_of_nonneg _ (Int.natCast_nonneg _), ← Int.natCast_ediv]
  congr 1
  by_cases h : b ≤ 64
  · rw [show min b 64 = b by omega]
  · rw [show min b 64 = 64 by omega, Nat.div_eq_of_lt ha, Nat.div_eq_of_lt (Nat.lt_of_lt_of_le ha (Nat.pow_le_pow_right (by decide) (by omega)))]
theorem shlW_u64 (a b : Nat) (_ha : a < 2 ^ 64) : shlW .u64 (a : Int) (b : Int) = ((a * 2 ^ b % 2 ^ 64 : Nat) : Int) := by
  rw [shlW_eq]
  have hb : (IntKind.u64.bits) = 64 := rfl
  rw [hb, Int.toNat_natCast, wrap_u64]
  have e : (2 : Int) ^ min b 64 = ((2 ^ min b 64 : Nat) : Int) := by simp
  rw [e, ← Int.natCast_mul]
  by_cases h : b ≤ 64
  · rw [show min b 64 = b by omega]; omega
  · rw [show min b 64 = 64 by omega]
    have h1 : a * 2 ^ 64 % 2 ^ 64 = 0 := Nat.mul_mod_left _ _
    have h2 : a * 2 ^ b % 2 ^ 64 = 0 := by
      rw [show b = (b - 64) + 64 by omega, Nat.pow_add, ← Nat.mul_assoc]; exact Nat.mul_mod_left _ _
    rw [h2]; omega
theorem andNotW_u64 (a b : Nat) (ha : a < 2 ^ 64) (hb : b < 2 ^ 64) : andNotW .u64 (a : Int) (b : Int) = ((a - (a &&& b) : Nat) : Int) := by
  rw [andNotW_eq]
  show IntKind.u64.wrap ((BitVec.ofInt 64 (a : Int) &&& ~~~ BitVec.ofInt 64 (b : Int)).toNat : Int) = _
  rw [BitVec.toNat_and, BitVec.toNat_not, ofInt_nat a ha, ofInt_nat b hb, and_not a b ha hb, wrap_u64]
  omega
theorem remW_nat (a b : Nat) : remW (a : Int) (b : Int) = ((a % b : Nat) : Int) := by rw [remW_eq, ← Int.ofNat_tmod]
theorem remW_nat' {a b : Int} (ha : 0 ≤ a) : remW a b = a % b := by rw [remW_eq, Int.tmod_eq_emod_of_nonneg ha]
theorem quoW_nat {a b : Int} (ha : 0 ≤ a) (hb : 0 < b) (h : a ≤ 9223372036854775807) : quoW .i64 a b = a / b := by
  rw [quoW_eq, Int.tdiv_eq_ediv_of_nonneg ha, wrap_i64]
  have h1 : 0 ≤ a / b := Int.ediv_nonneg ha (Int.le_of_lt hb)
  have h2 : a / b ≤ a := Int.ediv_le_self _ ha
  omega
/-- a bit, as it is tested -/
theorem bit_mod (x i : Nat) : (x / 2 ^ i % 2 = 1) ↔ x.testBit i = true := by
  rw [Nat.testBit_eq_decide_div_mod_eq, decide_eq_true_eq]
theorem bit_and (x : Nat) : x &&& 1 = x % 2 := Nat.and_one_is_mod x
end Go.Ev
