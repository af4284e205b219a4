/- Words: what is true of the bits of whole numbers (no program). -/
import Derived.Test.YtllgdcepgelahaaDoorEv23
import Derived.Laws.MathBits
import Derived.Laws.Bits64b
import Derived.Lib.TrailingZeros
namespace Go.Ev

/-- ones among the first n bits -/
def pc (x : Nat) : Nat → Nat
  | 0 => 0
  | n + 1 => pc x n + (x.testBit n).toNat
theorem pc_le (x : Nat) : ∀ n, pc x n ≤ n
  | 0 => Nat.le_refl _
  | n + 1 => by
    have := pc_le x n
    have := Bool.toNat_le (x.testBit n)
    simp only [pc]; omega
theorem pc_zero : ∀ n, pc 0 n = 0
  | 0 => rfl
  | n + 1 => by simp [pc, pc_zero n]
theorem pc_mono (x : Nat) {n m : Nat} (h : n ≤ m) : pc x n ≤ pc x m := by
  induction h with
  | refl => exact Nat.le_refl _
  | step _ ih => simp only [pc]; omega
theorem pc_div (x n : Nat) : ∀ m, pc (x / 2 ^ n) m + pc x n = pc x (n + m)
  | 0 => by simp [pc]
  | m + 1 => by
    have := pc_div x n m
    rw [← Nat.add_assoc]
    simp only [pc]
    rw [← Nat.shiftRight_eq_div_pow, Nat.testBit_shiftRight, Nat.shiftRight_eq_div_pow]
    omega
theorem pc_mod (x m : Nat) : ∀ n, pc (x % 2 ^ m) n = pc x (min m n)
  | 0 => by simp [pc]
  | n + 1 => by
    simp only [pc, pc_mod x m n, Nat.testBit_mod_two_pow]
    by_cases h : n < m
    · simp only [h, decide_true, Bool.true_and]
      rw [show min m n = n by omega, show min m (n + 1) = n + 1 by omega]; rfl
    · simp only [h, decide_false, Bool.false_and, Bool.toNat_false, Nat.add_zero]
      rw [show min m n = m by omega, show min m (n + 1) = m by omega]
theorem pc_of_lt {x n m : Nat} (h : x < 2 ^ n) (hm : n ≤ m) : pc x m = pc x n := by
  have e : x % 2 ^ n = x := Nat.mod_eq_of_lt h
  have h1 := pc_mod x n m
  rw [e, show min n m = n by omega] at h1
  exact h1
theorem pc_low (x n : Nat) : pc x (n + 1) = x % 2 + pc (x / 2) n := by
  have h := pc_div x 1 n
  simp only [pc, Nat.pow_one, Nat.zero_add, Nat.testBit_zero] at h
  rw [show n + 1 = 1 + n by omega, ← h]
  have : (decide (x % 2 = 1)).toNat = x % 2 := by
    by_cases h : x % 2 = 1
    · simp [h]
    · have : x % 2 = 0 := by omega
      simp [this]
  omega
theorem pc_lt_of_bit {x i n : Nat} (hi : x.testBit i = true) (hn : i < n) : pc x i + 1 ≤ pc x n := by
  have := pc_mono x (show i + 1 ≤ n from hn)
  simp only [pc, hi, Bool.toNat_true] at this
  exact this
theorem pc_eq_zero (x : Nat) : ∀ n : Nat, pc x n = 0 ↔ ∀ i, i < n → x.testBit i = false
  | 0 => by simp [pc]
  | n + 1 => by
    have ih := pc_eq_zero x n
    simp only [pc]
    constructor
    · intro h i hi
      by_cases e : i = n
      · subst e
        cases hb : x.testBit i with
        | false => rfl
        | true => rw [hb] at h; simp at h
      · exact ih.1 (by omega) i (by omega)
    · intro h
      rw [ih.2 fun i hi => h i (by omega), h n (by omega)]; rfl
theorem pc_one_of (n : Nat) : ∀ m, m ≤ n → pc (2 ^ n - 1) m = m
  | 0, _ => rfl
  | m + 1, h => by
    have ih := pc_one_of n m (by omega)
    have : decide (m < n) = true := by simp; omega
    simp only [pc, ih, Nat.testBit_two_pow_sub_one, this, Bool.toNat_true]
theorem pc_not {x n : Nat} (hx : x < 2 ^ n) : ∀ m, m ≤ n → pc (2 ^ n - 1 - x) m + pc x m = m
  | 0, _ => rfl
  | m + 1, h => by
    have := pc_not hx m (by omega)
    have e : 2 ^ n - 1 - x = 2 ^ n - (x + 1) := by omega
    simp only [pc]
    rw [e] at this ⊢
    rw [Nat.testBit_two_pow_sub_succ hx]
    have : (decide (m < n)) = true := by simp; omega
    rw [this]
    cases x.testBit m <;> simp <;> omega

/-! ### the count, a word at a time -/
theorem and_split (w a b c d : Nat) (ha : a < 2 ^ w) (hc : c < 2 ^ w) : (2 ^ w * b + a) &&& (2 ^ w * d + c) = 2 ^ w * (b &&& d) + (a &&& c) := by
  apply Nat.eq_of_testBit_eq
  intro i
  rw [Nat.testBit_and, Nat.testBit_two_pow_mul_add _ ha, Nat.testBit_two_pow_mul_add _ hc, Nat.testBit_two_pow_mul_add _ (Nat.lt_of_le_of_lt Nat.and_le_left ha)]
  split <;> rw [Nat.testBit_and]
def fld (w : Nat) : Nat → Nat → Nat
  | 0, _ => 0
  | n + 1, x => 2 ^ w * fld w n (x / 2 ^ w) + pc x w
def msk (w : Nat) : Nat → Nat
  | 0 => 0
  | n + 1 => 2 ^ w * (2 ^ w * msk w n) + (2 ^ w - 1)
theorem pc_lt (x w : Nat) : pc x w < 2 ^ w := Nat.lt_of_le_of_lt (pc_le x w) Nat.lt_two_pow_self
theorem and_up (w F M : Nat) : F &&& (2 ^ w * M) = 2 ^ w * (F / 2 ^ w &&& M) := by
  have hp : 0 < 2 ^ w := Nat.two_pow_pos w
  have h := and_split w (F % 2 ^ w) (F / 2 ^ w) 0 M (Nat.mod_lt _ hp) hp
  rw [Nat.div_add_mod, Nat.add_zero, Nat.and_zero, Nat.add_zero] at h
  exact h
theorem and_low {w c : Nat} (h : c < 2 ^ w) : c &&& (2 ^ w - 1) = c := by
  rw [Nat.and_two_pow_sub_one_eq_mod, Nat.mod_eq_of_lt h]
theorem fld_two (w n x : Nat) : fld w (2 * (n + 1)) x = 2 ^ w * (2 ^ w * fld w (2 * n) (x / 2 ^ (2 * w)) + pc (x / 2 ^ w) w) + pc x w := by
  rw [show 2 * (n + 1) = (2 * n + 1) + 1 by omega]
  simp only [fld]
  rw [Nat.div_div_eq_div_mul, ← Nat.pow_add, show w + w = 2 * w by omega]
theorem pc_two (w x : Nat) : pc (x / 2 ^ w) w + pc x w = pc x (2 * w) := by
  rw [pc_div, show w + w = 2 * w by omega]
theorem mul_add_div' (p a b : Nat) (h : b < p) : (p * a + b) / p = a := by
  rw [Nat.mul_add_div (by omega), Nat.div_eq_of_lt h, Nat.add_zero]
theorem swar1 (w : Nat) : ∀ n x, (fld w (2 * n) x / 2 ^ w &&& msk w n) + (fld w (2 * n) x &&& msk w n) = fld (2 * w) n x
  | 0, x => by simp [fld, msk]
  | n + 1, x => by
    have hp : 0 < 2 ^ w := Nat.two_pow_pos w
    have c1 := pc_lt (x / 2 ^ w) w
    have c0 := pc_lt x w
    have h1 : 2 ^ w - 1 < 2 ^ w := by omega
    rw [fld_two]
    simp only [msk, fld]
    rw [mul_add_div' _ _ _ c0, and_split w _ _ _ _ c1 h1, and_split w _ _ _ _ c0 h1, and_low c1, and_low c0, and_up, and_up, mul_add_div' _ _ _ c1, ← swar1 w n (x / 2 ^ (2 * w)), ← pc_two w x, show (2 : Nat) ^ (2 * w) = 2 ^ w * 2 ^ w by rw [← Nat.pow_add]; congr 1; omega, Nat.mul_add, Nat.mul_assoc, Nat.mul_assoc]
    omega
theorem fld_low (w n x : Nat) : fld w n x % 2 ^ w ≤ w := by
  cases n with
  | zero => simp [fld]
  | succ n => simp only [fld]; rw [Nat.mul_add_mod, Nat.mod_eq_of_lt (pc_lt x w)]; exact pc_le x w
theorem swar2 (w : Nat) (hw : 2 * w < 2 ^ w) : ∀ n x, ((fld w (2 * n) x / 2 ^ w + fld w (2 * n) x) &&& msk w n) = fld (2 * w) n x
  | 0, x => by simp [fld, msk]
  | n + 1, x => by
    have hp : 0 < 2 ^ w := Nat.two_pow_pos w
    have c1 := pc_le (x / 2 ^ w) w
    have c0 := pc_le x w
    have h1 : 2 ^ w - 1 < 2 ^ w := by omega
    have c0' : pc x w < 2 ^ w := by omega
    rw [fld_two]
    rw [mul_add_div' _ _ _ c0']
    have ih := swar2 w hw n (x / 2 ^ (2 * w))
    have hl := fld_low w (2 * n) (x / 2 ^ (2 * w))
    generalize fld w (2 * n) (x / 2 ^ (2 * w)) = F at ih hl ⊢
    have e1 : 2 ^ w * F + pc (x / 2 ^ w) w + (2 ^ w * (2 ^ w * F + pc (x / 2 ^ w) w) + pc x w) = 2 ^ w * (F + (2 ^ w * F + pc (x / 2 ^ w) w)) + (pc (x / 2 ^ w) w + pc x w) := by
      rw [Nat.mul_add (2 ^ w) F]; omega
    have e2 : (F + (2 ^ w * F + pc (x / 2 ^ w) w)) / 2 ^ w = F / 2 ^ w + F := by
      have := Nat.div_add_mod F (2 ^ w)
      have e3 : F + (2 ^ w * F + pc (x / 2 ^ w) w) = 2 ^ w * (F / 2 ^ w + F) + (F % 2 ^ w + pc (x / 2 ^ w) w) := by rw [Nat.mul_add]; omega
      rw [e3, mul_add_div' _ _ _ (by omega)]
    simp only [msk, fld]
    rw [e1, and_split w _ _ _ _ (by omega) h1, and_low (by omega), and_up, e2, ih, pc_two, show (2 : Nat) ^ (2 * w) = 2 ^ w * 2 ^ w by rw [← Nat.pow_add]; congr 1; omega, Nat.mul_assoc]
theorem fld_one : ∀ n x, x < 2 ^ n → fld 1 n x = x
  | 0, x, h => by simp at h; subst h; rfl
  | n + 1, x, h => by
    simp only [fld, Nat.pow_one]
    rw [fld_one n (x / 2) (by rw [Nat.pow_succ] at h; omega)]
    have := pc_low x 0
    simp only [pc] at this ⊢
    omega
theorem fld_lt (w n x : Nat) : fld w n x < 2 ^ (w * n) := by
  induction n generalizing x with
  | zero => simp [fld]
  | succ n ih =>
    simp only [fld]
    have h := ih (x / 2 ^ w)
    have c := pc_lt x w
    rw [Nat.mul_succ, Nat.pow_add]
    have : 2 ^ w * (fld w n (x / 2 ^ w) + 1) ≤ 2 ^ w * 2 ^ (w * n) := Nat.mul_le_mul_left _ h
    rw [Nat.mul_comm (2 ^ (w * n))]
    rw [Nat.mul_add] at this
    omega
theorem swar_end (c0 c1 c2 c3 c4 c5 c6 c7 y : Nat) (h0 : c0 ≤ 8) (h1 : c1 ≤ 8) (h2 : c2 ≤ 8) (h3 : c3 ≤ 8) (h4 : c4 ≤ 8) (h5 : c5 ≤ 8) (h6 : c6 ≤ 8) (h7 : c7 ≤ 8)
    (hy : y = c0 + 256 * (c1 + 256 * (c2 + 256 * (c3 + 256 * (c4 + 256 * (c5 + 256 * (c6 + 256 * c7))))))) :
    (((y + y / 2 ^ 8) % 2 ^ 64 + (y + y / 2 ^ 8) % 2 ^ 64 / 2 ^ 16) % 2 ^ 64 + ((y + y / 2 ^ 8) % 2 ^ 64 + (y + y / 2 ^ 8) % 2 ^ 64 / 2 ^ 16) % 2 ^ 64 / 2 ^ 32) % 2 ^ 64 % 128 = c0 + c1 + c2 + c3 + c4 + c5 + c6 + c7 := by
  have e1 : (y + y / 2 ^ 8) % 2 ^ 64 = (c0 + c1) + 256 * ((c1 + c2) + 256 * ((c2 + c3) + 256 * ((c3 + c4) + 256 * ((c4 + c5) + 256 * ((c5 + c6) + 256 * ((c6 + c7) + 256 * c7)))))) := by omega
  rw [e1]
  clear e1
  have d2 : ∀ z : Nat, z = (c0 + c1) + 256 * ((c1 + c2) + 256 * ((c2 + c3) + 256 * ((c3 + c4) + 256 * ((c4 + c5) + 256 * ((c5 + c6) + 256 * ((c6 + c7) + 256 * c7)))))) → z / 2 ^ 16 = (c2 + c3) + 256 * ((c3 + c4) + 256 * ((c4 + c5) + 256 * ((c5 + c6) + 256 * ((c6 + c7) + 256 * c7)))) := by
    intro z hz
    have : z = 2 ^ 16 * ((c2 + c3) + 256 * ((c3 + c4) + 256 * ((c4 + c5) + 256 * ((c5 + c6) + 256 * ((c6 + c7) + 256 * c7))))) + ((c0 + c1) + 256 * (c1 + c2)) := by omega
    rw [this, mul_add_div' _ _ _ (by omega)]
  have d3 : ∀ z : Nat, z = (c0 + c1 + c2 + c3) + 256 * ((c1 + c2 + c3 + c4) + 256 * ((c2 + c3 + c4 + c5) + 256 * ((c3 + c4 + c5 + c6) + 256 * ((c4 + c5 + c6 + c7) + 256 * ((c5 + c6 + c7) + 256 * ((c6 + c7) + 256 * c7)))))) → z / 2 ^ 32 = (c4 + c5 + c6 + c7) + 256 * ((c5 + c6 + c7) + 256 * ((c6 + c7) + 256 * c7)) := by
    intro z hz
    have : z = 2 ^ 32 * ((c4 + c5 + c6 + c7) + 256 * ((c5 + c6 + c7) + 256 * ((c6 + c7) + 256 * c7))) + ((c0 + c1 + c2 + c3) + 256 * ((c1 + c2 + c3 + c4) + 256 * ((c2 + c3 + c4 + c5) + 256 * (c3 + c4 + c5 + c6)))) := by omega
    rw [this, mul_add_div' _ _ _ (by omega)]
  rw [d2 _ rfl]
  clear d2
  have e2 : ((c0 + c1) + 256 * ((c1 + c2) + 256 * ((c2 + c3) + 256 * ((c3 + c4) + 256 * ((c4 + c5) + 256 * ((c5 + c6) + 256 * ((c6 + c7) + 256 * c7)))))) + ((c2 + c3) + 256 * ((c3 + c4) + 256 * ((c4 + c5) + 256 * ((c5 + c6) + 256 * ((c6 + c7) + 256 * c7)))))) % 2 ^ 64
    = (c0 + c1 + c2 + c3) + 256 * ((c1 + c2 + c3 + c4) + 256 * ((c2 + c3 + c4 + c5) + 256 * ((c3 + c4 + c5 + c6) + 256 * ((c4 + c5 + c6 + c7) + 256 * ((c5 + c6 + c7) + 256 * ((c6 + c7) + 256 * c7)))))) := by omega
  rw [e2, d3 _ rfl]
  clear e2 d3
  omega
/-- the count of ones, as math/bits makes it -/
theorem ones_count (x : Nat) (hx : x < 2 ^ 64) (a b c d : Nat)
    (ha : a = ((x / 2 ^ 1 &&& 6148914691236517205) + (x &&& 6148914691236517205)) % 2 ^ 64)
    (hb : b = ((a / 2 ^ 2 &&& 3689348814741910323) + (a &&& 3689348814741910323)) % 2 ^ 64)
    (hc : c = (b / 2 ^ 4 + b) % 2 ^ 64) (hd : d = c &&& 1085102592571150095) :
    (((d + d / 2 ^ 8) % 2 ^ 64 + (d + d / 2 ^ 8) % 2 ^ 64 / 2 ^ 16) % 2 ^ 64 + ((d + d / 2 ^ 8) % 2 ^ 64 + (d + d / 2 ^ 8) % 2 ^ 64 / 2 ^ 16) % 2 ^ 64 / 2 ^ 32) % 2 ^ 64 % 128 = pc x 64 := by
  have m1 : msk 1 32 = 6148914691236517205 := by decide +kernel
  have m2 : msk 2 16 = 3689348814741910323 := by decide +kernel
  have m3 : msk 4 8 = 1085102592571150095 := by decide +kernel
  have s1 := swar1 1 32 x
  rw [fld_one _ x hx, m1] at s1
  have l1 := fld_lt 2 32 x
  have ea : a = fld 2 32 x := by rw [ha, s1]; exact Nat.mod_eq_of_lt l1
  have s2 := swar1 2 16 x
  rw [m2] at s2
  have l2 := fld_lt 4 16 x
  have eb : b = fld 4 16 x := by rw [hb, ea, s2]; exact Nat.mod_eq_of_lt l2
  have s3 := swar2 4 (by decide) 8 x
  rw [m3] at s3
  have l4 : fld 4 16 x < 2 ^ 63 := by
    have : fld 4 16 x = 2 ^ 4 * fld 4 15 (x / 2 ^ 4) + pc x 4 := rfl
    have h15 : ∀ n y, fld 4 n y ≤ 4 * (2 ^ (4 * n) - 1) / 15 := by
      intro n
      induction n with
      | zero => intro y; simp [fld]
      | succ n ih =>
        intro y
        have h1 := ih (y / 2 ^ 4)
        have h2 := pc_le y 4
        have h3 : 0 < 2 ^ (4 * n) := Nat.two_pow_pos _
        simp only [fld]
        rw [Nat.mul_succ, Nat.pow_add]
        omega
    have := h15 16 x
    omega
  have ec : c = b / 2 ^ 4 + b := by rw [hc, eb]; exact Nat.mod_eq_of_lt (by omega)
  have ed : d = fld 8 8 x := by rw [hd, ec, eb]; exact s3
  have q : ∀ n y, fld 8 (n + 1) y = pc y 8 + 256 * fld 8 n (y / 2 ^ 8) := fun n y => by simp only [fld]; omega
  have p : ∀ n y, pc (y / 2 ^ n) 8 = pc y (n + 8) - pc y n := fun n y => by have := pc_div y n 8; omega
  have dd : ∀ n y, y / 2 ^ n / 2 ^ 8 = y / 2 ^ (n + 8) := fun n y => by rw [Nat.div_div_eq_div_mul, ← Nat.pow_add]
  rw [swar_end (pc x 8) (pc (x / 2 ^ 8) 8) (pc (x / 2 ^ 16) 8) (pc (x / 2 ^ 24) 8) (pc (x / 2 ^ 32) 8) (pc (x / 2 ^ 40) 8) (pc (x / 2 ^ 48) 8) (pc (x / 2 ^ 56) 8) d (pc_le _ _) (pc_le _ _) (pc_le _ _) (pc_le _ _) (pc_le _ _) (pc_le _ _) (pc_le _ _) (pc_le _ _)
    (by rw [ed, q, q, q, q, q, q, q, q, dd, dd, dd, dd, dd, dd]; simp [fld])]
  have a1 := pc_mono x (show 8 ≤ 16 by decide)
  have a2 := pc_mono x (show 16 ≤ 24 by decide)
  have a3 := pc_mono x (show 24 ≤ 32 by decide)
  have a4 := pc_mono x (show 32 ≤ 40 by decide)
  have a5 := pc_mono x (show 40 ≤ 48 by decide)
  have a6 := pc_mono x (show 48 ≤ 56 by decide)
  have a7 := pc_mono x (show 56 ≤ 64 by decide)
  rw [p, p, p, p, p, p, p]
  simp only [Nat.reduceAdd]
  omega
end Go.Ev
