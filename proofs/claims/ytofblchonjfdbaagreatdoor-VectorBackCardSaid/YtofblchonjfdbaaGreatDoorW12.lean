/- Ways, places among words, words by places (no program). -/
import Derived.Test.YtofblchonjfdbaaGreatDoorWA
namespace Go.Ev
open Go
/-- how many ways -/
def ch : Nat → Nat → Nat
  | _, 0 => 1
  | 0, _ + 1 => 0
  | n + 1, k + 1 => ch n k + ch n (k + 1)
theorem ch_zero (n : Nat) : ch n 0 = 1 := by cases n <;> rfl
theorem ch_more : ∀ n k, n < k → ch n k = 0
  | 0, 0, h => by omega
  | 0, k + 1, _ => rfl
  | n + 1, 0, h => by omega
  | n + 1, k + 1, h => by rw [ch, ch_more n k (by omega), ch_more n (k + 1) (by omega)]
theorem ch_self : ∀ n, ch n n = 1
  | 0 => rfl
  | n + 1 => by rw [ch, ch_self n, ch_more n (n + 1) (by omega)]
theorem ch_pos : ∀ n k, k ≤ n → 0 < ch n k
  | _, 0, _ => by rw [ch_zero]; decide
  | 0, k + 1, h => by omega
  | n + 1, k + 1, h => by rw [ch]; have := ch_pos n k (by omega); omega
theorem ch_le_two : ∀ n k, ch n k ≤ 2 ^ n
  | n, 0 => by rw [ch_zero]; exact Nat.one_le_two_pow
  | 0, k + 1 => by simp [ch]
  | n + 1, k + 1 => by rw [ch, Nat.pow_succ]; have := ch_le_two n k; have := ch_le_two n (k + 1); omega
theorem ch_lt {n k : Nat} (h : n ≤ 62) : ch n k ≤ 4611686018427387904 := Nat.le_trans (ch_le_two n k) (Nat.le_trans (Nat.pow_le_pow_right (by decide) h) (by decide))
theorem ch_mono (n k : Nat) : ch n k ≤ ch (n + 1) k := by
  cases k with
  | zero => rw [ch_zero, ch_zero]; exact Nat.le_refl _
  | succ k => rw [ch]; omega
theorem ch_sym : ∀ n k, k ≤ n → ch n k = ch n (n - k)
  | 0, 0, _ => rfl
  | 0, k + 1, h => by omega
  | n + 1, 0, _ => by rw [ch_zero, Nat.sub_zero, ch_self]
  | n + 1, k + 1, h => by
    by_cases e : k = n
    · subst e; rw [ch_self, Nat.sub_self, ch_zero]
    · rw [ch, show n + 1 - (k + 1) = (n - (k + 1)) + 1 by omega, ch, ch_sym n k (by omega), ch_sym n (k + 1) (by omega), show n - (k + 1) + 1 = n - k by omega]; omega
/-- the same, by products -/
def cm : Nat → Nat → Nat
  | _, 0 => 1
  | 0, _ + 1 => 0
  | n + 1, k + 1 => cm n k * (n + 1) / (k + 1)
theorem ch_mul : ∀ n k, ch (n + 1) (k + 1) * (k + 1) = ch n k * (n + 1)
  | 0, 0 => rfl
  | 0, k + 1 => by simp [ch]
  | n + 1, 0 => by
    have := ch_mul n 0
    rw [ch_zero] at this ⊢
    rw [ch, ch_zero]; omega
  | n + 1, k + 1 => by
    have h1 := ch_mul n k
    have h2 := ch_mul n (k + 1)
    have e1 : ch (n + 1) (k + 1) = ch n k + ch n (k + 1) := rfl
    have e2 : ch (n + 1) (k + 1 + 1) = ch n (k + 1) + ch n (k + 1 + 1) := rfl
    have e3 : ch (n + 1 + 1) (k + 1 + 1) = ch (n + 1) (k + 1) + ch (n + 1) (k + 1 + 1) := rfl
    rw [e3, Nat.add_mul, h2, e1]
    rw [e1] at h1
    simp only [Nat.add_mul, Nat.mul_add, Nat.mul_one] at h1 ⊢
    omega
theorem cm_eq : ∀ n k, ch n k = cm n k
  | n, 0 => by rw [ch_zero]; cases n <;> rfl
  | 0, k + 1 => rfl
  | n + 1, k + 1 => by
    have h := ch_mul n k
    rw [cm, ← cm_eq n k, ← h, Nat.mul_div_cancel _ (by omega)]
/-- a row's sum, up to a place -/
def chS (n : Nat) : Nat → Nat
  | 0 => 0
  | k + 1 => chS n k + ch n k
theorem chS_succ (n : Nat) : ∀ k, chS (n + 1) (k + 1) = chS n (k + 1) + chS n k
  | 0 => by simp [chS, ch_zero]
  | k + 1 => by
    have h := chS_succ n k
    have e1 : chS (n + 1) (k + 1 + 1) = chS (n + 1) (k + 1) + ch (n + 1) (k + 1) := rfl
    have e2 : chS n (k + 1 + 1) = chS n (k + 1) + ch n (k + 1) := rfl
    have e3 : chS n (k + 1) = chS n k + ch n k := rfl
    rw [e1, h, e2, ch]; omega
theorem chS_more (n : Nat) : chS n (n + 2) = chS n (n + 1) := by
  have : chS n (n + 2) = chS n (n + 1) + ch n (n + 1) := rfl
  rw [this, ch_more n (n + 1) (by omega)]; rfl
theorem chS_all : ∀ n, chS n (n + 1) = 2 ^ n
  | 0 => rfl
  | n + 1 => by rw [chS_succ, chS_more, chS_all n, Nat.pow_succ]; omega
theorem chS_mono (n : Nat) {a b : Nat} (h : a ≤ b) : chS n a ≤ chS n b := by
  induction h with
  | refl => exact Nat.le_refl _
  | step _ ih => exact Nat.le_trans ih (Nat.le_add_right _ _)
/-! ### places among words -/
def offN (x : Nat) : Nat → Nat
  | 0 => 0
  | n + 1 => offN x n + (if x.testBit n = true then ch n (pc x (n + 1)) else 0)
theorem pc_succ (x n : Nat) : pc x (n + 1) = pc x n + (if x.testBit n = true then 1 else 0) := by
  simp only [pc]
  cases x.testBit n <;> rfl
theorem offN_lt (x : Nat) : ∀ n, offN x n < ch n (pc x n)
  | 0 => by simp [offN, pc, ch]
  | n + 1 => by
    have h := offN_lt x n
    have hs := pc_succ x n
    simp only [offN]
    by_cases hb : x.testBit n = true
    · rw [if_pos hb] at hs ⊢
      rw [hs, ch]; omega
    · rw [if_neg hb] at hs ⊢
      rw [hs, Nat.add_zero, Nat.add_zero]
      exact Nat.lt_of_lt_of_le h (ch_mono _ _)
theorem offN_congr {x y : Nat} : ∀ n, (∀ i, i < n → x.testBit i = y.testBit i) → pc x n = pc y n ∧ offN x n = offN y n
  | 0, _ => ⟨rfl, rfl⟩
  | n + 1, h => by
    obtain ⟨h1, h2⟩ := offN_congr n fun i hi => h i (by omega)
    have hn := h n (by omega)
    have hp : pc x (n + 1) = pc y (n + 1) := by rw [pc_succ, pc_succ, h1, hn]
    exact ⟨hp, by simp only [offN, h2, hp, hn]⟩
theorem offN_mod (x m n : Nat) (h : n ≤ m) : pc (x % 2 ^ m) n = pc x n ∧ offN (x % 2 ^ m) n = offN x n :=
  offN_congr n fun i hi => by rw [Nat.testBit_mod_two_pow, decide_eq_true (by omega), Bool.true_and]
theorem offN_top {x n : Nat} (h : x < 2 ^ n) : ∀ d, offN x (n + d) = offN x n ∧ pc x (n + d) = pc x n
  | 0 => ⟨rfl, rfl⟩
  | d + 1 => by
    obtain ⟨h1, h2⟩ := offN_top h d
    have hb : x.testBit (n + d) = false := Nat.testBit_lt_two_pow (Nat.lt_of_lt_of_le h (Nat.pow_le_pow_right (by decide) (by omega)))
    rw [← Nat.add_assoc]
    simp only [offN, pc_succ, hb, h1, h2]
    exact ⟨rfl, rfl⟩
/-- of words of one class the less one has the less place -/
theorem offN_order (x y : Nat) : ∀ n, pc x n = pc y n → ((x % 2 ^ n < y % 2 ^ n ↔ offN x n < offN y n) ∧ (x % 2 ^ n = y % 2 ^ n ↔ offN x n = offN y n))
  | 0, _ => by simp [offN, Nat.mod_one]
  | n + 1, h => by
    have e1 := Nat.mod_pow_succ (b := 2) (k := n) (x := x)
    have e2 := Nat.mod_pow_succ (b := 2) (k := n) (x := y)
    have l1 := Nat.mod_lt x (Nat.two_pow_pos n)
    have l2 := Nat.mod_lt y (Nat.two_pow_pos n)
    have o1 := offN_lt x n
    have o2 := offN_lt y n
    have b1 := bit_mod x n
    have b2 := bit_mod y n
    have s1 := pc_succ x n
    have s2 := pc_succ y n
    have m1 : x / 2 ^ n % 2 < 2 := Nat.mod_lt _ (by decide)
    have m2 : y / 2 ^ n % 2 < 2 := Nat.mod_lt _ (by decide)
    simp only [offN]
    by_cases hx : x.testBit n = true <;> by_cases hy : y.testBit n = true
    · have g1 := b1.2 hx
      have g2 := b2.2 hy
      rw [if_pos hx] at s1 ⊢; rw [if_pos hy] at s2 ⊢
      have ih := offN_order x y n (by omega)
      rw [g1] at e1; rw [g2] at e2
      rw [e1, e2, h]; omega
    · have g1 := b1.2 hx
      have g2 : y / 2 ^ n % 2 = 0 := by have : ¬ y / 2 ^ n % 2 = 1 := fun k => hy (b2.1 k); omega
      rw [if_pos hx] at s1 ⊢; rw [if_neg hy] at s2 ⊢
      rw [g1] at e1; rw [g2] at e2
      have : pc x (n + 1) = pc y n := by omega
      rw [e1, e2, this]; omega
    · have g2 := b2.2 hy
      have g1 : x / 2 ^ n % 2 = 0 := by have : ¬ x / 2 ^ n % 2 = 1 := fun k => hx (b1.1 k); omega
      rw [if_neg hx] at s1 ⊢; rw [if_pos hy] at s2 ⊢
      rw [g1] at e1; rw [g2] at e2
      have : pc y (n + 1) = pc x n := by omega
      rw [e1, e2, this]; omega
    · have g1 : x / 2 ^ n % 2 = 0 := by have : ¬ x / 2 ^ n % 2 = 1 := fun k => hx (b1.1 k); omega
      have g2 : y / 2 ^ n % 2 = 0 := by have : ¬ y / 2 ^ n % 2 = 1 := fun k => hy (b2.1 k); omega
      rw [if_neg hx] at s1 ⊢; rw [if_neg hy] at s2 ⊢
      have ih := offN_order x y n (by omega)
      rw [g1] at e1; rw [g2] at e2
      rw [e1, e2]; omega
/-! ### words by places -/
def blkN : Nat → Nat → Nat → Nat
  | 0, _, _ => 0
  | n + 1, k, off => if k = 0 then 0 else if ch n k ≤ off then 2 ^ n + blkN n (k - 1) (off - ch n k) else blkN n k off
theorem blkN_lt : ∀ n k off, blkN n k off < 2 ^ n
  | 0, _, _ => by simp [blkN]
  | n + 1, k, off => by
    simp only [blkN]
    have h1 := blkN_lt n (k - 1) (off - ch n k)
    have h2 := blkN_lt n k off
    have := Nat.two_pow_pos n
    rw [Nat.pow_succ]
    split
    · omega
    · split <;> omega
theorem blkN_zero : ∀ n off, blkN n 0 off = 0
  | 0, _ => rfl
  | n + 1, off => by simp [blkN]
theorem blkN_off (x : Nat) : ∀ n, blkN n (pc x n) (offN x n) = x % 2 ^ n
  | 0 => by simp [blkN, Nat.mod_one]
  | n + 1 => by
    have e1 := Nat.mod_pow_succ (b := 2) (k := n) (x := x)
    have b1 := bit_mod x n
    have ih := blkN_off x n
    have hs := pc_succ x n
    have o1 := offN_lt x n
    have m1 : x / 2 ^ n % 2 < 2 := Nat.mod_lt _ (by decide)
    by_cases hx : x.testBit n = true
    · have g1 := b1.2 hx
      have eo : offN x (n + 1) = offN x n + ch n (pc x (n + 1)) := by simp only [offN]; rw [if_pos hx]
      rw [if_pos hx] at hs
      rw [g1] at e1
      rw [eo, hs]
      simp only [blkN]
      rw [if_neg (by omega), if_pos (by omega), Nat.add_sub_cancel, Nat.add_sub_cancel, ih, e1]; omega
    · have g1 : x / 2 ^ n % 2 = 0 := by have : ¬ x / 2 ^ n % 2 = 1 := fun k => hx (b1.1 k); omega
      have eo : offN x (n + 1) = offN x n := by simp only [offN]; rw [if_neg hx]; rfl
      rw [if_neg hx] at hs
      replace hs : pc x (n + 1) = pc x n := by omega
      rw [g1] at e1
      rw [eo, hs, e1]
      simp only [blkN]
      by_cases h0 : pc x n = 0
      · rw [if_pos h0]
        rw [h0, blkN_zero] at ih
        omega
      · rw [if_neg h0, if_neg (by omega), ih]; omega
theorem blkN_first : ∀ n k, k ≤ n → blkN n k 0 = 2 ^ k - 1
  | 0, k, h => by
    have : k = 0 := by omega
    subst this; rfl
  | n + 1, k, h => by
    simp only [blkN]
    by_cases h0 : k = 0
    · subst h0; rfl
    · rw [if_neg h0]
      by_cases e : k = n + 1
      · subst e
        rw [if_pos (by rw [ch_more n (n + 1) (by omega)]; omega), Nat.zero_sub, Nat.add_sub_cancel, blkN_first n n (Nat.le_refl _), Nat.pow_succ]
        have := Nat.two_pow_pos n
        omega
      · have := ch_pos n k (by omega)
        rw [if_neg (by omega), blkN_first n k (by omega)]
theorem blkN_last : ∀ n k, k ≤ n → blkN n k (ch n k - 1) = (2 ^ k - 1) * 2 ^ (n - k)
  | 0, k, h => by
    have : k = 0 := by omega
    subst this; rfl
  | n + 1, k, h => by
    cases k with
    | zero => simp [blkN]
    | succ k =>
      have h1 := ch_pos n k (by omega)
      have ih := blkN_last n k (by omega)
      simp only [blkN]
      rw [if_neg (by omega), if_pos (by rw [ch]; omega), Nat.add_sub_cancel, show ch (n + 1) (k + 1) - 1 - ch n (k + 1) = ch n k - 1 by rw [ch]; omega, ih, show n + 1 - (k + 1) = n - k by omega]
      have e : 2 ^ n = 2 ^ k * 2 ^ (n - k) := by rw [← Nat.pow_add, show k + (n - k) = n by omega]
      have e2 : 2 ^ (k + 1) = 2 ^ k * 2 := Nat.pow_succ 2 k
      rw [Nat.sub_mul, Nat.sub_mul, e2, Nat.one_mul, e]
      have hp := Nat.two_pow_pos k
      have : 2 ^ (n - k) ≤ 2 ^ k * 2 ^ (n - k) := Nat.le_mul_of_pos_left _ hp
      have e3 : 2 ^ k * 2 * 2 ^ (n - k) = 2 * (2 ^ k * 2 ^ (n - k)) := by ac_rfl
      rw [e3]; omega
/-! ### rows of numbers by a function -/
def tab (f : Nat → Nat) (n : Nat) : List Int := (List.range n).map fun k => ((f k : Nat) : Int)
theorem tab_length (f : Nat → Nat) (n : Nat) : (tab f n).length = n := by simp [tab]
theorem tab_at (f : Nat → Nat) (n i : Nat) : (tab f n)[i]? = if i < n then some ((f i : Nat) : Int) else none := by
  unfold tab
  rw [List.getElem?_map]
  by_cases h : i < n
  · rw [List.getElem?_range h, if_pos h]; rfl
  · rw [if_neg h, List.getElem?_eq_none (by rw [List.length_range]; omega)]; rfl
theorem tab_get (f : Nat → Nat) {n i : Nat} (h : i < n) : (tab f n).getD i 0 = ((f i : Nat) : Int) := by
  rw [List.getD_eq_getElem?_getD, tab_at, if_pos h]; rfl
theorem tab_congr {f g : Nat → Nat} {n : Nat} (h : ∀ i, i < n → f i = g i) : tab f n = tab g n := by
  apply List.ext_getElem?
  intro i
  rw [tab_at, tab_at]
  by_cases hi : i < n
  · rw [if_pos hi, if_pos hi, h i hi]
  · rw [if_neg hi, if_neg hi]
theorem tab_set (f : Nat → Nat) {n i : Nat} (v : Nat) : (tab f n).set i ((v : Nat) : Int) = tab (fun j => if j = i then v else f j) n := by
  apply List.ext_getElem?
  intro j
  rw [List.getElem?_set, tab_at, tab_at, tab_length]
  by_cases e : i = j
  · subst e
    rw [if_pos rfl]; simp
  · rw [if_neg e]
    have : ¬ j = i := fun h => e h.symm
    simp only [if_neg this]
theorem tab_take (f : Nat → Nat) {n m : Nat} (h : m ≤ n) : (tab f n).take m = tab f m := by
  apply List.ext_getElem?
  intro j
  rw [List.getElem?_take, tab_at, tab_at]
  by_cases hj : j < m
  · rw [if_pos hj, if_pos hj, if_pos (by omega)]
  · rw [if_neg hj, if_neg hj]
theorem tab_succ (f : Nat → Nat) (n : Nat) : tab f (n + 1) = tab f n ++ [((f n : Nat) : Int)] := by simp [tab, List.range_succ]
/-- a row of ways, changed down to a place -/
def mixR (i k : Nat) (j : Nat) : Nat := if k < j then ch (i + 1) j else ch i j
theorem mixR_first (i n : Nat) : tab (mixR i (i + 1)) n = tab (ch i) n := tab_congr fun j _ => by
  unfold mixR
  split
  · rw [ch_more (i + 1) j (by omega), ch_more i j (by omega)]
  · rfl
theorem mixR_last (i n : Nat) : tab (mixR i 0) n = tab (ch (i + 1)) n := tab_congr fun j _ => by
  unfold mixR
  split
  · rfl
  · have : j = 0 := by omega
    subst this; rw [ch_zero, ch_zero]
theorem mixR_step (i k n : Nat) (h : k + 1 < n) : (tab (mixR i (k + 1)) n).set (k + 1) ((mixR i (k + 1) (k + 1) + mixR i (k + 1) k : Nat) : Int) = tab (mixR i k) n := by
  rw [tab_set]
  refine tab_congr fun j _ => ?_
  have e1 : mixR i (k + 1) (k + 1) + mixR i (k + 1) k = ch (i + 1) (k + 1) := by
    unfold mixR
    rw [if_neg (by omega), if_neg (by omega), ch]; omega
  rw [e1]
  by_cases e : j = k + 1
  · subst e; rw [if_pos rfl]; unfold mixR; rw [if_pos (by omega)]
  · rw [if_neg e]
    unfold mixR
    by_cases h2 : k + 1 < j
    · rw [if_pos h2, if_pos (by omega)]
    · rw [if_neg h2, if_neg (by omega)]
end Go.Ev
