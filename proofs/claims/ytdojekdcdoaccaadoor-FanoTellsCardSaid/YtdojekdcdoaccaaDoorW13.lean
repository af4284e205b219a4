/- Rows of numbers of one width (no program). -/
import Derived.Test.YtdojekdcdoaccaaDoorWA
namespace Go.Ev
open Go
def catI (w : Nat) : List Nat → List Bool
  | [] => []
  | u :: us => lowB u w ++ catI w us
theorem catI_length (w : Nat) : ∀ us, (catI w us).length = us.length * w
  | [] => by simp [catI]
  | u :: us => by simp only [catI, List.length_append, lowB_length, catI_length w us, List.length_cons]; rw [Nat.add_mul]; omega
theorem catI_append (w : Nat) : ∀ us vs, catI w (us ++ vs) = catI w us ++ catI w vs
  | [], _ => rfl
  | u :: us, vs => by simp only [List.cons_append, catI, catI_append w us vs, List.append_assoc]
theorem catI_one (w u : Nat) : catI w [u] = lowB u w := by simp [catI]
theorem catI_at (w : Nat) : ∀ (us : List Nat) (i j : Nat), i < us.length → j < w → (catI w us).getD (i * w + j) false = (us.getD i 0).testBit j
  | [], i, j, h, _ => by simp at h
  | u :: us, 0, j, _, hj => by
    simp only [catI]
    rw [Nat.zero_mul, Nat.zero_add, getD_append, if_pos (by rw [lowB_length]; omega), lowB_getD, decide_eq_true hj, Bool.true_and]; rfl
  | u :: us, i + 1, j, h, hj => by
    simp only [catI]
    rw [getD_append, lowB_length, if_neg (by rw [Nat.add_mul]; omega), show (i + 1) * w + j - w = i * w + j by rw [Nat.add_mul]; omega, catI_at w us i j (by simpa using h) hj]; rfl
theorem catI_slice {w : Nat} {us : List Nat} {i : Nat} (hi : i < us.length) (hu : us.getD i 0 < 2 ^ w) : sliceN (wds (catI w us)) (i * w) w = us.getD i 0 := by
  apply Nat.eq_of_testBit_eq
  intro j
  rw [sliceN_bit, bitAt_wds]
  by_cases hj : j < w
  · rw [decide_eq_true hj, Bool.true_and, catI_at w us i j hi hj]
  · rw [decide_eq_false hj, Bool.false_and, testBit_ge hu (by omega)]
/-- the numbers of a row -/
def numW (ws : List Nat) (w n : Nat) : List Nat := (List.range n).map fun i => sliceN ws (i * w) w
theorem numW_length (ws : List Nat) (w n : Nat) : (numW ws w n).length = n := by simp [numW]
theorem numW_get (ws : List Nat) (w : Nat) {n i : Nat} (h : i < n) : (numW ws w n).getD i 0 = sliceN ws (i * w) w := by
  unfold numW
  rw [List.getD_eq_getElem?_getD, List.getElem?_map, List.getElem?_range h]; rfl
theorem numW_succ (ws : List Nat) (w n : Nat) : numW ws w (n + 1) = numW ws w n ++ [sliceN ws (n * w) w] := by simp [numW, List.range_succ]
theorem numW_lt (ws : List Nat) (w n : Nat) : ∀ u ∈ numW ws w n, u < 2 ^ w := fun u h => by
  unfold numW at h
  obtain ⟨i, _, rfl⟩ := List.mem_map.1 h
  exact sliceN_lt _ _ _
theorem numW_catI {w : Nat} {us : List Nat} (hu : ∀ u ∈ us, u < 2 ^ w) : numW (wds (catI w us)) w us.length = us := by
  apply List.ext_getElem?
  intro i
  by_cases h : i < us.length
  · have h1 := numW_get (wds (catI w us)) w h
    have h2 : us.getD i 0 < 2 ^ w := by rw [List.getD_eq_getElem?_getD, List.getElem?_eq_getElem h]; exact hu _ (List.getElem_mem h)
    rw [catI_slice h h2, List.getD_eq_getElem?_getD, List.getD_eq_getElem?_getD, List.getElem?_eq_getElem h, List.getElem?_eq_getElem (by rw [numW_length]; exact h)] at h1
    rw [List.getElem?_eq_getElem h, List.getElem?_eq_getElem (by rw [numW_length]; exact h)]
    exact congrArg some h1
  · rw [List.getElem?_eq_none (by rw [numW_length]; omega), List.getElem?_eq_none (by omega)]
theorem bools_ext {a b : List Bool} (hl : a.length = b.length) (h : ∀ i, i < a.length → a.getD i false = b.getD i false) : a = b := by
  apply List.ext_getElem?
  intro i
  by_cases hi : i < a.length
  · have := h i hi
    rw [List.getD_eq_getElem?_getD, List.getD_eq_getElem?_getD, List.getElem?_eq_getElem hi, List.getElem?_eq_getElem (by omega)] at this
    rw [List.getElem?_eq_getElem hi, List.getElem?_eq_getElem (by omega)]
    exact congrArg some this
  · rw [List.getElem?_eq_none (by omega), List.getElem?_eq_none (by omega)]
theorem catI_numW {w n : Nat} {l : List Bool} (hw : 0 < w) (hl : l.length = n * w) : catI w (numW (wds l) w n) = l := by
  refine bools_ext (by rw [catI_length, numW_length, hl]) fun i hi => ?_
  rw [catI_length, numW_length] at hi
  have hq : i / w < n := Nat.div_lt_of_lt_mul (by rw [Nat.mul_comm]; exact hi)
  have hr : i % w < w := Nat.mod_lt _ hw
  have e : i = i / w * w + i % w := by have := Nat.div_add_mod i w; rw [Nat.mul_comm] at this; omega
  have := catI_at w (numW (wds l) w n) (i / w) (i % w) (by rw [numW_length]; exact hq) hr
  rw [← e] at this
  rw [this, numW_get _ _ hq, sliceN_bit, decide_eq_true hr, Bool.true_and, bitAt_wds, ← e]
/-! ### widths -/
def widT (us : List Nat) : Nat → Nat
  | 0 => 1
  | i + 1 => max (widT us i) (bitLen (us.getD i 0))
def widL (us : List Nat) : Nat := widT us us.length
theorem widT_pos (us : List Nat) : ∀ i, 1 ≤ widT us i
  | 0 => Nat.le_refl _
  | i + 1 => Nat.le_trans (widT_pos us i) (Nat.le_max_left _ _)
theorem widT_mono (us : List Nat) : ∀ i j, j < i → bitLen (us.getD j 0) ≤ widT us i
  | 0, _, h => by omega
  | i + 1, j, h => by
    simp only [widT]
    by_cases e : j = i
    · subst e; exact Nat.le_max_right _ _
    · exact Nat.le_trans (widT_mono us i j (by omega)) (Nat.le_max_left _ _)
theorem widT_is (us : List Nat) : ∀ i, widT us i = 1 ∨ ∃ j, j < i ∧ bitLen (us.getD j 0) = widT us i
  | 0 => .inl rfl
  | i + 1 => by
    simp only [widT]
    rcases Nat.le_total (widT us i) (bitLen (us.getD i 0)) with h | h
    · rw [Nat.max_eq_right h]; exact .inr ⟨i, by omega, rfl⟩
    · rw [Nat.max_eq_left h]
      rcases widT_is us i with h | ⟨j, h1, h2⟩
      · exact .inl h
      · exact .inr ⟨j, by omega, h2⟩
theorem lt_two_iff {x w : Nat} : x < 2 ^ w ↔ bitLen x ≤ w :=
  ⟨fun h => bitLen_le h, fun h => Nat.lt_of_lt_of_le (bitLen_spec x).1 (Nat.pow_le_pow_right (by decide) h)⟩
theorem widL_le {us : List Nat} {w : Nat} (hw : 1 ≤ w) : widL us ≤ w ↔ ∀ u ∈ us, u < 2 ^ w := by
  constructor
  · intro h u hu
    obtain ⟨i, hi, rfl⟩ := List.getElem_of_mem hu
    have := widT_mono us us.length i hi
    rw [List.getD_eq_getElem?_getD, List.getElem?_eq_getElem hi] at this
    exact lt_two_iff.2 (Nat.le_trans this h)
  · intro h
    rcases widT_is us us.length with e | ⟨j, h1, h2⟩
    · unfold widL; omega
    · unfold widL
      rw [← h2, List.getD_eq_getElem?_getD, List.getElem?_eq_getElem h1]
      exact lt_two_iff.1 (h _ (List.getElem_mem h1))
theorem widL_64 {us : List Nat} (h : ∀ u ∈ us, u < 2 ^ 64) : widL us ≤ 64 := (widL_le (by decide)).2 h
theorem widT_le64 {us : List Nat} (h : ∀ u ∈ us, u < 2 ^ 64) : ∀ i, widT us i ≤ 64
  | 0 => by simp [widT]
  | i + 1 => by
    simp only [widT]
    exact Nat.max_le.2 ⟨widT_le64 h i, bitLen_le (getD_lt h i)⟩
/-! ### rows that may be -/
def okI (N w n : Int) (ws : List Nat) : Bool := decide (1 ≤ w ∧ w ≤ 64 ∧ 0 ≤ N ∧ N ≤ 1048576) && (okRow n ws && decide (n = N * w))
def makeI (w : Int) (us : List Nat) : Int × Int × Int × List Nat × Int :=
  if 1 ≤ w ∧ w ≤ 64 ∧ (us.length : Int) * w ≤ 1048576 ∧ (widL us : Int) ≤ w then ((us.length : Int), w, (us.length : Int) * w, wds (catI w.toNat us), 0) else (0, 0, 0, [], 2)
def getI (N w n : Int) (ws : List Nat) (i : Int) : Int × Int :=
  if okI N w n ws = true then (if i < 0 ∨ N ≤ i then (0, 3) else ((sliceN ws (i.toNat * w.toNat) w.toNat : Nat), 0)) else (0, 2)
def listI (N w n : Int) (ws : List Nat) : List Nat := if okI N w n ws = true then numW ws w.toNat N.toNat else []
def putI (N w n : Int) (ws : List Nat) (i : Int) (v : Nat) : Int × Int × Int × List Nat × Int :=
  if okI N w n ws = true then (if i < 0 ∨ N ≤ i then (N, w, n, ws, 3) else (if v < 2 ^ w.toNat then (N, w, n, wds (catI w.toNat ((numW ws w.toNat N.toNat).set i.toNat v)), 0) else (N, w, n, ws, 2))) else (N, w, n, ws, 2)
/-- what a row that may be is -/
theorem okI_is {N w n : Int} {ws : List Nat} (h : okI N w n ws = true) (hw : ∀ x ∈ ws, x < 2 ^ 64) : ∃ (a b : Nat) (l : List Bool), N = (a : Int) ∧ w = (b : Int) ∧ n = ((a * b : Nat) : Int) ∧ ws = wds l ∧ l.length = a * b ∧ 1 ≤ b ∧ b ≤ 64 ∧ a ≤ 1048576 ∧ a * b ≤ 1048576 := by
  unfold okI at h
  obtain ⟨h1, h2⟩ := Bool.and_eq_true_iff.1 h
  obtain ⟨h2, h3⟩ := Bool.and_eq_true_iff.1 h2
  have h1 := of_decide_eq_true h1
  have h3 := of_decide_eq_true h3
  obtain ⟨l, e1, e2, e3⟩ := okRow_wds h2 hw
  obtain ⟨a, rfl⟩ : ∃ a : Nat, N = (a : Int) := ⟨N.toNat, by omega⟩
  obtain ⟨b, rfl⟩ : ∃ b : Nat, w = (b : Int) := ⟨w.toNat, by omega⟩
  rw [e1, ← Int.natCast_mul] at h3
  have h3 := Int.ofNat.inj h3
  exact ⟨a, b, l, rfl, rfl, by rw [e1, h3], e2, h3, by omega, by omega, by omega, by omega⟩
theorem okI_of {a b : Nat} {l : List Bool} (hl : l.length = a * b) (h1 : 1 ≤ b) (h2 : b ≤ 64) (h3 : a * b ≤ 1048576) : okI (a : Int) (b : Int) ((a * b : Nat) : Int) (wds l) = true := by
  have ha : a ≤ a * b := Nat.le_mul_of_pos_right a h1
  unfold okI
  rw [Bool.and_eq_true_iff, Bool.and_eq_true_iff]
  refine ⟨decide_eq_true ⟨by omega, by omega, by omega, by omega⟩, ?_, decide_eq_true (Int.natCast_mul a b)⟩
  have := okRow_of l (by omega)
  rwa [hl] at this
end Go.Ev
