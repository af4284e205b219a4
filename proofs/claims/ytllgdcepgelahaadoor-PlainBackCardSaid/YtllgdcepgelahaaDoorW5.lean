/- Rows of bits: what is read of them, and what they become, as plain functions (no program). -/
import Derived.Test.YtllgdcepgelahaaDoorW4
namespace Go.Ev
open Go

theorem bitAt_ge {ws : List Nat} {i : Nat} (h : ws.length ≤ i / 64) : bitAt ws i = false := by
  unfold bitAt
  rw [List.getD_eq_getElem?_getD, List.getElem?_eq_none h]; simp
theorem bitAt_set {ws : List Nat} {j : Nat} (v i : Nat) (hj : j < ws.length) : bitAt (ws.set j v) i = if i / 64 = j then v.testBit (i % 64) else bitAt ws i := by
  unfold bitAt
  by_cases h : i / 64 = j
  · subst h
    rw [if_pos rfl, List.getD_eq_getElem?_getD, List.getElem?_set_self hj]; rfl
  · rw [if_neg h, List.getD_eq_getElem?_getD, List.getElem?_set_ne (Ne.symm h), List.getD_eq_getElem?_getD]
theorem bitAt_append (a b : List Nat) (i : Nat) : bitAt (a ++ b) i = if i / 64 < a.length then bitAt a i else bitAt b (i - 64 * a.length) := by
  unfold bitAt
  simp only [List.getD_eq_getElem?_getD]
  split
  · rename_i h; rw [List.getElem?_append_left h]
  · rename_i h
    rw [List.getElem?_append_right (by omega), show i / 64 - a.length = (i - 64 * a.length) / 64 by omega, show (i - 64 * a.length) % 64 = i % 64 by omega]
theorem bitAt_zeros (n i : Nat) : bitAt (List.replicate n 0) i = false := by
  unfold bitAt
  rw [List.getD_eq_getElem?_getD, List.getElem?_replicate]
  split <;> simp
theorem bit_lt {x i : Nat} (hx : x < 2 ^ 64) (h : 64 ≤ i) : x.testBit i = false := testBit_ge hx h
theorem set_lt {ws : List Nat} (hw : ∀ w ∈ ws, w < 2 ^ 64) {j v : Nat} (hv : v < 2 ^ 64) : ∀ w ∈ ws.set j v, w < 2 ^ 64 := fun w h => by
  rcases List.mem_or_eq_of_mem_set h with h | h
  · exact hw w h
  · rw [h]; exact hv

/-- bits put behind the first n -/
def fillW (ws : List Nat) (n x : Nat) : List Nat :=
  let ws1 := if n / 64 < ws.length then ws.set (n / 64) (ws.getD (n / 64) 0 ||| (x * 2 ^ (n % 64) % 2 ^ 64)) else ws
  if 0 < n % 64 ∧ n / 64 + 1 < ws.length then ws1.set (n / 64 + 1) (ws1.getD (n / 64 + 1) 0 ||| x / 2 ^ (64 - n % 64)) else ws1
theorem fillW_length (ws : List Nat) (n x : Nat) : (fillW ws n x).length = ws.length := by
  unfold fillW
  simp only []
  split <;> split <;> simp
theorem fillW_lt {ws : List Nat} (hw : ∀ w ∈ ws, w < 2 ^ 64) {n x : Nat} (hx : x < 2 ^ 64) : ∀ w ∈ fillW ws n x, w < 2 ^ 64 := by
  have h1 : ∀ w ∈ (if n / 64 < ws.length then ws.set (n / 64) (ws.getD (n / 64) 0 ||| (x * 2 ^ (n % 64) % 2 ^ 64)) else ws), w < 2 ^ 64 := by
    split
    · exact set_lt hw (Nat.or_lt_two_pow (getD_lt hw _) (Nat.mod_lt _ (by decide)))
    · exact hw
  unfold fillW
  simp only []
  generalize (if n / 64 < ws.length then ws.set (n / 64) (ws.getD (n / 64) 0 ||| (x * 2 ^ (n % 64) % 2 ^ 64)) else ws) = ws1 at h1
  split
  · exact set_lt h1 (Nat.or_lt_two_pow (getD_lt h1 _) (Nat.lt_of_le_of_lt (Nat.div_le_self _ _) hx))
  · exact h1
theorem bitAt_fillW {ws : List Nat} {n x : Nat} (hx : x < 2 ^ 64) (q : Nat) : bitAt (fillW ws n x) q = (bitAt ws q || (decide (n ≤ q ∧ q / 64 < ws.length) && x.testBit (q - n))) := by
  have h1 : ∀ q, bitAt (if n / 64 < ws.length then ws.set (n / 64) (ws.getD (n / 64) 0 ||| (x * 2 ^ (n % 64) % 2 ^ 64)) else ws) q = (bitAt ws q || (decide (n ≤ q ∧ q / 64 = n / 64 ∧ q / 64 < ws.length) && x.testBit (q - n))) := fun q => by
    split
    · rename_i hl
      rw [bitAt_set _ _ hl]
      by_cases hq : q / 64 = n / 64
      · rw [if_pos hq, Nat.testBit_or, Nat.testBit_mod_two_pow, Nat.testBit_mul_two_pow]
        have e : bitAt ws q = (ws.getD (n / 64) 0).testBit (q % 64) := by unfold bitAt; rw [hq]
        rw [e]
        have d1 : decide (q % 64 < 64) = true := by simp; omega
        rw [d1, Bool.true_and]
        by_cases hn : n ≤ q
        · have a : decide (n % 64 ≤ q % 64) = true := by simp; omega
          have b : decide (n ≤ q ∧ q / 64 = n / 64 ∧ q / 64 < ws.length) = true := by simp; omega
          rw [a, b, show q % 64 - n % 64 = q - n by omega]
        · have a : decide (n % 64 ≤ q % 64) = false := by simp; omega
          have b : decide (n ≤ q ∧ q / 64 = n / 64 ∧ q / 64 < ws.length) = false := by simp; omega
          rw [a, b, Bool.false_and, Bool.false_and]
      · have b : decide (n ≤ q ∧ q / 64 = n / 64 ∧ q / 64 < ws.length) = false := by simp [hq]
        rw [if_neg hq, b]; simp
    · rename_i hl
      have b : decide (n ≤ q ∧ q / 64 = n / 64 ∧ q / 64 < ws.length) = false := by simp; omega
      rw [b]; simp
  have hlen : (if n / 64 < ws.length then ws.set (n / 64) (ws.getD (n / 64) 0 ||| (x * 2 ^ (n % 64) % 2 ^ 64)) else ws).length = ws.length := by split <;> simp
  unfold fillW
  simp only []
  generalize (if n / 64 < ws.length then ws.set (n / 64) (ws.getD (n / 64) 0 ||| (x * 2 ^ (n % 64) % 2 ^ 64)) else ws) = ws1 at h1 hlen
  split
  · rename_i hl
    rw [bitAt_set _ _ (by omega)]
    by_cases hq : q / 64 = n / 64 + 1
    · rw [if_pos hq, Nat.testBit_or, ← Nat.shiftRight_eq_div_pow, Nat.testBit_shiftRight]
      have e : bitAt ws1 q = (ws1.getD (n / 64 + 1) 0).testBit (q % 64) := by unfold bitAt; rw [hq]
      have b : decide (n ≤ q ∧ q / 64 = n / 64 ∧ q / 64 < ws.length) = false := by simp; omega
      rw [← e, h1, b, Bool.false_and, Bool.or_false, show 64 - n % 64 + q % 64 = q - n by omega]
      have c : decide (n ≤ q ∧ q / 64 < ws.length) = true := by simp; omega
      rw [c, Bool.true_and]
    · rw [if_neg hq, h1]
      by_cases hq2 : q / 64 = n / 64
      · simp [hq2]
      · have b : decide (n ≤ q ∧ q / 64 = n / 64 ∧ q / 64 < ws.length) = false := by simp [hq2]
        rw [b, Bool.false_and, Bool.or_false]
        by_cases hn : n ≤ q
        · rw [bit_lt hx (show 64 ≤ q - n by omega)]; simp
        · have c : decide (n ≤ q ∧ q / 64 < ws.length) = false := by simp [hn]
          rw [c]; simp
  · rename_i hl
    rw [h1]
    by_cases hq2 : q / 64 = n / 64
    · simp [hq2]
    · have b : decide (n ≤ q ∧ q / 64 = n / 64 ∧ q / 64 < ws.length) = false := by simp [hq2]
      rw [b, Bool.false_and, Bool.or_false]
      by_cases hn : n ≤ q ∧ q / 64 < ws.length
      · rw [bit_lt hx (show 64 ≤ q - n by omega)]; simp
      · rw [decide_eq_false hn]; simp

/-! ### counts -/
/-- how many of the first bits are 1 -/
def pcb (ws : List Nat) : Nat → Nat
  | 0 => 0
  | n + 1 => pcb ws n + (bitAt ws n).toNat
theorem pcb_word (ws : List Nat) (q : Nat) : ∀ r, r ≤ 64 → pcb ws (64 * q + r) = pcb ws (64 * q) + pc (ws.getD q 0) r
  | 0, _ => by simp [pc]
  | r + 1, h => by
    rw [← Nat.add_assoc]
    simp only [pcb, pc, pcb_word ws q r (by omega)]
    have : bitAt ws (64 * q + r) = (ws.getD q 0).testBit r := by unfold bitAt; rw [show (64 * q + r) / 64 = q by omega, show (64 * q + r) % 64 = r by omega]
    rw [this]; omega
theorem pcb_words (ws : List Nat) (q : Nat) : pcb ws (64 * (q + 1)) = pcb ws (64 * q) + pc (ws.getD q 0) 64 := by
  rw [show 64 * (q + 1) = 64 * q + 64 by omega, pcb_word ws q 64 (Nat.le_refl _)]
theorem pcb_le (ws : List Nat) : ∀ n, pcb ws n ≤ n
  | 0 => Nat.le_refl _
  | n + 1 => by
    have := pcb_le ws n
    have := Bool.toNat_le (bitAt ws n)
    simp only [pcb]; omega
/-- how many of some truths are true -/
def cntB (l : List Bool) : Nat := (l.filter id).length
theorem pcb_take (l : List Bool) : ∀ n, pcb (wds l) n = cntB (l.take n)
  | 0 => rfl
  | n + 1 => by
    simp only [pcb, pcb_take l n, bitAt_wds]
    unfold cntB
    rw [List.take_add_one, List.filter_append, List.length_append]
    congr 1
    rw [List.getD_eq_getElem?_getD]
    cases l[n]? with
    | none => rfl
    | some b => cases b <;> rfl

/-! ### numbers out of bits -/
def sliceN (ws : List Nat) (at_ k : Nat) : Nat := num ((List.range k).map fun j => bitAt ws (at_ + j))
theorem sliceN_bit (ws : List Nat) (a k i : Nat) : (sliceN ws a k).testBit i = (decide (i < k) && bitAt ws (a + i)) := by
  unfold sliceN
  rw [num_bit, List.getD_eq_getElem?_getD]
  by_cases h : i < k
  · rw [List.getElem?_map, List.getElem?_range h]; simp [h]
  · rw [List.getElem?_eq_none (by simp; omega)]; simp [h]
theorem sliceN_lt (ws : List Nat) (a k : Nat) : sliceN ws a k < 2 ^ k := by
  have := num_lt ((List.range k).map fun j => bitAt ws (a + j))
  simpa [sliceN] using this
/-- the lowest bits of a number -/
def lowB (x k : Nat) : List Bool := (List.range k).map x.testBit
theorem lowB_length (x k : Nat) : (lowB x k).length = k := by simp [lowB]
theorem lowB_getD (x k i : Nat) : (lowB x k).getD i false = (decide (i < k) && x.testBit i) := by
  unfold lowB
  rw [List.getD_eq_getElem?_getD]
  by_cases h : i < k
  · rw [List.getElem?_map, List.getElem?_range h]; simp [h]
  · rw [List.getElem?_eq_none (by simp; omega)]; simp [h]
theorem getD_append (a b : List Bool) (i : Nat) : (a ++ b).getD i false = if i < a.length then a.getD i false else b.getD (i - a.length) false := by
  simp only [List.getD_eq_getElem?_getD]
  split
  · rename_i h; rw [List.getElem?_append_left h]
  · rename_i h; rw [List.getElem?_append_right (by omega)]
theorem getD_ge {l : List Bool} {i : Nat} (h : l.length ≤ i) : l.getD i false = false := by
  rw [List.getD_eq_getElem?_getD, List.getElem?_eq_none h]; rfl
/-- a row's words, with noughts behind them -/
theorem bitAt_pad (l : List Bool) (n i : Nat) : bitAt (wds l ++ List.replicate n 0) i = l.getD i false := by
  rw [bitAt_append]
  split
  · exact bitAt_wds l i
  · rename_i h
    rw [bitAt_zeros]
    rw [wds_length] at h
    rw [getD_ge (by omega)]
/-- rows appended to -/
theorem wds_fill {l : List Bool} {x k : Nat} (hx : x < 2 ^ 64) (hk : k ≤ 64) : fillW (wds l ++ List.replicate ((l.length + k + 63) / 64 - (wds l).length) 0) l.length (x % 2 ^ k) = wds (l ++ lowB x k) := by
  have hxm : x % 2 ^ k < 2 ^ 64 := Nat.lt_of_le_of_lt (Nat.mod_le _ _) hx
  have hlen : (wds l ++ List.replicate ((l.length + k + 63) / 64 - (wds l).length) 0).length = (l.length + k + 63) / 64 := by
    rw [List.length_append, List.length_replicate, wds_length]; omega
  apply wds_eq
  · rw [fillW_length, hlen, List.length_append, lowB_length]
  · refine fillW_lt (fun w hw => ?_) hxm
    rcases List.mem_append.1 hw with hw | hw
    · exact wds_lt hw
    · rw [(List.mem_replicate.1 hw).2]; decide
  · intro i
    rw [bitAt_fillW hxm, bitAt_pad, hlen, getD_append, lowB_getD, Nat.testBit_mod_two_pow]
    by_cases h1 : i < l.length
    · rw [if_pos h1]
      have : decide (l.length ≤ i ∧ i / 64 < (l.length + k + 63) / 64) = false := by simp; omega
      rw [this]; simp
    · rw [if_neg h1, getD_ge (by omega), Bool.false_or]
      by_cases h2 : i - l.length < k
      · have : decide (l.length ≤ i ∧ i / 64 < (l.length + k + 63) / 64) = true := by simp; omega
        rw [this]; simp [h2]
      · simp [h2]
end Go.Ev
namespace Go.Ev
open Go
theorem bitsOf_wds (l : List Bool) : bitsOf (wds l) l.length = l := by
  apply List.ext_getElem?
  intro i
  unfold bitsOf
  by_cases h : i < l.length
  · rw [List.getElem?_map, List.getElem?_range h, List.getElem?_eq_getElem h]
    simp only [Option.map_some, bitAt_wds, List.getD_eq_getElem?_getD, List.getElem?_eq_getElem h, Option.getD_some]
  · rw [List.getElem?_eq_none (by simp; omega), List.getElem?_eq_none (by omega)]
/-- what a row becomes, told by its bits -/
def rowB (n : Int) (ws : List Nat) : List Bool := bitsOf ws n.toNat
theorem rowB_wds (l : List Bool) : rowB (l.length : Int) (wds l) = l := by unfold rowB; rw [Int.toNat_natCast, bitsOf_wds]
def appendS (n : Int) (ws : List Nat) (x : Nat) (k : Int) : Int × List Nat × Int :=
  if okRow n ws = true ∧ ¬ (k < 0 ∨ 64 < k) ∧ ¬ (1048576 - n < k) then (n + k, wds (rowB n ws ++ lowB x k.toNat), 0) else (n, ws, 2)
def setS (n : Int) (ws : List Nat) (i : Int) (b : Bool) : Int × List Nat × Int :=
  if okRow n ws = true then (if i < 0 ∨ n ≤ i then (n, ws, 3) else (n, wds ((rowB n ws).set i.toNat b), 0)) else (n, ws, 2)
def joinS (n : Int) (ws : List Nat) (m : Int) (vs : List Nat) : Int × List Nat × Int :=
  if okRow n ws = true ∧ okRow m vs = true ∧ ¬ (1048576 - n < m) then (n + m, wds (rowB n ws ++ rowB m vs), 0) else (n, ws, 2)
def onesS (n : Int) (ws : List Nat) (k : Int) : Int := if okRow n ws = true then ((pcb ws (max 0 (min k n)).toNat : Nat) : Int) else 0
theorem wds_set {l : List Bool} {i : Nat} (hi : i < l.length) (b : Bool) (hne : l.getD i false ≠ b) : (wds l).set (i / 64) ((wds l).getD (i / 64) 0 ^^^ (2 ^ (i % 64))) = wds (l.set i b) := by
  have hj : i / 64 < (wds l).length := by rw [wds_length]; omega
  have hp : 2 ^ (i % 64) < 2 ^ 64 := Nat.pow_lt_pow_right (by decide) (Nat.mod_lt _ (by decide))
  apply wds_eq
  · simp [wds_length]
  · exact set_lt (fun w hw => wds_lt hw) (Nat.xor_lt_two_pow (getD_lt (fun w hw => wds_lt hw) _) hp)
  · intro q
    rw [bitAt_set _ _ hj]
    by_cases hq : q / 64 = i / 64
    · rw [if_pos hq, Nat.testBit_xor, Nat.testBit_two_pow]
      have e : ((wds l).getD (i / 64) 0).testBit (q % 64) = l.getD q false := by rw [← bitAt_wds]; unfold bitAt; rw [hq]
      rw [e]
      by_cases hqi : q = i
      · subst hqi
        simp only [decide_true, List.getD_eq_getElem?_getD]
        rw [List.getElem?_set_self hi]
        rw [List.getD_eq_getElem?_getD] at hne
        cases h : l[q]?.getD false <;> cases b <;> simp_all
      · have : ¬ i % 64 = q % 64 := by omega
        simp only [this, decide_false, Bool.xor_false, List.getD_eq_getElem?_getD]
        rw [List.getElem?_set_ne (Ne.symm hqi)]
    · have hqi : ¬ q = i := by rintro rfl; exact hq rfl
      rw [if_neg hq, bitAt_wds]
      simp only [List.getD_eq_getElem?_getD]
      rw [List.getElem?_set_ne (Ne.symm hqi)]
theorem set_same {l : List Bool} {i : Nat} (hi : i < l.length) {b : Bool} (h : l.getD i false = b) : l.set i b = l := by
  rw [List.getD_eq_getElem?_getD, List.getElem?_eq_getElem hi] at h
  simp only [Option.getD_some] at h
  rw [← h, List.set_getElem_self]
theorem ci_getD_take (ws : List Nat) (q j : Nat) (h : j < q) : (ci (ws.take q)).getD j 0 = ((ws.getD j 0 : Nat) : Int) := by
  rw [ci_getD]
  congr 1
  rw [List.getD_eq_getElem?_getD, List.getD_eq_getElem?_getD, List.getElem?_take_of_lt h]
end Go.Ev
