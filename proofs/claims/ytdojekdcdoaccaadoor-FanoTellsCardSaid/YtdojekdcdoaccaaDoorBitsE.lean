/- Rows of bits: what is told of right ones. -/
import Derived.Test.YtdojekdcdoaccaaDoorBitsD
import Derived.Test.YtdojekdcdoaccaaDoorEvC
namespace Go.Proofs.YtdojekdcdoaccaaDoor
open Go Go.Ev
theorem getS_wds (l : List Bool) (h : l.length ≤ 1048576) (i : Int) : getS (l.length : Int) (wds l) i = if i < 0 ∨ (l.length : Int) ≤ i then (false, 3) else (l.getD i.toNat false, 0) := by
  unfold getS; rw [if_pos (okRow_of l h), bitAt_wds]
theorem onesS_wds (l : List Bool) (h : l.length ≤ 1048576) (k : Nat) (hk : k ≤ l.length) : onesS (l.length : Int) (wds l) (k : Int) = ((cntB (l.take k) : Nat) : Int) := by
  unfold onesS; rw [if_pos (okRow_of l h), ← pcb_take]
  congr 2; omega
theorem cntB_append (a b : List Bool) : cntB (a ++ b) = cntB a + cntB b := by simp [cntB]
theorem cntB_le (a : List Bool) : cntB a ≤ a.length := List.length_filter_le _ _
theorem cntB_take_succ (l : List Bool) (i : Nat) : cntB (l.take (i + 1)) = cntB (l.take i) + (l.getD i false).toNat := by
  rw [← pcb_take, ← pcb_take]; simp only [pcb, bitAt_wds]
theorem cntB_take_le (l : List Bool) (i : Nat) : cntB (l.take i) ≤ cntB l := by
  have h := cntB_append (l.take i) (l.drop i)
  rw [List.take_append_drop] at h
  omega
theorem sliceS_wds (l : List Bool) (h : l.length ≤ 1048576) (a k : Int) (h1 : 0 ≤ k) (h2 : k ≤ 64) : sliceS (l.length : Int) (wds l) a k = if a < 0 ∨ (l.length : Int) < a ∨ (l.length : Int) - a < k then (0, 3) else (((sliceN (wds l) a.toNat k.toNat : Nat) : Int), 0) := by
  unfold sliceS; rw [if_pos ⟨okRow_of l h, by omega⟩]
theorem sliceN_split (ws : List Nat) (a n m : Nat) (h : n + m ≤ 64) : sliceN ws a (n + m) = sliceN ws a n ||| (sliceN ws (a + n) m * 2 ^ n % 2 ^ 64) := by
  apply Nat.eq_of_testBit_eq
  intro i
  rw [Nat.testBit_or, Nat.testBit_mod_two_pow, Nat.testBit_mul_two_pow, sliceN_bit, sliceN_bit, sliceN_bit]
  by_cases h1 : i < n
  · have a1 : i < n + m := by omega
    have a2 : ¬ n ≤ i := by omega
    simp [h1, a1, a2]
  · by_cases h2 : i < n + m
    · have a1 : n ≤ i := by omega
      have a2 : i - n < m := by omega
      have a3 : i < 64 := by omega
      simp only [h1, h2, a1, a2, a3, decide_true, decide_false, Bool.true_and, Bool.false_and, Bool.false_or]
      congr 1; omega
    · have a2 : ¬ i - n < m := by omega
      simp [h1, h2, a2]
theorem cntB_set : ∀ (l : List Bool) (q : Nat) (b : Bool), q < l.length → cntB (l.set q b) + (l.getD q false).toNat = cntB l + b.toNat
  | [], _, _, h => by simp at h
  | x :: l, 0, b, _ => by
    cases x <;> cases b <;> simp [cntB]
  | x :: l, q + 1, b, h => by
    have ih := cntB_set l q b (by simpa using h)
    have e1 : cntB ((x :: l).set (q + 1) b) = x.toNat + cntB (l.set q b) := by cases x <;> simp [cntB, Nat.add_comm]
    have e2 : cntB (x :: l) = x.toNat + cntB l := by cases x <;> simp [cntB, Nat.add_comm]
    have e3 : (x :: l).getD (q + 1) false = l.getD q false := rfl
    rw [e1, e2, e3]; omega
theorem getD_set (l : List Bool) (q : Nat) (b : Bool) (h : q < l.length) (i : Nat) : (l.set q b).getD i false = if i = q then b else l.getD i false := by
  simp only [List.getD_eq_getElem?_getD]
  split
  · rename_i e; subst e; rw [List.getElem?_set_self h]; rfl
  · rename_i e; rw [List.getElem?_set_ne (Ne.symm e)]
abbrev rowC : List Sh := [.int .i64, .ints .u64]
theorem row_has {v : AV} (h : Pa.has (.st rowC) v) : ∃ (n : Int) (ws : List Nat), v = .agg (.any [.int .i64 n, .fsl (.ints .u64 (ci ws))]) ∧ (-9223372036854775808 ≤ n ∧ n ≤ 9223372036854775807) ∧ ∀ w ∈ ws, w < 2 ^ 64 := by
  obtain ⟨_, rfl, _, _, rfl, ⟨n, rfl, hn⟩, _, _, rfl, ⟨xs, rfl, _, hx⟩, rfl⟩ := h
  obtain ⟨ws, rfl, hw⟩ := ci_of (xs := xs) fun x h => by
    exact has_u64 (hx x h)
  exact ⟨n, ws, rfl, has_i64 hn, hw⟩
end Go.Proofs.YtdojekdcdoaccaaDoor
