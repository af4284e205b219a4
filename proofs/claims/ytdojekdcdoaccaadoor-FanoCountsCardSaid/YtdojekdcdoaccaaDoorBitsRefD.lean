/- Layer 2: the document's Slice. -/
import Derived.Test.YtdojekdcdoaccaaDoorBitsRefC
namespace Go.Proofs.YtdojekdcdoaccaaDoor
open Go Go.Ev
section
variable {R : Type}
theorem sliceN_next (ws : List Nat) (a k : Nat) : sliceN ws a (k + 1) = if bitAt ws (a + k) = true then sliceN ws a k ||| 2 ^ k else sliceN ws a k := by
  apply Nat.eq_of_testBit_eq
  intro i
  split
  · rename_i h
    rw [Nat.testBit_or, sliceN_bit, sliceN_bit, Nat.testBit_two_pow]
    by_cases e : i = k
    · subst e; simp [h]
    · by_cases e2 : i < k
      · simp [e2, show i < k + 1 by omega, show ¬ k = i by omega]
      · simp [e2, show ¬ i < k + 1 by omega, show ¬ k = i by omega]
  · rename_i h
    rw [sliceN_bit, sliceN_bit]
    by_cases e : i = k
    · subst e; simp at h; simp [h]
    · by_cases e2 : i < k
      · simp [e2, show i < k + 1 by omega]
      · simp [e2, show ¬ i < k + 1 by omega]
end
end Go.Proofs.YtdojekdcdoaccaaDoor
