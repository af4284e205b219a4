/- Two rows of words are one. -/
import Derived.Test.YtdojekdcdoaccaaDoorBitsE
import Derived.Test.YtdojekdcdoaccaaDoorBitsD
namespace Go.Proofs.YtdojekdcdoaccaaDoor
open Go Go.Ev
section
variable {R : Type}
theorem slices_Equal_u64_loop (a b : List Int) (h : a.length = b.length) (ha : a.length < 4000000000) (K0 : Bool → Option R) (K1 : Unit → Option R) : ∀ (N j : Nat), j ≤ a.length → a.length - j < N →
    slices_Equal_uint64_uint64_l5_L K0 K1 N a b (a.length : Int) (j : Int) = if a.drop j = b.drop j then K1 () else K0 false
  | 0, _, _, h => by omega
  | N + 1, j, hj, hN => by
    simp only [slices_Equal_uint64_uint64_l5_L, slices_Equal_uint64_uint64_l5_T]
    by_cases h1 : j < a.length
    · rw [sel_pos (by omega), sel_pos (by omega), sel_pos (by omega), sel_pos (by omega), sel_pos (by omega), Int.toNat_natCast, addW_i64 (by omega) (by omega), show (j : Int) + 1 = ((j + 1 : Nat) : Int) by omega]
      by_cases h2 : a.getD j 0 = b.getD j 0
      · rw [sel_npos h2, slices_Equal_u64_loop a b h ha K0 K1 N (j + 1) (by omega) (by omega)]
        simp only [drop_eq_iff a b h j h1, h2, true_and]
      · rw [sel_nneg h2]
        simp only [drop_eq_iff a b h j h1, h2, false_and, if_false]
    · rw [sel_neg (by omega), List.drop_of_length_le (by omega), List.drop_of_length_le (by omega), if_pos rfl]
theorem slices_Equal_u64_spec (a b : List Int) (ha : a.length < 4000000000) (K : Bool → Option R) : slices_Equal_uint64_uint64 a b K = K (decide (a = b)) := by
  rw [slices_Equal_uint64_uint64_unf]; unfold slices_Equal_uint64_uint64_B
  by_cases h : a.length = b.length
  · rw [sel_npos (by omega), slices_Equal_uint64_uint64_l5_unf]; unfold slices_Equal_uint64_uint64_l5_B
    refine (slices_Equal_u64_loop a b h ha _ _ NR 0 (by omega) (by have := NR_lt; omega)).trans ?_
    rw [List.drop_zero, List.drop_zero]
    by_cases h2 : a = b
    · rw [if_pos h2, decide_eq_true h2]
    · rw [if_neg h2, decide_eq_false h2]
  · rw [sel_nneg (by omega), decide_eq_false (fun e => h (by rw [e]))]
end
end Go.Proofs.YtdojekdcdoaccaaDoor
