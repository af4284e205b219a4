/- Layer 9: heads, the rows left open. -/
import Derived.Test.YtdojekdcdoaccaaDoorFanoE
import Derived.Test.YtdojekdcdoaccaaDoorBitsRefD
import Derived.Test.YtdojekdcdoaccaaDoorFanoRefA
import Derived.Test.YtdojekdcdoaccaaDoorEvC
namespace Go.Proofs.YtdojekdcdoaccaaDoor
open Go Go.Ev
section
variable {R : Type}
theorem heads09_spec (K : Bool → Option R) : haystacklaw09_heads K = K true := by
  have w22 : wds [false, true, true, false, true] = [22] := by decide +kernel
  have a2 : accF [false, true, true, false, true] 4 = (true, 0) := by decide +kernel
  have a3 : rnkF [false, true, true, false, true] true 4 = (2, 0) := by decide +kernel
  have a4 : selF [false, true, true, false, true] true 2 = (4, 0) := by decide +kernel
  have a5 : selF [false, true, true, false, true] false 1 = (3, 0) := by decide +kernel
  have a6 : selF [false, true, true, false, true] true 3 = (0, 3) := by decide +kernel
  have a7 : okRow 1 [] = false := by decide +kernel
  have hb := fano_Build_spec (R := R) [false, true, true, false, true] (by decide)
  rw [w22] at hb
  rw [haystacklaw09_heads_unf]; unfold haystacklaw09_heads_B
  refine (hb _).trans ?_
  rw [fano_Access_yes _ (by decide), a2]
  try dsimp only
  rw [haystacklaw09_heads_j4_unf]; unfold haystacklaw09_heads_j4_B
  rw [fano_Rank_yes _ (by decide), a3]
  try dsimp only
  rw [fano_Select_yes _ (by decide), a4]
  try dsimp only
  rw [fano_Select_yes _ (by decide), a5]
  try dsimp only
  rw [fano_Select_yes _ (by decide), a6]
  try dsimp only
  rw [show ([] : List Int) = ci [] from rfl, fano_Build_bad 1 [] ⟨by simp, by simp⟩ a7]
  rw [sel_pos rfl, Ev.sel_true, sel_pos rfl, sel_pos rfl, sel_pos rfl, sel_pos rfl, sel_pos rfl, sel_pos rfl, sel_pos rfl, sel_pos rfl, sel_pos rfl, fano_Check_yes _ (by decide), Ev.sel_true, fano_Size_yes _ (by decide), sel_pos (by omega), fano_Bits_yes _ (by decide), w22, haystackref02_Same_spec _ _ _ _ (by decide), decide_eq_true ⟨rfl, rfl⟩]
theorem beq_sel (a : Bool) {X Y : Option R} : sel (!(a == a)) X Y = Y := by rw [beq_self_eq_true]; rfl
end
end Go.Proofs.YtdojekdcdoaccaaDoor
