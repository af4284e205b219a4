/- Layer 8: the laws without the document are true, whatever the input. -/
import Derived.Test.YtdojekdcdoaccaaGreatDoorRrrC
import Derived.Test.YtdojekdcdoaccaaGreatDoorBitsRef
import Derived.Test.YtdojekdcdoaccaaGreatDoorEvC
namespace Go.Proofs.YtdojekdcdoaccaaGreatDoor
open Go Go.Ev
section
variable {R : Type}
theorem isR (l : List Bool) : IsR l (l.length : Int) ((NB l : Nat) : Int) 4 ((NB l * 4 : Nat) : Int) (ci (wds (catI 4 (clsL l (NB l))))) ((offs l (NB l)).length : Int) (ci (wds (offs l (NB l)))) (onesL l (NG l)) (ptsL l (NG l)) := ⟨rfl, rfl, rfl, rfl, rfl, rfl, rfl, rfl, rfl⟩
theorem heads08_spec (K : Bool → Option R) : haystacklaw08_heads K = K true := by
  have w22 : wds [false, true, true, false, true] = [22] := by decide +kernel
  have a2 : accB [false, true, true, false, true] 4 = (true, 0) := by decide +kernel
  have a3 : rnkB [false, true, true, false, true] true 4 = (2, 0) := by decide +kernel
  have a4 : selB [false, true, true, false, true] true 2 = (4, 0) := by decide +kernel
  have a5 : selB [false, true, true, false, true] false 1 = (3, 0) := by decide +kernel
  have a6 : selB [false, true, true, false, true] true 3 = (0, 3) := by decide +kernel
  have a7 : okRow 1 [] = false := by decide +kernel
  have hl : [false, true, true, false, true].length ≤ 1048576 := by decide
  have hs : 0 < sizR [false, true, true, false, true] := by unfold sizR NG; omega
  have hb := rrr_Build_spec (R := R) [false, true, true, false, true] hl
  have r := isR [false, true, true, false, true]
  generalize hL : [false, true, true, false, true] = L at *
  have hlen : (L.length : Int) = 5 := by rw [← hL]; rfl
  rw [w22] at hb
  rw [haystacklaw08_heads_unf]; unfold haystacklaw08_heads_B
  rw [hlen] at hb r
  refine (hb _).trans ?_
  rw [rrr_Access_yes hl r, a2]
  dsimp only
  rw [haystacklaw08_heads_j4_unf]; unfold haystacklaw08_heads_j4_B
  rw [rrr_Rank_yes hl r, a3]
  dsimp only
  rw [rrr_Select_yes hl r, a4]
  dsimp only
  rw [rrr_Select_yes hl r, a5]
  dsimp only
  rw [rrr_Select_yes hl r, a6]
  dsimp only
  rw [show ([] : List Int) = ci [] from rfl, rrr_Build_bad 1 [] ⟨by simp, by simp⟩ a7]
  rw [sel_pos rfl, Ev.sel_true, sel_pos rfl, sel_pos rfl, sel_pos rfl, sel_pos rfl, sel_pos rfl, sel_pos rfl, sel_pos rfl, sel_pos rfl, sel_pos rfl, rrr_Check_yes hl r, Ev.sel_true, rrr_Size_yes hl r, sel_pos (by omega), rrr_Bits_yes hl r, w22, hlen, haystackref02_Same_spec _ _ _ _ (by decide), decide_eq_true ⟨rfl, rfl⟩]
theorem guard08 {n : Int} {ws : List Nat} (hw : ∀ w ∈ ws, w < 2 ^ 64) {X : Option R} {K : Bool → Option R} (H : ∀ l : List Bool, n = (l.length : Int) → ws = wds l → l.length ≤ 3000 → X = K true) :
    sel (decide (3000 < n)) (haystacklaw08_heads fun b => K b) (sel (decide (3000 < (((ci ws).length : Nat) : Int))) (haystacklaw08_heads fun b => K b) (haystackref02_Check n (ci ws) fun b => sel (!b) (haystacklaw08_heads fun b => K b) X)) = K true := by
  by_cases h1 : 3000 < n
  · rw [sel_pos h1, heads08_spec]
  rw [sel_neg h1, ci_length]
  by_cases h2 : 3000 < ((ws.length : Nat) : Int)
  · rw [sel_pos h2, heads08_spec]
  have hW : Ws ws := ⟨hw, by omega⟩
  rw [sel_neg h2, haystackref02_Check_spec n ws hW]
  cases hok : okRow n ws with
  | false => rw [Bool.not_false, Ev.sel_true, heads08_spec]
  | true =>
    obtain ⟨l, h3, h4, h5⟩ := okRow_wds hok hw
    rw [Bool.not_true, Ev.sel_false]
    exact H l h3 h4 (by omega)
theorem beq_sel (a : Bool) {X Y : Option R} : sel (!(a == a)) X Y = Y := by rw [beq_self_eq_true]; rfl
theorem sizR_le (l : List Bool) : sizR l ≤ 17 * NB l + 64 * max 1 ((NB l + 7) / 8) ∧ 4 * NB l + 64 ≤ sizR l := by
  have := offs_le l (NB l)
  unfold sizR NG grp; omega
/-! ### the rows -/
abbrev RrrCounts_pas : List Pa := [.st rowC, .one (.int .i64)]
abbrev RrrSizes_pas : List Pa := [.st rowC]
abbrev RrrBack_pas : List Pa := [.st rowC, .one .bool, .one (.int .i64)]
end
end Go.Proofs.YtdojekdcdoaccaaGreatDoor
