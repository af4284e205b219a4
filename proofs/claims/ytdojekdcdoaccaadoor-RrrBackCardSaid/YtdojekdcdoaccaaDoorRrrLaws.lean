/- Layer 8: the laws without the document are true, whatever the input. -/
import Derived.Test.YtdojekdcdoaccaaDoorRrrC
import Derived.Test.YtdojekdcdoaccaaDoorBitsRef
import Derived.Test.YtdojekdcdoaccaaDoorEvC
namespace Go.Proofs.YtdojekdcdoaccaaDoor
open Go Go.Ev
section
variable {R : Type}
theorem isR (l : List Bool) : IsR l (l.length : Int) ((NB l : Nat) : Int) 4 ((NB l * 4 : Nat) : Int) (ci (wds (catI 4 (clsL l (NB l))))) ((offs l (NB l)).length : Int) (ci (wds (offs l (NB l)))) (onesL l (NG l)) (ptsL l (NG l)) := ⟨rfl, rfl, rfl, rfl, rfl, rfl, rfl, rfl, rfl⟩
theorem heads08_spec (K : Bool → Option R) : haystacklaw08_heads K = K true := by
  have w22 : wds [false, true, true, false, true] = [22] := by decide +kernel
  have a2 : accB [false, true, true, false, true] 4 = (true, 0) := by decide +kernel
  have a3 : rnkB [false, true, true, false, true] true 4 = (2, 0) := by decide +kernel
  have a4 : selB [false, true, true, false, true] true 2 = (4, 0) := by decide +kernel
  have a5 : selB [false, true, true, false, true] false 1 = (3, 0) := by decide +kernel
  have a6 : selB [false, true, true, false, true] true 3 = (0, 3) := by decide +kernel
  have a7 : okRow 1 [] = false := by decide +kernel
  have hl : [false, true, true, false, true].length ≤ 1048576 := by decide
  have hs : 0 < sizR [false, true, true, false, true] := by unfold sizR NG; omega
  have hb := rrr_Build_spec (R := R) [false, true, true, false, true] hl
  have r := isR [false, true, true, false, true]
  generalize hL : [false, true, true, false, true] = L at *
  have hlen : (L.length : Int) = 5 := by rw [← hL]; rfl
  rw [w22] at hb
  rw [haystacklaw08_heads_unf]; unfold haystacklaw08_heads_B
  rw [hlen] at hb r
  refine (hb _).trans ?_
  rw [rrr_Access_yes hl r, a2]
  dsimp only
  rw [haystacklaw08_heads_j4_unf]; unfold haystacklaw08_heads_j4_B
  rw [rrr_Rank_yes hl r, a3]
  dsimp only
  rw [rrr_Select_yes hl r, a4]
  dsimp only
  rw [rrr_Select_yes hl r, a5]
  dsimp only
  rw [rrr_Select_yes hl r, a6]
  dsimp only
  rw [show ([] : List Int) = ci [] from rfl, rrr_Build_bad 1 [] ⟨by simp, by simp⟩ a7]
  rw [sel_pos rfl, Ev.sel_true, sel_pos rfl, sel_pos rfl, sel_pos rfl, sel_pos rfl, sel_pos rfl, sel_pos rfl, sel_pos rfl, sel_pos rfl, sel_pos rfl, rrr_Check_yes hl r, Ev.sel_true, rrr_Size_yes hl r, sel_pos (by omega), rrr_Bits_yes hl r, w22, hlen, haystackref02_Same_spec _ _ _ _ (by decide), decide_eq_true ⟨rfl, rfl⟩]
theorem guard08 {n : Int} {ws : List Nat} (hw : ∀ w ∈ ws, w < 2 ^ 64) {X : Option R} {K : Bool → Option R} (H : ∀ l : List Bool, n = (l.length : Int) → ws = wds l → l.length ≤ 3000 → X = K true) :
    sel (decide (3000 < n)) (haystacklaw08_heads fun b => K b) (sel (decide (3000 < (((ci ws).length : Nat) : Int))) (haystacklaw08_heads fun b => K b) (haystackref02_Check n (ci ws) fun b => sel (!b) (haystacklaw08_heads fun b => K b) X)) = K true := by
  by_cases h1 : 3000 < n
  · rw [sel_pos h1, heads08_spec]
  rw [sel_neg h1, ci_length]
  by_cases h2 : 3000 < ((ws.length : Nat) : Int)
  · rw [sel_pos h2, heads08_spec]
  have hW : Ws ws := ⟨hw, by omega⟩
  rw [sel_neg h2, haystackref02_Check_spec n ws hW]
  cases hok : okRow n ws with
  | false => rw [Bool.not_false, Ev.sel_true, heads08_spec]
  | true =>
    obtain ⟨l, h3, h4, h5⟩ := okRow_wds hok hw
    rw [Bool.not_true, Ev.sel_false]
    exact H l h3 h4 (by omega)
theorem beq_sel (a : Bool) {X Y : Option R} : sel (!(a == a)) X Y = Y := by rw [beq_self_eq_true]; rfl
theorem RrrCounts_true (n : Int) (ws : List Nat) (hw : ∀ w ∈ ws, w < 2 ^ 64) (i : Int) (K : Bool → Option R) : haystacklaw08_RrrCounts n (ci ws) i K = K true := by
  rw [haystacklaw08_RrrCounts_unf]; unfold haystacklaw08_RrrCounts_B
  refine guard08 hw fun l h1 h2 h3 => ?_
  subst h1 h2
  have hl : l.length ≤ 1048576 := by omega
  by_cases c1 : i < 0
  · rw [sel_pos c1, heads08_spec]
  rw [sel_neg c1]
  by_cases c2 : (l.length : Int) ≤ i
  · rw [sel_pos c2, heads08_spec]
  rw [sel_neg c2]
  obtain ⟨p, rfl⟩ : ∃ p : Nat, i = (p : Int) := ⟨i.toNat, by omega⟩
  have c3 := cntOf_add l p
  have c4 : cntOf l true (p + 1) = cntOf l true p + (l.getD p false == true).toNat := rfl
  have r1 : ∀ (bit : Bool) (q : Nat), q ≤ l.length → rnkB l bit (q : Int) = (((cntOf l bit q : Nat) : Int), 0) := fun bit q hq => by
    unfold rnkB; rw [if_neg (by omega), Int.toNat_natCast]
  have r2 : accB l (p : Int) = (l.getD p false, 0) := by
    unfold accB; rw [if_neg (by omega), Int.toNat_natCast]
  have r := isR l
  rw [haystacklaw08_RrrCounts_j4_unf]; unfold haystacklaw08_RrrCounts_j4_B
  rw [rrr_Build_spec l hl, rrr_Rank_yes hl r, r1 _ p (by omega)]
  dsimp only
  rw [rrr_Rank_yes hl r, r1 _ p (by omega)]
  dsimp only
  rw [addW_i64 (a := (p : Int)) (by omega) (by omega), show (p : Int) + 1 = ((p + 1 : Nat) : Int) by omega, rrr_Rank_yes hl r, r1 _ (p + 1) (by omega)]
  dsimp only
  rw [rrr_Access_yes hl r, r2]
  dsimp only
  rw [sel_pos rfl, sel_pos rfl, sel_pos rfl, sel_pos rfl, sel_pos rfl, addW_i64 (by omega) (by omega), sel_pos (by omega), addW_i64 (by omega) (by omega), c4]
  cases l.getD p false with
  | true =>
    rw [show (((cntOf l true p + (true == true).toNat : Nat)) : Int) = ((cntOf l true p : Nat) : Int) + 1 from rfl, decide_eq_true (show ((cntOf l true p : Nat) : Int) + 1 = ((cntOf l true p : Nat) : Int) + 1 from rfl), decide_eq_false (show ¬ ((cntOf l true p : Nat) : Int) + 1 = ((cntOf l true p : Nat) : Int) by omega), heads08_spec]
    rfl
  | false =>
    rw [show (((cntOf l true p + (false == true).toNat : Nat)) : Int) = ((cntOf l true p : Nat) : Int) from rfl, decide_eq_true (show ((cntOf l true p : Nat) : Int) = ((cntOf l true p : Nat) : Int) from rfl), decide_eq_false (show ¬ ((cntOf l true p : Nat) : Int) = ((cntOf l true p : Nat) : Int) + 1 by omega), heads08_spec]
    rfl
theorem sizR_le (l : List Bool) : sizR l ≤ 17 * NB l + 64 * max 1 ((NB l + 7) / 8) ∧ 4 * NB l + 64 ≤ sizR l := by
  have := offs_le l (NB l)
  unfold sizR NG grp; omega
theorem RrrSizes_true (n : Int) (ws : List Nat) (hw : ∀ w ∈ ws, w < 2 ^ 64) (K : Bool → Option R) : haystacklaw08_RrrSizes n (ci ws) K = K true := by
  rw [haystacklaw08_RrrSizes_unf]; unfold haystacklaw08_RrrSizes_B
  refine guard08 hw fun l h1 h2 h3 => ?_
  subst h1 h2
  have hl : l.length ≤ 1048576 := by omega
  have r := isR l
  have hn := NB_le h3
  obtain ⟨s1, s2⟩ := sizR_le l
  have e0 : quoW .i64 (addW .i64 (l.length : Int) 14) 15 = ((NB l : Nat) : Int) := by
    rw [addW_i64 (by omega) (by omega), quoW_nat (by omega) (by omega) (by omega)]; unfold NB; omega
  have e1 : quoW .i64 (addW .i64 ((NB l : Nat) : Int) 7) 8 = (((NB l + 7) / 8 : Nat) : Int) := by
    rw [addW_i64 (by omega) (by omega), quoW_nat (by omega) (by omega) (by omega)]; omega
  have e2 : addW .i64 (mulW .i64 17 ((NB l : Nat) : Int)) (mulW .i64 64 (max2 1 (((NB l + 7) / 8 : Nat) : Int))) = ((17 * NB l + 64 * max 1 ((NB l + 7) / 8) : Nat) : Int) := by
    rw [show (1 : Int) = ((1 : Nat) : Int) from rfl, max2_nat, mulW_i64 (a := 17) (by omega) (by omega), mulW_i64 (by omega) (by omega), addW_i64 (by omega) (by omega)]; omega
  have e3 : addW .i64 (mulW .i64 4 ((NB l : Nat) : Int)) 64 = ((4 * NB l + 64 : Nat) : Int) := by
    rw [mulW_i64 (by omega) (by omega), addW_i64 (by omega) (by omega)]; omega
  rw [haystacklaw08_RrrSizes_j4_unf]; unfold haystacklaw08_RrrSizes_j4_B
  rw [rrr_Build_spec l hl, sel_pos rfl, rrr_Size_yes hl r, e0, e1, e2, letV_eq, sel_pos (by omega), rrr_Size_yes hl r, e3, sel_pos (by omega), heads08_spec]
theorem RrrBack_true (n : Int) (ws : List Nat) (hw : ∀ w ∈ ws, w < 2 ^ 64) (bit : Bool) (k : Int) (K : Bool → Option R) : haystacklaw08_RrrBack n (ci ws) bit k K = K true := by
  rw [haystacklaw08_RrrBack_unf]; unfold haystacklaw08_RrrBack_B
  refine guard08 hw fun l h1 h2 h3 => ?_
  subst h1 h2
  have hl : l.length ≤ 1048576 := by omega
  have r := isR l
  have r1 : ∀ (bit : Bool) (q : Nat), q ≤ l.length → rnkB l bit (q : Int) = (((cntOf l bit q : Nat) : Int), 0) := fun bit q hq => by
    unfold rnkB; rw [if_neg (by omega), Int.toNat_natCast]
  rw [haystacklaw08_RrrBack_j4_unf]; unfold haystacklaw08_RrrBack_j4_B
  rw [rrr_Build_spec l hl, haystacklaw08_RrrBack_j5_unf]; unfold haystacklaw08_RrrBack_j5_B
  rw [sel_npos rfl, rrr_Check_yes hl r, Bool.not_true, Ev.sel_false, rrr_Bits_yes hl r, haystackref02_Same_spec _ _ _ _ (by rw [ci_length, wds_length]; omega), decide_eq_true ⟨rfl, rfl⟩, Bool.not_true, Ev.sel_false, haystacklaw08_RrrBack_j7_unf]; unfold haystacklaw08_RrrBack_j7_B
  rw [rrr_Rank_yes hl r, r1 _ l.length (Nat.le_refl _)]
  dsimp only
  rw [rrr_Select_yes hl r, sel_npos rfl]
  by_cases c1 : k < 0
  · have e : selB l bit k = (0, 3) := by unfold selB; rw [if_pos c1]
    rw [e, sel_neg (by omega)]
    dsimp only
    rw [decide_eq_false (show ¬ (3 : Int) = 0 by decide), beq_sel, haystacklaw08_RrrBack_j11_unf]; unfold haystacklaw08_RrrBack_j11_B
    rw [sel_nneg (by decide), sel_pos rfl, heads08_spec]
  obtain ⟨q, rfl⟩ : ∃ q : Nat, k = (q : Int) := ⟨k.toNat, by omega⟩
  have e : selB l bit (q : Int) = match placeB l bit q with | some i => ((i : Int), 0) | none => (0, 3) := by
    unfold selB; rw [if_neg (by omega), Int.toNat_natCast]
    cases placeB l bit q <;> rfl
  rw [sel_pos (by omega), e]
  by_cases c2 : q < cntOf l bit l.length
  · obtain ⟨i, e1, e2⟩ := placeB_ex c2
    have hi := e2.lt
    have r2 : accB l (i : Int) = (l.getD i false, 0) := by
      unfold accB; rw [if_neg (by omega), Int.toNat_natCast]
    rw [e1]
    dsimp only
    rw [decide_eq_true (show (0 : Int) = 0 from rfl), decide_eq_true (show (q : Int) < ((cntOf l bit l.length : Nat) : Int) by omega), beq_sel, haystacklaw08_RrrBack_j11_unf]; unfold haystacklaw08_RrrBack_j11_B
    rw [sel_npos rfl, rrr_Rank_yes hl r, r1 _ i (by omega)]
    dsimp only
    rw [rrr_Access_yes hl r, r2]
    dsimp only
    rw [sel_pos rfl, e2.cnt, sel_pos rfl, sel_pos rfl, e2.is, beq_self_eq_true, Ev.sel_true, heads08_spec]
  · rw [placeB_none (by omega)]
    dsimp only
    rw [decide_eq_false (show ¬ (3 : Int) = 0 by decide), decide_eq_false (show ¬ (q : Int) < ((cntOf l bit l.length : Nat) : Int) by omega), beq_sel, haystacklaw08_RrrBack_j11_unf]; unfold haystacklaw08_RrrBack_j11_B
    rw [sel_nneg (by decide), sel_pos rfl, heads08_spec]
/-! ### the rows -/
abbrev RrrCounts_pas : List Pa := [.st rowC, .one (.int .i64)]
theorem RrrCounts_law : ∀ vs, pasHas RrrCounts_pas vs → sp8 vs AV some = some (.bool true) := by
  rintro vs ⟨_, _, rfl, hr, _, _, rfl, ⟨i, rfl, _⟩, rfl⟩
  obtain ⟨n, ws, rfl, _, hw⟩ := row_has hr
  exact RrrCounts_true n ws hw i _
abbrev RrrSizes_pas : List Pa := [.st rowC]
theorem RrrSizes_law : ∀ vs, pasHas RrrSizes_pas vs → sp9 vs AV some = some (.bool true) := by
  rintro vs ⟨_, _, rfl, hr, rfl⟩
  obtain ⟨n, ws, rfl, _, hw⟩ := row_has hr
  exact RrrSizes_true n ws hw _
abbrev RrrBack_pas : List Pa := [.st rowC, .one .bool, .one (.int .i64)]
theorem RrrBack_law : ∀ vs, pasHas RrrBack_pas vs → sp10 vs AV some = some (.bool true) := by
  rintro vs ⟨_, _, rfl, hr, _, _, rfl, ⟨bit, rfl⟩, _, _, rfl, ⟨k, rfl, _⟩, rfl⟩
  obtain ⟨n, ws, rfl, _, hw⟩ := row_has hr
  exact RrrBack_true n ws hw bit k _
end
end Go.Proofs.YtdojekdcdoaccaaDoor
