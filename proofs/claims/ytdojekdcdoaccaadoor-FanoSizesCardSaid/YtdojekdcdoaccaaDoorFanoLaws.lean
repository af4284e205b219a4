/- Layer 9: the laws are true, whatever the input. -/
import Derived.Test.YtdojekdcdoaccaaDoorFanoE
import Derived.Test.YtdojekdcdoaccaaDoorBitsRefD
import Derived.Test.YtdojekdcdoaccaaDoorFanoRefA
import Derived.Test.YtdojekdcdoaccaaDoorEvC
namespace Go.Proofs.YtdojekdcdoaccaaDoor
open Go Go.Ev
section
variable {R : Type}
theorem ref_Same_r_loop9 (n m : Int) (a b : List Int) (h : a.length = b.length) (ha : a.length < 4000000000) (K0 : Bool → List Int → Option R) (K1 : List Int → Option R) : ∀ (N j : Nat), j ≤ a.length → a.length - j < N →
    haystackref02_Same_l5_L K0 K1 N (j : Int) b n a m b.length = if a.drop j = b.drop j then K1 b else K0 false b
  | 0, _, _, h => by omega
  | N + 1, j, hj, hN => by
    simp only [haystackref02_Same_l5_L, haystackref02_Same_l5_T]
    by_cases h1 : j < a.length
    · rw [sel_pos (by omega), sel_pos (by omega), sel_pos (by omega), sel_pos (by omega), sel_pos (by omega), Int.toNat_natCast, sel_pos (by omega), addW_i64 (by omega) (by omega), show (j : Int) + 1 = ((j + 1 : Nat) : Int) by omega]
      by_cases h2 : a.getD j 0 = b.getD j 0
      · rw [sel_npos h2, ref_Same_r_loop9 n m a b h ha K0 K1 N (j + 1) (by omega) (by omega)]
        simp only [drop_eq_iff a b h j h1, h2, true_and]
      · rw [sel_nneg h2]
        simp only [drop_eq_iff a b h j h1, h2, false_and, if_false]
    · rw [sel_neg (by omega), List.drop_of_length_le (by omega), List.drop_of_length_le (by omega), if_pos rfl]
theorem ref_Same_r9 (n m : Int) (a b : List Int) (ha : a.length < 4000000000) (l : Nat) (hl : l = b.length) (K : Bool → List Int → Option R) : haystackref02_Same_r n a m l b K = K (decide (n = m ∧ a = b)) b := by
  subst hl
  rw [haystackref02_Same_r_unf]; unfold haystackref02_Same_r_B
  by_cases h1 : n = m
  · rw [sel_npos h1]
    by_cases h2 : a.length = b.length
    · rw [sel_npos (by omega), haystackref02_Same_j4_unf]
      unfold haystackref02_Same_j4_B
      rw [haystackref02_Same_l5_unf]
      unfold haystackref02_Same_l5_B
      refine (ref_Same_r_loop9 n m a b h2 ha _ _ NR 0 (by omega) (by have := NR_lt; omega)).trans ?_
      simp only [List.drop_zero, h1, true_and]
      split <;> simp_all
    · rw [sel_nneg (by omega)]
      congr 1
      have : ¬ (n = m ∧ a = b) := by rintro ⟨_, rfl⟩; exact h2 rfl
      simp [this]
  · rw [sel_nneg h1]
    simp [h1]
theorem heads09_spec (K : Bool → Option R) : haystacklaw09_heads K = K true := by
  have w22 : wds [false, true, true, false, true] = [22] := by decide +kernel
  have a2 : accF [false, true, true, false, true] 4 = (true, 0) := by decide +kernel
  have a3 : rnkF [false, true, true, false, true] true 4 = (2, 0) := by decide +kernel
  have a4 : selF [false, true, true, false, true] true 2 = (4, 0) := by decide +kernel
  have a5 : selF [false, true, true, false, true] false 1 = (3, 0) := by decide +kernel
  have a6 : selF [false, true, true, false, true] true 3 = (0, 3) := by decide +kernel
  have a7 : okRow 1 [] = false := by decide +kernel
  have hb := fano_Build_r_spec (R := R) [false, true, true, false, true] (by decide)
  rw [w22] at hb
  rw [haystacklaw09_heads_unf]; unfold haystacklaw09_heads_B
  refine (hb _ _ _ _).trans ?_
  rw [sel_pos (ci_length _).symm, fano_Access_yes _ (by decide), a2]
  try dsimp only
  rw [haystacklaw09_heads_j4_3_unf]; unfold haystacklaw09_heads_j4_3_B
  rw [fano_Rank_yes _ (by decide), a3]
  try dsimp only
  rw [fano_Select_yes _ (by decide), a4]
  try dsimp only
  rw [fano_Select_yes _ (by decide), a5]
  try dsimp only
  rw [fano_Select_yes _ (by decide), a6]
  try dsimp only
  rw [show ([] : List Int) = ci [] from rfl, fano_Build_bad 1 [] ⟨by simp, by simp⟩ a7]
  rw [sel_pos rfl, Ev.sel_true, sel_pos rfl, sel_pos rfl, sel_pos rfl, sel_pos rfl, sel_pos rfl, sel_pos rfl, sel_pos rfl, sel_pos rfl, sel_pos rfl, fano_Check_yes _ (by decide), Ev.sel_true, fano_Size_yes _ (by decide), sel_pos (by omega), fano_Bits_yes _ (by decide), w22]
  exact (ref_Same_r9 5 5 [22] [22] (by decide) 1 rfl _).trans (by rw [decide_eq_true ⟨rfl, rfl⟩])
theorem guard09 {n : Int} {ws : List Nat} (hw : ∀ w ∈ ws, w < 2 ^ 64) {X : Option R} {K : Bool → Option R} (H : ∀ l : List Bool, n = (l.length : Int) → ws = wds l → l.length ≤ 3000 → X = K true) :
    sel (decide (3000 < n)) (haystacklaw09_heads fun b => K b) (sel (decide (3000 < (((ci ws).length : Nat) : Int))) (haystacklaw09_heads fun b => K b) (haystackref02_Check n (ci ws) fun b => sel (!b) (haystacklaw09_heads fun b => K b) X)) = K true := by
  by_cases h1 : 3000 < n
  · rw [sel_pos h1, heads09_spec]
  rw [sel_neg h1, ci_length]
  by_cases h2 : 3000 < ((ws.length : Nat) : Int)
  · rw [sel_pos h2, heads09_spec]
  have hW : Ws ws := ⟨hw, by omega⟩
  rw [sel_neg h2, haystackref02_Check_spec n ws hW]
  cases hok : okRow n ws with
  | false => rw [Bool.not_false, Ev.sel_true, heads09_spec]
  | true =>
    obtain ⟨l, h3, h4, h5⟩ := okRow_wds hok hw
    rw [Bool.not_true, Ev.sel_false]
    exact H l h3 h4 (by omega)
theorem FanoCounts_true (n : Int) (ws : List Nat) (hw : ∀ w ∈ ws, w < 2 ^ 64) (i : Int) (K : Bool → Option R) : haystacklaw09_FanoCounts n (ci ws) i K = K true := by
  rw [haystacklaw09_FanoCounts_unf]; unfold haystacklaw09_FanoCounts_B
  refine guard09 hw fun l h1 h2 h3 => ?_
  subst h1 h2
  by_cases c1 : i < 0
  · rw [sel_pos c1, heads09_spec]
  rw [sel_neg c1]
  by_cases c2 : (l.length : Int) ≤ i
  · rw [sel_pos c2, heads09_spec]
  rw [sel_neg c2]
  obtain ⟨p, rfl⟩ : ∃ p : Nat, i = (p : Int) := ⟨i.toNat, by omega⟩
  have c3 := cntOf_add l p
  have c4 : cntOf l true (p + 1) = cntOf l true p + (l.getD p false == true).toNat := rfl
  have r1 : ∀ (bit : Bool) (q : Nat), q ≤ l.length → rnkF l bit (q : Int) = (((cntOf l bit q : Nat) : Int), 0) := fun bit q hq => by
    unfold rnkF; rw [if_neg (by omega), Int.toNat_natCast]
  have r2 : accF l (p : Int) = (l.getD p false, 0) := by
    unfold accF; rw [if_neg (by omega), Int.toNat_natCast]
  rw [haystacklaw09_FanoCounts_j4_unf]; unfold haystacklaw09_FanoCounts_j4_B
  rw [fano_Build_spec l h3, fano_Rank_yes l h3, r1 _ p (by omega)]
  try dsimp only
  rw [fano_Rank_yes l h3, r1 _ p (by omega)]
  try dsimp only
  rw [addW_i64 (a := (p : Int)) (by omega) (by omega), show (p : Int) + 1 = ((p + 1 : Nat) : Int) by omega, fano_Rank_yes l h3, r1 _ (p + 1) (by omega)]
  try dsimp only
  rw [fano_Access_yes l h3, r2]
  try dsimp only
  rw [sel_pos rfl, sel_pos rfl, sel_pos rfl, sel_pos rfl, sel_pos rfl, addW_i64 (by omega) (by omega), sel_pos (by omega), addW_i64 (by omega) (by omega), c4]
  cases l.getD p false with
  | true =>
    rw [show (((cntOf l true p + (true == true).toNat : Nat)) : Int) = ((cntOf l true p : Nat) : Int) + 1 from rfl, decide_eq_true (show ((cntOf l true p : Nat) : Int) + 1 = ((cntOf l true p : Nat) : Int) + 1 from rfl), decide_eq_false (show ¬ ((cntOf l true p : Nat) : Int) + 1 = ((cntOf l true p : Nat) : Int) by omega), heads09_spec]
    rfl
  | false =>
    rw [show (((cntOf l true p + (false == true).toNat : Nat)) : Int) = ((cntOf l true p : Nat) : Int) from rfl, decide_eq_true (show ((cntOf l true p : Nat) : Int) = ((cntOf l true p : Nat) : Int) from rfl), decide_eq_false (show ¬ ((cntOf l true p : Nat) : Int) = ((cntOf l true p : Nat) : Int) + 1 by omega), heads09_spec]
    rfl
theorem size_small (l : List Bool) (hl : l.length ≤ 3000) : (FL l).length * FV l + (FH l).length ≤ 2 * l.length + 1 := by
  have h1 := FM_le l
  have h2 := FH_length l
  have h3 := Nat.div_le_self l.length (2 ^ FW l)
  by_cases h0 : FW l = 0
  · have : (FL l).length = 0 := by unfold FL; rw [lowL_length, if_pos h0]
    rw [this, Nat.zero_mul]; omega
  · have e1 : (FL l).length = FM l := by unfold FL FM; rw [lowL_length, if_neg h0]
    have e2 : FV l = FW l := by unfold FV; omega
    have hm : FM l ≠ 0 := fun e => h0 (by unfold FW widF; rw [if_pos e])
    have hw : FW l = bitLen (l.length / FM l) - 1 := by unfold FW widF; rw [if_neg hm]
    have hq : l.length / FM l ≠ 0 := by have := Nat.div_pos h1 (by omega); omega
    have h4 := top_add hq
    rw [← hw] at h4
    have h5 : FW l < 2 ^ FW l := Nat.lt_two_pow_self
    have h6 : FM l * (FW l + 1) ≤ FM l * (l.length / FM l) := Nat.mul_le_mul_left _ (by omega)
    have h7 := Nat.mul_div_le l.length (FM l)
    rw [Nat.mul_add] at h6
    rw [e1, e2]; omega
theorem FanoSizes_true (n : Int) (ws : List Nat) (hw : ∀ w ∈ ws, w < 2 ^ 64) (K : Bool → Option R) : haystacklaw09_FanoSizes n (ci ws) K = K true := by
  rw [haystacklaw09_FanoSizes_unf]; unfold haystacklaw09_FanoSizes_B
  refine guard09 hw fun l h1 h2 h3 => ?_
  subst h1 h2
  have hs := size_small l h3
  have hm := FM_le l
  have hh := FH_length l
  have hmt : cntOf l true l.length = FM l := (pl_length l).symm
  have hz := Int.natCast_nonneg (l.length / 2 ^ FW l)
  have hz2 := Int.natCast_nonneg ((FL l).length * FV l)
  rw [haystacklaw09_FanoSizes_j4_unf]; unfold haystacklaw09_FanoSizes_j4_B
  rw [fano_Build_spec l h3, sel_pos rfl, haystackref02_Ones_in l (by omega) _ (Nat.le_refl _), hmt, sel_pos rfl, sel_pos rfl, fano_Size_yes l h3]
  have hz3 : mulW .i64 2 (l.length : Int) = ((2 * l.length : Nat) : Int) := by rw [mulW_i64 (by omega) (by omega)]; omega
  rw [hz3, addW_i64 (by omega) (by omega), addW_i64 (by omega) (by omega)]
  generalize (FL l).length * FV l = d at *
  generalize l.length / 2 ^ FW l = f at *
  rw [sel_pos (by omega), sel_pos (by omega), heads09_spec]
theorem beq_sel (a : Bool) {X Y : Option R} : sel (!(a == a)) X Y = Y := by rw [beq_self_eq_true]; rfl
theorem FanoBack_true (n : Int) (ws : List Nat) (hw : ∀ w ∈ ws, w < 2 ^ 64) (bit : Bool) (k : Int) (K : Bool → Option R) : haystacklaw09_FanoBack n (ci ws) bit k K = K true := by
  rw [haystacklaw09_FanoBack_unf]; unfold haystacklaw09_FanoBack_B
  refine guard09 hw fun l h1 h2 h3 => ?_
  subst h1 h2
  have r1 : ∀ (bit : Bool) (q : Nat), q ≤ l.length → rnkF l bit (q : Int) = (((cntOf l bit q : Nat) : Int), 0) := fun bit q hq => by
    unfold rnkF; rw [if_neg (by omega), Int.toNat_natCast]
  rw [haystacklaw09_FanoBack_j4_unf]; unfold haystacklaw09_FanoBack_j4_B
  rw [fano_Build_spec l h3, haystacklaw09_FanoBack_j5_unf]; unfold haystacklaw09_FanoBack_j5_B
  rw [sel_npos rfl, fano_Check_yes l h3, Bool.not_true, Ev.sel_false, fano_Bits_yes l h3, haystackref02_Same_spec _ _ _ _ (by rw [ci_length, wds_length]; omega), decide_eq_true ⟨rfl, rfl⟩, Bool.not_true, Ev.sel_false, haystacklaw09_FanoBack_j7_unf]; unfold haystacklaw09_FanoBack_j7_B
  rw [fano_Rank_yes l h3, r1 _ l.length (Nat.le_refl _)]
  try dsimp only
  rw [fano_Select_yes l h3, sel_npos rfl]
  by_cases c1 : k < 0
  · have e : selF l bit k = (0, 3) := by unfold selF; rw [if_pos c1]
    rw [e, sel_neg (by omega)]
    try dsimp only
    rw [decide_eq_false (show ¬ (3 : Int) = 0 by decide), beq_sel, haystacklaw09_FanoBack_j11_unf]; unfold haystacklaw09_FanoBack_j11_B
    rw [sel_nneg (by decide), sel_pos rfl, heads09_spec]
  obtain ⟨q, rfl⟩ : ∃ q : Nat, k = (q : Int) := ⟨k.toNat, by omega⟩
  have e : selF l bit (q : Int) = match placeB l bit q with | some i => ((i : Int), 0) | none => (0, 3) := by
    unfold selF; rw [if_neg (by omega), Int.toNat_natCast]
    cases placeB l bit q <;> rfl
  rw [sel_pos (by omega), e]
  by_cases c2 : q < cntOf l bit l.length
  · obtain ⟨i, e1, e2⟩ := placeB_ex c2
    have hi := e2.lt
    have r2 : accF l (i : Int) = (l.getD i false, 0) := by
      unfold accF; rw [if_neg (by omega), Int.toNat_natCast]
    rw [e1]
    try dsimp only
    rw [decide_eq_true (show (0 : Int) = 0 from rfl), decide_eq_true (show (q : Int) < ((cntOf l bit l.length : Nat) : Int) by omega), beq_sel, haystacklaw09_FanoBack_j11_unf]; unfold haystacklaw09_FanoBack_j11_B
    rw [sel_npos rfl, fano_Rank_yes l h3, r1 _ i (by omega)]
    try dsimp only
    rw [fano_Access_yes l h3, r2]
    try dsimp only
    rw [sel_pos rfl, e2.cnt, sel_pos rfl, sel_pos rfl, e2.is, beq_self_eq_true, Ev.sel_true, heads09_spec]
  · rw [placeB_none (by omega)]
    try dsimp only
    rw [decide_eq_false (show ¬ (3 : Int) = 0 by decide), decide_eq_false (show ¬ (q : Int) < ((cntOf l bit l.length : Nat) : Int) by omega), beq_sel, haystacklaw09_FanoBack_j11_unf]; unfold haystacklaw09_FanoBack_j11_B
    rw [sel_nneg (by decide), sel_pos rfl, heads09_spec]
/-! ### the rows -/
abbrev FanoCounts_pas : List Pa := [.st rowC, .one (.int .i64)]
theorem FanoCounts_law : ∀ vs, pasHas FanoCounts_pas vs → sp3 vs AV some = some (.bool true) := by
  rintro vs ⟨_, _, rfl, hr, _, _, rfl, ⟨i, rfl, _⟩, rfl⟩
  obtain ⟨n, ws, rfl, _, hw⟩ := row_has hr
  exact FanoCounts_true n ws hw i _
abbrev FanoSizes_pas : List Pa := [.st rowC]
theorem FanoSizes_law : ∀ vs, pasHas FanoSizes_pas vs → sp4 vs AV some = some (.bool true) := by
  rintro vs ⟨_, _, rfl, hr, rfl⟩
  obtain ⟨n, ws, rfl, _, hw⟩ := row_has hr
  exact FanoSizes_true n ws hw _
abbrev FanoBack_pas : List Pa := [.st rowC, .one .bool, .one (.int .i64)]
theorem FanoBack_law : ∀ vs, pasHas FanoBack_pas vs → sp7 vs AV some = some (.bool true) := by
  rintro vs ⟨_, _, rfl, hr, _, _, rfl, ⟨b, rfl⟩, _, _, rfl, ⟨i, rfl, _⟩, rfl⟩
  obtain ⟨n, ws, rfl, _, hw⟩ := row_has hr
  exact FanoBack_true n ws hw b i _
end
end Go.Proofs.YtdojekdcdoaccaaDoor
