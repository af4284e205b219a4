/- Layer 8, by the document: which ones may be, and what they tell. -/
import Derived.Test.YtdojekdcdoaccaaGreatDoorRrrRef
import Derived.Test.YtdojekdcdoaccaaGreatDoorFanoRefA
namespace Go.Proofs.YtdojekdcdoaccaaGreatDoor
open Go Go.Ev
section
variable {R : Type}
theorem ref08_inner (N : Nat) (hN : N ≤ 1048576) (u : Nat) (hu : u < 2 ^ 64) (o : List Bool) (ho : o.length ≤ N) (v1 : Int) (v2 : List Int) (v3 v4 v8 v9 va : Int) (vb : List Int) (vc : Int) (vd ve vf : List Int) (vg : Int) (K0 : Nat → Int → List Int → Int → Int → Int → Int → Int → Int → List Int → Int → List Int → List Int → List Int → Int → List Bool → Option R) : ∀ (F k : Nat), k ≤ min 15 (N - o.length) → min 15 (N - o.length) - k < F →
    haystackref08_row_l15_L K0 F (o.length + k) v1 v2 v3 v4 (u : Int) (k : Int) (N : Int) v8 v9 va vb vc vd ve vf vg (o ++ lowB u k) =
      K0 (o.length + min 15 (N - o.length)) v1 v2 v3 v4 (N : Int) v8 v9 va vb vc vd ve vf vg (o ++ lowB u (min 15 (N - o.length)))
  | 0, _, _, h => by omega
  | F + 1, k, h1, h2 => by
    simp only [haystackref08_row_l15_L, haystackref08_row_l15_T]
    by_cases h : k < min 15 (N - o.length)
    · have e : o ++ lowB u k ++ [decide (remW (shrW .u64 (u : Int) (cvtW .u64 (k : Int))) 2 = 1)] = o ++ lowB u (k + 1) := by rw [ref_bit _ _ hu (by omega), lowB_succ, List.append_assoc]
      rw [sel_pos (by omega), sel_pos (by omega), haystackref08_row_j17_unf]; unfold haystackref08_row_j17_B
      rw [sel_pos (by rw [cvtW_u64 (by omega) (by omega)]; omega), sel_pos (by rw [List.length_append, lowB_length]), sel_pos (by omega), letV_eq, e, addW_i64 (by omega) (by omega), show (k : Int) + 1 = ((k + 1 : Nat) : Int) by omega]
      exact ref08_inner N hN u hu o ho v1 v2 v3 v4 v8 v9 va vb vc vd ve vf vg K0 F (k + 1) (by omega) (by omega)
    · have e : k = min 15 (N - o.length) := by omega
      rw [← e]
      by_cases h15 : k < 15
      · rw [sel_pos (by omega), sel_neg (by omega)]
      · rw [sel_neg (by omega)]
theorem chI_big {x : Int} (h : x < 0 ∨ 15 < x) : chI 15 x = 0 := by unfold chI; rw [if_neg (by omega)]
theorem widI_big {x : Int} (h : x < 0 ∨ 15 < x) : widI 15 x = 0 := by unfold widI; rw [if_pos (chI_big h)]
theorem ref08_row_loop (N : Nat) (hN : N ≤ 1048576) (ob : List Bool) (ho : ob.length ≤ 1048576) (cs : List Nat) (hc : ∀ u ∈ cs, u < 2 ^ 64) (hcl : cs.length < 1000000000) (a b c : Int) (e hs' js : List Int) (z : Int) (K0 : Int → Option R) (K1 : Nat → Int → List Bool → Option R) : ∀ (F j at_ : Nat) (o : List Bool), j ≤ cs.length → cs.length - j < F → at_ ≤ ob.length → o.length ≤ N →
    haystackref08_row_l6_L K0 K1 F o.length (at_ : Int) (ci cs) (j : Int) (N : Int) a b c e (ob.length : Int) (ci (wds ob)) hs' js z o =
      match rowR false N ob (cs.drop j) at_ o with | none => K0 0 | some r => K1 r.length z r
  | 0, _, _, _, _, h, _, _ => by omega
  | F + 1, j, at_, o, h1, h2, h3, h4 => by
    simp only [haystackref08_row_l6_L, haystackref08_row_l6_T]
    by_cases h : j < cs.length
    · have hx := getD_lt hc j
      have hd : cs.drop j = cs.getD j 0 :: cs.drop (j + 1) := by
        rw [List.getD_eq_getElem?_getD, List.getElem?_eq_getElem h]; exact List.drop_eq_getElem_cons h
      rw [hd, ci_length, sel_pos (by omega), sel_pos (by omega), sel_pos (by omega), Int.toNat_natCast, ci_getD]
      simp only [rowR]
      generalize cs.getD j 0 = x at *
      by_cases h5 : 15 < x
      · have hy : cvtW .i64 (x : Int) < 0 ∨ 15 < cvtW .i64 (x : Int) := by
          rw [cvtW_eq, wrap_i64]; omega
        rw [if_pos h5, haystackref06_Width_spec, widI_big hy, haystackref02_Slice_spec _ _ (Ws.wds ho), sliceS_wds ob ho _ _ (by omega) (by omega), if_neg (by omega)]
        dsimp only
        rw [haystackref06_Block_spec _ _ _ (by have := sliceN_lt (wds ob) (Int.toNat (at_ : Int)) (Int.toNat ((0 : Nat) : Int)); have : 2 ^ Int.toNat ((0 : Nat) : Int) = 1 := rfl; omega), chI_big hy, if_pos (Nat.zero_le _), sel_npos rfl, Bool.not_false, Ev.sel_true]
      have hw := wid15_le x
      have hp : 2 ^ wid15 x ≤ 2 ^ 13 := Nat.pow_le_pow_right (by decide) hw
      have e15 : chI 15 (x : Int) = ch 15 x := chI_nat' 15 x (by decide)
      rw [if_neg h5, cvt_small (by omega), haystackref06_Width_spec, widI_15, haystackref02_Slice_spec _ _ (Ws.wds ho), sliceS_wds ob ho _ _ (by omega) (by omega)]
      by_cases h6 : ob.length < at_ + wid15 x
      · rw [if_pos (by omega), if_pos h6, show ((0 : Int), (3 : Int)).1 = ((0 : Nat) : Int) from rfl, haystackref06_Block_spec _ _ _ (by decide)]
        split <;> rw [sel_nneg (show ¬ ((0 : Int), (3 : Int)).2 = 0 by decide)]
      rw [if_neg (by omega), if_neg h6, Int.toNat_natCast, Int.toNat_natCast]
      dsimp only
      have hs := sliceN_lt (wds ob) at_ (wid15 x)
      rw [haystackref06_Block_spec _ _ _ (by omega), e15]
      generalize sliceN (wds ob) at_ (wid15 x) = y at *
      by_cases h7 : ch 15 x ≤ y
      · rw [if_pos h7, if_pos h7, sel_npos rfl, Bool.not_false, Ev.sel_true]
      rw [if_neg h7, if_neg h7, sel_npos rfl, Bool.not_true, Ev.sel_false, show (15 : Int).toNat = 15 from rfl, Int.toNat_natCast, if_neg (by simp)]
      have hb := blkN_lt 15 x y
      generalize blkN 15 x y = w at *
      rw [haystackref08_row_j14_unf]; unfold haystackref08_row_j14_B
      rw [haystackref08_row_l15_unf]; unfold haystackref08_row_l15_B
      have e0 : o ++ lowB w 0 = o := by simp [lowB]
      have hin := fun v1 v2 v3 v4 v8 v9 va vb vc vd ve vf vg K0 => ref08_inner (R := R) N hN w (by omega) o h4 v1 v2 v3 v4 v8 v9 va vb vc vd ve vf vg K0 NR 0 (by omega) (by have := NR_lt; omega)
      rw [e0] at hin
      refine (show _ = _ from hin _ _ _ _ _ _ _ _ _ _ _ _ _ _).trans ?_
      rw [addW_i64 (by omega) (by omega)]
      dsimp only
      rw [addW_i64 (by omega) (by omega), show (j : Int) + 1 = ((j + 1 : Nat) : Int) by omega, show (at_ : Int) + ((wid15 x : Nat) : Int) = ((at_ + wid15 x : Nat) : Int) by omega]
      have hlen : o.length + min 15 (N - o.length) = (o ++ lowB w (min 15 (N - o.length))).length := by rw [List.length_append, lowB_length]
      rw [hlen]
      exact ref08_row_loop N hN ob ho cs hc hcl a b c e hs' js z K0 K1 F (j + 1) (at_ + wid15 x) _ (by omega) (by omega) (by omega) (by omega)
    · rw [sel_neg (by rw [ci_length]; omega), List.drop_of_length_le (by omega)]
      rfl
/-- the bits that the document reads -/
def rowD (N a w n : Int) (ws : List Nat) (f : Int) (vs : List Nat) : List Bool := (rowX false N a w n ws f vs).getD []
theorem rowD_length (N a w n : Int) (ws : List Nat) (f : Int) (vs : List Nat) : (rowD N a w n ws f vs).length ≤ 1048576 := by
  unfold rowD
  cases h : rowX false N a w n ws f vs with
  | none => simp
  | some r => exact rowX_length h
theorem haystackref08_row_spec (N a w n : Int) (ws : List Nat) (hw : Ws ws) (f : Int) (vs : List Nat) (hv : Ws vs) (hs js : List Int) (h1 : 0 ≤ N) (h2 : N ≤ 1048576) (h3 : okI a w n ws = true) (h4 : okRow f vs = true) (K : Int → List Int → Option R) :
    haystackref08_row N a w n (ci ws) f (ci vs) hs js K = K ((rowD N a w n ws f vs).length : Int) (ci (wds (rowD N a w n ws f vs))) := by
  obtain ⟨ob, hf, rfl, hob⟩ := okRow_wds h4 hv.1
  subst hf
  obtain ⟨N, rfl⟩ : ∃ b : Nat, N = (b : Int) := ⟨N.toNat, by omega⟩
  have hcs : ∀ u ∈ listI a w n ws, u < 2 ^ 64 := fun u hu => by
    unfold listI at hu
    rw [if_pos h3] at hu
    obtain ⟨_, b, _, _, rfl, _, _, _, _, hb, _⟩ := okI_is h3 hw.1
    exact Ws_num hb _ u hu
  have hcl : (listI a w n ws).length < 1000000000 := by
    obtain ⟨a', b, _, rfl, rfl, _, _, _, _, hb, h7, _⟩ := okI_is h3 hw.1
    unfold listI
    rw [if_pos h3, numW_length]; omega
  have hx : rowX false (N : Int) a w n ws (ob.length : Int) (wds ob) = rowR false N ob (listI a w n ws) 0 [] := by
    unfold rowX
    rw [if_pos ⟨by omega, by omega, h3, h4, fun h => by cases h⟩, rowB_wds, Int.toNat_natCast]
  rw [haystackref08_row_unf]; unfold haystackref08_row_B
  rw [haystackref03_List_spec _ _ _ _ hw, haystackref08_row_l6_unf]; unfold haystackref08_row_l6_B
  refine (show _ = _ from ref08_row_loop N (by omega) ob hob _ hcs hcl a w n (ci ws) hs js 0 _ _ NR 0 0 [] (by omega) (by have := NR_lt; omega) (by omega) (by simp)).trans ?_
  unfold rowD
  rw [hx, List.drop_zero]
  cases hr : rowR false N ob (listI a w n ws) 0 [] with
  | none => rfl
  | some r =>
    have hl : r.length ≤ 1048576 := rowX_length (hx.trans hr)
    dsimp only
    rw [sel_pos rfl, sel_pos rfl, haystackref02_From_spec _ hl]
    rfl
open Classical in
theorem haystackref08_Whole_in {N a w n : Int} {ws : List Nat} {f : Int} {vs : List Nat} {h j : List Int} (hw : Ws ws) (hv : Ws vs) (s1 : ws.length < 4000000000) (s2 : vs.length < 4000000000) (s3 : h.length < 4000000000) (s4 : j.length < 4000000000) (K : Int → List Int → Bool → Option R) :
    haystackref08_Whole N a w n (ci ws) f (ci vs) h j K = if (0 ≤ N ∧ N ≤ 1048576 ∧ okI a w n ws = true ∧ okRow f vs = true) ∧ IsR (rowD N a w n ws f vs) N a w n (ci ws) f (ci vs) h j then K ((rowD N a w n ws f vs).length : Int) (ci (wds (rowD N a w n ws f vs))) true else K 0 [] false := by
  have bad : ∀ (v1 v2 v3 v4 : Int) (v5 : List Int) (v6 : Int) (v7 v8 v9 : List Int) (va : Int) (K0 : Bool → Int → Option R) (K1 : Int → Int → Int → Int → List Int → Int → List Int → List Int → List Int → Int → Option R), haystackref08_Whole_j3 true v1 v2 v3 v4 v5 v6 v7 v8 v9 va K0 K1 = K0 false 0 := fun _ _ _ _ _ _ _ _ _ _ _ _ => by
    rw [haystackref08_Whole_j3_unf]; rfl
  have good : ∀ (v1 v2 v3 v4 : Int) (v5 : List Int) (v6 : Int) (v7 v8 v9 : List Int) (va : Int) (K0 : Bool → Int → Option R) (K1 : Int → Int → Int → Int → List Int → Int → List Int → List Int → List Int → Int → Option R), haystackref08_Whole_j3 false v1 v2 v3 v4 v5 v6 v7 v8 v9 va K0 K1 = K1 v1 v2 v3 v4 v5 v6 v7 v8 v9 va := fun _ _ _ _ _ _ _ _ _ _ _ _ => by
    rw [haystackref08_Whole_j3_unf]; rfl
  rw [haystackref08_Whole_unf]; unfold haystackref08_Whole_B
  by_cases h1 : N < 0
  · rw [sel_pos h1, bad, if_neg (fun q => by have := q.1; omega)]
  by_cases h2 : 1048576 < N
  · rw [sel_neg h1, sel_pos h2, bad, if_neg (fun q => by have := q.1; omega)]
  rw [sel_neg h1, sel_neg h2, haystackref03_Check_spec _ _ _ _ hw]
  cases h3 : okI a w n ws with
  | false => rw [Bool.not_false, Ev.sel_true, bad, if_neg (fun h => by cases h.1.2.2.1)]
  | true =>
    rw [Bool.not_true, Ev.sel_false, haystackref02_Check_spec _ _ hv]
    cases h4 : okRow f vs with
    | false => rw [Bool.not_false, bad, if_neg (fun h => by cases h.1.2.2.2)]
    | true =>
      have hl := rowD_length N a w n ws f vs
      rw [Bool.not_true, good, haystackref08_Whole_j4_unf]; unfold haystackref08_Whole_j4_B
      rw [haystackref08_row_spec N a w n ws hw f vs hv h j (by omega) (by omega) h3 h4]
      dsimp only
      rw [haystackref08_Build_spec _ hl, haystackref08_Same_spec _ _ _ _ _ _ _ _ _ _ _ _ _ _ _ _ _ _ (by rw [ci_length]; exact s1) (by rw [ci_length]; exact s2) s3 s4]
      by_cases hq : IsR (rowD N a w n ws f vs) N a w n (ci ws) f (ci vs) h j
      · rw [if_pos ⟨⟨by omega, by omega, rfl, rfl⟩, hq⟩, decide_eq_true ⟨hq.a, hq.b, hq.c, hq.d, hq.e, hq.f, hq.g, hq.h, hq.j⟩]; rfl
      · rw [if_neg (fun q => hq q.2), decide_eq_false (fun ⟨q1, q2, q3, q4, q5, q6, q7, q8, q9⟩ => hq ⟨q1, q2, q3, q4, q5, q6, q7, q8, q9⟩)]; rfl
theorem haystackref08_Whole_yes {l : List Bool} (hl : l.length ≤ 1048576) {a b c d : Int} {e : List Int} {f : Int} {g h j : List Int} (r : IsR l a b c d e f g h j) (K : Int → List Int → Bool → Option R) : haystackref08_Whole a b c d e f g h j K = K (l.length : Int) (ci (wds l)) true := by
  obtain ⟨rfl, rfl, rfl, rfl, rfl, rfl, rfl, rfl, rfl⟩ := r
  obtain ⟨w1, w2⟩ := IsR.ws hl
  obtain ⟨s1, s2, s3, s4⟩ := IsR.short hl
  have hn := NB_le hl
  have ho := offs_small hl (i := NB l) (Nat.le_refl _)
  have hok : okI ((NB l : Nat) : Int) 4 ((NB l * 4 : Nat) : Int) (wds (catI 4 (clsL l (NB l)))) = true := okI_of (a := NB l) (b := 4) (by rw [catI_length, clsL_length]) (by decide) (by decide) (by omega)
  have hr : rowD (l.length : Int) ((NB l : Nat) : Int) 4 ((NB l * 4 : Nat) : Int) (wds (catI 4 (clsL l (NB l)))) ((offs l (NB l)).length : Int) (wds (offs l (NB l))) = l := by
    unfold rowD; rw [IsR.row hl]; rfl
  rw [haystackref08_Whole_in w1 w2 (by rw [ci_length] at s1; exact s1) (by rw [ci_length] at s2; exact s2) s3 s4, hr, if_pos ⟨⟨by omega, by omega, hok, okRow_of _ (by omega)⟩, ⟨rfl, rfl, rfl, rfl, rfl, rfl, rfl, rfl, rfl⟩⟩]
theorem haystackref08_Whole_no {a b c d : Int} {ws : List Nat} {f : Int} {vs : List Nat} {h j : List Int} (hw : Ws ws) (hv : Ws vs) (s1 : ws.length < 4000000000) (s2 : vs.length < 4000000000) (s3 : h.length < 4000000000) (s4 : j.length < 4000000000) (no : ∀ l : List Bool, l.length ≤ 1048576 → ¬ IsR l a b c d (ci ws) f (ci vs) h j) (K : Int → List Int → Bool → Option R) : haystackref08_Whole a b c d (ci ws) f (ci vs) h j K = K 0 [] false := by
  rw [haystackref08_Whole_in hw hv s1 s2 s3 s4, if_neg (fun q => no _ (rowD_length ..) q.2)]
end
end Go.Proofs.YtdojekdcdoaccaaGreatDoor
