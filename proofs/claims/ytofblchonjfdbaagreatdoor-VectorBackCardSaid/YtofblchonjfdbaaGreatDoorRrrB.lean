/- Layer 8: which ones may be, and their bits. -/
import Derived.Test.YtofblchonjfdbaaGreatDoorRrr
import Derived.Test.YtofblchonjfdbaaGreatDoorEqU
import Derived.Test.YtofblchonjfdbaaGreatDoorEqI
namespace Go.Proofs.YtofblchonjfdbaaGreatDoor
open Go Go.Ev
section
variable {R : Type}
theorem cvt_small {c : Nat} (h : c ≤ 15) : cvtW .i64 (c : Int) = (c : Int) := cvtW_i64 (by omega) (by omega)
theorem min_left {N n : Nat} (h : n ≤ N) (hN : N ≤ 1048576) : min2 15 (subW .i64 (N : Int) (n : Int)) = ((min 15 (N - n) : Nat) : Int) := by
  rw [subW_i64 (by omega) (by omega)]; unfold min2; split <;> omega
theorem row_loop (N : Nat) (hN : N ≤ 1048576) (ob : List Bool) (ho : ob.length ≤ 1048576) (cs : List Nat) (hc : ∀ u ∈ cs, u < 2 ^ 64) (hcl : cs.length < 1000000000) (a b c : Int) (e hs' js : List Int) (z : Int) (K0 : Bool → Int → Option R) (K1 : Int → Int → List Int → Option R) : ∀ (F j at_ : Nat) (o : List Bool), j ≤ cs.length → cs.length - j < F → at_ ≤ ob.length → o.length ≤ N →
    rrr_row_l7_L K0 K1 F (at_ : Int) (ci cs) (cs.length : Int) (j : Int) (N : Int) a b c e (ob.length : Int) (ci (wds ob)) hs' js z (o.length : Int) (ci (wds o)) =
      match rowR true N ob (cs.drop j) at_ o with | none => K0 false 0 | some r => K1 z (r.length : Int) (ci (wds r))
  | 0, _, _, _, _, h, _, _ => by omega
  | F + 1, j, at_, o, h1, h2, h3, h4 => by
    simp only [rrr_row_l7_L, rrr_row_l7_T]
    by_cases h : j < cs.length
    · have hd : cs.drop j = cs.getD j 0 :: cs.drop (j + 1) := by
        rw [List.getD_eq_getElem?_getD, List.getElem?_eq_getElem h]; exact List.drop_eq_getElem_cons h
      rw [hd, ci_length, sel_pos (by omega), sel_pos (by omega), sel_pos (by omega), Int.toNat_natCast, ci_getD]
      simp only [rowR]
      generalize cs.getD j 0 = x
      by_cases h5 : 15 < x
      · rw [sel_pos (by omega), if_pos h5]
      have hw := wid15_le x
      have hp : 2 ^ wid15 x ≤ 2 ^ 13 := Nat.pow_le_pow_right (by decide) hw
      have e15 : chI 15 (x : Int) = ch 15 x := chI_nat' 15 x (by decide)
      rw [sel_neg (by omega), if_neg h5, cvt_small (by omega), binom_Width_spec, widI_15, bits_Slice_spec _ _ (Ws.wds ho) _ _ (by omega) (by omega), sliceS_wds ob ho _ _ (by omega) (by omega)]
      by_cases h6 : ob.length < at_ + wid15 x
      · rw [if_pos (by omega), if_pos h6, show ((0 : Int), (3 : Int)).1 = ((0 : Nat) : Int) from rfl, binom_Block_spec _ _ _ (by decide)]
        split <;> (rw [sel_nneg (show ¬ ((0 : Int), (3 : Int)).2 = 0 by decide), rrr_row_j16_unf]; rfl)
      rw [if_neg (by omega), if_neg h6, Int.toNat_natCast, Int.toNat_natCast]
      dsimp only
      have hs := sliceN_lt (wds ob) at_ (wid15 x)
      rw [binom_Block_spec _ _ _ (by omega), e15]
      generalize sliceN (wds ob) at_ (wid15 x) = y at *
      by_cases h7 : ch 15 x ≤ y
      · rw [if_pos h7, if_pos h7, sel_npos rfl, Bool.not_false, Ev.sel_true, rrr_row_j16_unf]; rfl
      rw [if_neg h7, if_neg h7, sel_npos rfl, Bool.not_true, Ev.sel_false, show (15 : Int).toNat = 15 from rfl, Int.toNat_natCast]
      have hb := blkN_lt 15 x y
      generalize blkN 15 x y = w at *
      rw [word_Len_spec _ (by omega), min_left h4 hN, rrr_row_j16_unf]; unfold rrr_row_j16_B
      by_cases h8 : min 15 (N - o.length) < bitLen w
      · rw [sel_pos (by omega), if_pos ⟨trivial, h8⟩]
      · rw [sel_neg (by omega), if_neg (fun h => h8 h.2), rrr_row_j17_unf]; unfold rrr_row_j17_B
        dsimp only
        rw [bits_Append_spec _ _ (Ws.wds (by omega)) _ (by omega), appendS_wds _ _ _ (by omega) (by omega), addW_i64 (by omega) (by omega), addW_i64 (by omega) (by omega), show (j : Int) + 1 = ((j + 1 : Nat) : Int) by omega, show (at_ : Int) + ((wid15 x : Nat) : Int) = ((at_ + wid15 x : Nat) : Int) by omega]
        exact row_loop N hN ob ho cs hc hcl a b c e hs' js z K0 K1 F (j + 1) (at_ + wid15 x) _ (by omega) (by omega) (by omega) (by rw [List.length_append, lowB_length]; omega)
    · rw [sel_neg (by omega), List.drop_of_length_le (by omega)]
      rfl
/-- what the bits are that can be read -/
def rowX (tight : Bool) (N a w n : Int) (ws : List Nat) (f : Int) (vs : List Nat) : Option (List Bool) :=
  if 0 ≤ N ∧ N ≤ 1048576 ∧ okI a w n ws = true ∧ okRow f vs = true ∧ (tight = true → a = (N + 14) / 15) then rowR tight N.toNat (rowB f vs) (listI a w n ws) 0 [] else none
theorem rowX_length {tight : Bool} {N a w n : Int} {ws : List Nat} {f : Int} {vs : List Nat} {r : List Bool} (h : rowX tight N a w n ws f vs = some r) : r.length ≤ 1048576 := by
  unfold rowX at h
  split at h
  · have := rowR_length h (by simp); omega
  · cases h
theorem rrr_row_spec (N a w n : Int) (ws : List Nat) (hw : Ws ws) (f : Int) (vs : List Nat) (hv : Ws vs) (hs js : List Int) (K : Int → List Int → Bool → Option R) :
    rrr_row N a w n (ci ws) f (ci vs) hs js K = match rowX true N a w n ws f vs with | none => K 0 [] false | some r => K (r.length : Int) (ci (wds r)) true := by
  have bad : ∀ (v1 v2 v3 v4 : Int) (v5 : List Int) (v6 : Int) (v7 v8 v9 : List Int) (va : Int) (K0 : Bool → Int → Option R) (K1 : Int → Int → Int → Int → List Int → Int → List Int → List Int → List Int → Int → Option R), rrr_row_j3 true v1 v2 v3 v4 v5 v6 v7 v8 v9 va K0 K1 = K0 false 0 := fun _ _ _ _ _ _ _ _ _ _ _ _ => by
    rw [rrr_row_j3_unf]; rfl
  have good : ∀ (v1 v2 v3 v4 : Int) (v5 : List Int) (v6 : Int) (v7 v8 v9 : List Int) (va : Int) (K0 : Bool → Int → Option R) (K1 : Int → Int → Int → Int → List Int → Int → List Int → List Int → List Int → Int → Option R), rrr_row_j3 false v1 v2 v3 v4 v5 v6 v7 v8 v9 va K0 K1 = K1 v1 v2 v3 v4 v5 v6 v7 v8 v9 va := fun _ _ _ _ _ _ _ _ _ _ _ _ => by
    rw [rrr_row_j3_unf]; rfl
  rw [rrr_row_unf]; unfold rrr_row_B rowX
  by_cases h1 : N < 0
  · rw [sel_pos h1, bad, if_neg (by omega)]
  by_cases h2 : 1048576 < N
  · rw [sel_neg h1, sel_pos h2, bad, if_neg (by omega)]
  rw [sel_neg h1, sel_neg h2, ints_Check_spec _ _ _ _ hw]
  cases h3 : okI a w n ws with
  | false => rw [Bool.not_false, Ev.sel_true, bad, if_neg (fun h => by cases h.2.2.1)]
  | true =>
    rw [Bool.not_true, Ev.sel_false, bits_Check_spec _ _ hv]
    cases h4 : okRow f vs with
    | false => rw [Bool.not_false, Ev.sel_true, bad, if_neg (fun h => by cases h.2.2.2.1)]
    | true =>
      have e : quoW .i64 (subW .i64 (addW .i64 N 15) 1) 15 = (N + 14) / 15 := by
        rw [addW_i64 (by omega) (by omega), subW_i64 (by omega) (by omega), quoW_nat (by omega) (by omega) (by omega)]; congr 1; omega
      rw [Bool.not_true, Ev.sel_false, e]
      by_cases h5 : a = (N + 14) / 15
      · obtain ⟨ob, hf, rfl, hob⟩ := okRow_wds h4 hv.1
        subst hf
        obtain ⟨N, rfl⟩ : ∃ b : Nat, N = (b : Int) := ⟨N.toNat, by omega⟩
        have hcs : ∀ u ∈ listI a w n ws, u < 2 ^ 64 := fun u hu => by
          unfold listI at hu
          rw [if_pos h3] at hu
          obtain ⟨_, b, _, _, rfl, _, _, _, _, hb, _⟩ := okI_is h3 hw.1
          exact Ws_num hb _ u hu
        have hcl : (listI a w n ws).length < 1000000000 := by
          unfold listI
          rw [if_pos h3, numW_length]; omega
        rw [decide_eq_true h5, Bool.not_true, good, rrr_row_j4_unf, if_pos ⟨by omega, by omega, rfl, rfl, fun _ => h5⟩]; unfold rrr_row_j4_B
        rw [ints_List_spec _ _ _ _ hw, ci_length, rrr_row_l7_unf, rowB_wds, Int.toNat_natCast]; unfold rrr_row_l7_B
        refine (row_loop N (by omega) ob hob _ hcs hcl _ _ _ _ _ _ _ _ _ NR 0 0 [] (by omega) (by have := NR_lt; omega) (by omega) (by simp)).trans ?_
        rw [List.drop_zero]
      · rw [decide_eq_false h5, Bool.not_false, bad, if_neg (fun h => h5 (h.2.2.2.2 rfl))]
theorem rrr_same_spec (a b c d : Int) (e : List Int) (f : Int) (g h j : List Int) (a' b' c' d' : Int) (e' : List Int) (f' : Int) (g' h' j' : List Int) (h1 : e.length < 4000000000) (h2 : g.length < 4000000000) (h3 : h.length < 4000000000) (h4 : j.length < 4000000000) (K : Bool → Option R) :
    rrr_same a b c d e f g h j a' b' c' d' e' f' g' h' j' K = K (decide (a = a' ∧ b = b' ∧ c = c' ∧ d = d' ∧ e = e' ∧ f = f' ∧ g = g' ∧ h = h' ∧ j = j')) := by
  have j4 : ∀ (x y : Bool), rrr_same_j4 x y a b c d e f g h j a' b' c' d' e' f' g' h' j' K = K (x && (y && decide (a = a' ∧ h = h' ∧ j = j'))) := fun x y => by
    rw [rrr_same_j4_unf]; unfold rrr_same_j4_B
    cases x with
    | false => rfl
    | true => cases y with
      | false => rfl
      | true =>
        rw [Ev.sel_true, Ev.sel_true, Bool.true_and, Bool.true_and]
        by_cases q1 : a = a'
        · rw [sel_pos q1, slices_Equal_int_int_spec _ _ h3]
          by_cases q2 : h = h'
          · rw [sel_pos q2, slices_Equal_int_int_spec _ _ h4]
            congr 1; simp [q1, q2]
          · rw [sel_neg q2, decide_eq_false (fun q => q2 q.2.1)]
        · rw [sel_neg q1, decide_eq_false (fun q => q1 q.1)]
  have j3 : ∀ (x : Bool), rrr_same_j3 x a b c d e f g h j a' b' c' d' e' f' g' h' j' K = K (x && decide (f = f' ∧ g = g' ∧ a = a' ∧ h = h' ∧ j = j')) := fun x => by
    rw [rrr_same_j3_unf]; unfold rrr_same_j3_B
    by_cases q1 : f = f'
    · rw [sel_pos q1, slices_Equal_u64_spec _ _ h2]
      refine (j4 _ _).trans ?_
      congr 2
      simp [q1]
    · rw [sel_neg q1]
      refine (j4 _ _).trans ?_
      rw [Bool.false_and, decide_eq_false (fun q => q1 q.1)]
  rw [rrr_same_unf]; unfold rrr_same_B
  by_cases q1 : b = b'
  · rw [sel_pos q1]
    by_cases q2 : c = c'
    · rw [sel_pos q2]
      by_cases q3 : d = d'
      · rw [sel_pos q3, slices_Equal_u64_spec _ _ h1]
        refine (j3 _).trans ?_
        congr 1
        rw [Bool.eq_iff_iff]
        simp only [Bool.and_eq_true, decide_eq_true_eq]
        constructor
        · rintro ⟨q4, q5, q6, q7, q8, q9⟩; exact ⟨q7, q1, q2, q3, q4, q5, q6, q8, q9⟩
        · rintro ⟨q4, _, _, _, q5, q6, q7, q8, q9⟩; exact ⟨q5, q6, q7, q4, q8, q9⟩
      · rw [sel_neg q3]
        refine (j3 _).trans ?_
        rw [Bool.false_and, decide_eq_false (fun q => q3 q.2.2.2.1)]
    · rw [sel_neg q2]
      refine (j3 _).trans ?_
      rw [Bool.false_and, decide_eq_false (fun q => q2 q.2.2.1)]
  · rw [sel_neg q1]
    refine (j3 _).trans ?_
    rw [Bool.false_and, decide_eq_false (fun q => q1 q.2.1)]
theorem IsR.row {l : List Bool} (hl : l.length ≤ 1048576) (tight : Bool) : rowX tight (l.length : Int) ((NB l : Nat) : Int) 4 ((NB l * 4 : Nat) : Int) (wds (catI 4 (clsL l (NB l)))) ((offs l (NB l)).length : Int) (wds (offs l (NB l))) = some l := by
  have hn := NB_le hl
  have ho := offs_small hl (i := NB l) (Nat.le_refl _)
  have hok : okI ((NB l : Nat) : Int) 4 ((NB l * 4 : Nat) : Int) (wds (catI 4 (clsL l (NB l)))) = true := okI_of (a := NB l) (b := 4) (by rw [catI_length, clsL_length]) (by decide) (by decide) (by omega)
  unfold rowX
  rw [if_pos ⟨by omega, by omega, hok, okRow_of _ (by omega), fun _ => by unfold NB; omega⟩, rowB_wds, Int.toNat_natCast]
  unfold listI
  rw [if_pos hok, Int.toNat_natCast, show (4 : Int).toNat = 4 from rfl]
  have := numW_catI (w := 4) (us := clsL l (NB l)) (fun u h => clsL_lt l _ u h)
  rw [clsL_length] at this
  rw [this]
  exact rowR_all tight l
theorem IsR.ws {l : List Bool} (hl : l.length ≤ 1048576) : Ws (wds (catI 4 (clsL l (NB l)))) ∧ Ws (wds (offs l (NB l))) := by
  have hn := NB_le hl
  have ho := offs_small hl (i := NB l) (Nat.le_refl _)
  exact ⟨Ws.wds (by rw [catI_length, clsL_length]; omega), Ws.wds (by omega)⟩
theorem IsR.short {l : List Bool} (hl : l.length ≤ 1048576) : (ci (wds (catI 4 (clsL l (NB l))))).length < 4000000000 ∧ (ci (wds (offs l (NB l)))).length < 4000000000 ∧ (onesL l (NG l)).length < 4000000000 ∧ (ptsL l (NG l)).length < 4000000000 := by
  have hn := NB_le hl
  have ho := offs_small hl (i := NB l) (Nat.le_refl _)
  refine ⟨by rw [ci_length, wds_length, catI_length, clsL_length]; omega, by rw [ci_length, wds_length]; omega, ?_, ?_⟩
  · rw [onesL_length]; unfold NG grp; omega
  · rw [ptsL_length]; unfold NG grp; omega
theorem rrr_whole_yes {l : List Bool} (hl : l.length ≤ 1048576) {a b c d : Int} {e : List Int} {f : Int} {g h j : List Int} (r : IsR l a b c d e f g h j) (K : Int → List Int → Bool → Option R) : rrr_whole a b c d e f g h j K = K (l.length : Int) (ci (wds l)) true := by
  obtain ⟨rfl, rfl, rfl, rfl, rfl, rfl, rfl, rfl, rfl⟩ := r
  obtain ⟨w1, w2⟩ := IsR.ws hl
  obtain ⟨s1, s2, s3, s4⟩ := IsR.short hl
  rw [rrr_whole_unf]; unfold rrr_whole_B
  rw [rrr_row_spec _ _ _ _ _ w1 _ _ w2, IsR.row hl]
  dsimp only
  rw [Bool.not_true, Ev.sel_false, rrr_Build_spec l hl, rrr_same_spec _ _ _ _ _ _ _ _ _ _ _ _ _ _ _ _ _ _ s1 s2 s3 s4, decide_eq_true ⟨rfl, rfl, rfl, rfl, rfl, rfl, rfl, rfl, rfl⟩]
  rfl
theorem rrr_whole_no {a b c d : Int} {ws : List Nat} {f : Int} {vs : List Nat} {h j : List Int} (hw : Ws ws) (hv : Ws vs) (s1 : ws.length < 4000000000) (s2 : vs.length < 4000000000) (s3 : h.length < 4000000000) (s4 : j.length < 4000000000) (no : ∀ l : List Bool, l.length ≤ 1048576 → ¬ IsR l a b c d (ci ws) f (ci vs) h j) (K : Int → List Int → Bool → Option R) : rrr_whole a b c d (ci ws) f (ci vs) h j K = K 0 [] false := by
  rw [rrr_whole_unf]; unfold rrr_whole_B
  rw [rrr_row_spec _ _ _ _ _ hw _ _ hv]
  cases hr : rowX true a b c d ws f vs with
  | none => rfl
  | some r =>
    have hl := rowX_length hr
    dsimp only
    rw [Bool.not_true, Ev.sel_false, rrr_Build_spec r hl, rrr_same_spec _ _ _ _ _ _ _ _ _ _ _ _ _ _ _ _ _ _ (by rw [ci_length]; exact s1) (by rw [ci_length]; exact s2) s3 s4, decide_eq_false]
    · rfl
    · rintro ⟨q1, q2, q3, q4, q5, q6, q7, q8, q9⟩
      exact no r hl ⟨q1, q2, q3, q4, q5, q6, q7, q8, q9⟩
end
end Go.Proofs.YtofblchonjfdbaaGreatDoor
