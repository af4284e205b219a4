/- Layer 9: the document's answers: what is told. -/
import Derived.Test.YtdojekdcdoaccaaDoorFanoRefB
namespace Go.Proofs.YtdojekdcdoaccaaDoor
open Go Go.Ev
section
variable {R : Type}
section
variable (w : Nat) (low qs : List Nat) (N : Nat) (M a b c : Int) (xs : List Int) (h : Int) (zs : List Int)
theorem ref9_j9 (hlow : ∀ u ∈ low, u < 2 ^ 64) (hw : w ≤ 20) (h5 : qs.length < 2 ^ 21) (h7 : Ge 0 qs) (K0 : Bool → Option R) (K1 : Nat → Bool → List Int → Option R) (KK : List Nat → Bool → Option R) (hK0 : K0 false = KK [] false) (hK1 : ∀ Q : List Nat, K1 Q.length true (ci Q) = KK Q true) :
    haystackref09_row_j9 (w : Int) (ci low) (ci qs) (N : Int) M a b c xs h zs K0 K1 = if RiseN N (plF w low 0 qs) then KK (plF w low 0 qs) true else KK [] false := by
  rw [haystackref09_row_j9_unf]; unfold haystackref09_row_j9_B
  rw [haystackref09_row_l11_unf]; unfold haystackref09_row_l11_B
  refine (show _ = _ from ref9_row w low qs N M a b c xs h zs hlow hw _ _ NR 0 [] (by omega) (by have := NR_lt; omega) rfl h5 ⟨by simp, by simp⟩ h7).trans ?_
  rw [List.drop_zero, List.nil_append]
  split
  · rw [hK1]
  · rw [hK0]
end
theorem low_listI {a b c : Int} {xs : List Nat} (hxs : Ws xs) : ∀ u ∈ listI a b c xs, u < 2 ^ 64 := fun u hu => by
  unfold listI at hu
  split at hu
  · rename_i hok
    obtain ⟨a', b', l, rfl, rfl, rfl, rfl, f1, f2, f3, f4, f5⟩ := okI_is hok hxs.1
    rw [Int.toNat_natCast, Int.toNat_natCast] at hu
    exact Ws_num f3 _ u hu
  · simp at hu
theorem Ge_pl {H : List Bool} (h : H.length ≤ 1048576) : Ge 0 (pl H) := ⟨pl_rise H, fun q hq => ⟨Nat.zero_le _, by have := pl_lt hq; omega⟩⟩
/-- the places that are read, if so -/
theorem haystackref09_row_in (N M : Nat) (hN : N ≤ 3000) (hM : M ≤ N) (a b c : Int) (xs : List Nat) (hxs : Ws xs) (hok : okI a b c xs = true) (H : List Bool) (hH : H.length ≤ 1048576) (K : List Int → Bool → Option R) :
    haystackref09_row (N : Int) (M : Int) a b c (ci xs) (H.length : Int) (ci (wds H)) K =
    if ((pl H).length = M ∧ (0 < widF N M → (listI a b c xs).length = M)) ∧ RiseN N (plF (widF N M) (listI a b c xs) 0 (pl H)) then K (ci (plF (widF N M) (listI a b c xs) 0 (pl H))) true else K [] false := by
  have hw : widF N M ≤ 20 := widF_le (by omega)
  have hpl : (pl H).length < 2 ^ 21 := by have := FM_le H; unfold FM at this; omega
  rw [haystackref09_row_unf]; unfold haystackref09_row_B
  rw [sel_neg (by omega), sel_neg (by omega), sel_neg (by omega), sel_neg (by omega), haystackref03_Check_spec _ _ _ _ hxs, hok, Bool.not_true, Ev.sel_false, haystackref02_Check_spec _ _ (Ws_wds hH), okRow_of H hH, Bool.not_true, Ev.sel_false, haystackref09_row_j4_unf]; unfold haystackref09_row_j4_B
  rw [haystackref09_width_spec _ _ (by omega) hM, haystackref09_row_j5_unf]; unfold haystackref09_row_j5_B
  rw [haystackref03_List_spec _ _ _ _ hxs, haystackref09_places_spec H hH, ci_length, ci_length]
  have j9 : ∀ (K0 : Bool → Option R) (K1 : Nat → Bool → List Int → Option R), (K0 false = K [] false) → (∀ Q : List Nat, K1 Q.length true (ci Q) = K (ci Q) true) →
      haystackref09_row_j9 ((widF N M : Nat) : Int) (ci (listI a b c xs)) (ci (pl H)) (N : Int) (M : Int) a b c (ci xs) (H.length : Int) (ci (wds H)) K0 K1 = if RiseN N (plF (widF N M) (listI a b c xs) 0 (pl H)) then K (ci (plF (widF N M) (listI a b c xs) 0 (pl H))) true else K [] false := fun K0 K1 e0 e1 =>
    ref9_j9 (widF N M) (listI a b c xs) (pl H) N (M : Int) a b c (ci xs) (H.length : Int) (ci (wds H)) (low_listI hxs) hw hpl (Ge_pl hH) K0 K1 (fun Q b => K (ci Q) b) e0 e1
  have hout : ∀ Q : List Nat, (sel (decide (Q.length = List.length (ci Q))) (K (ci Q) true) none) = K (ci Q) true := fun Q => by
    rw [sel_pos (ci_length _).symm]
  by_cases h1 : (pl H).length = M
  · rw [sel_npos (by omega)]
    by_cases h2 : 0 < widF N M
    · rw [sel_pos (by omega)]
      by_cases h3 : (listI a b c xs).length = M
      · rw [sel_npos (by omega), j9 _ _ rfl (fun Q => hout Q)]
        simp only [h1, h3, implies_true, and_self, true_and]
      · rw [sel_nneg (by omega), if_neg (fun h => h3 (h.1.2 h2))]
    · rw [sel_neg (by omega), j9 _ _ rfl (fun Q => hout Q)]
      simp only [h1, h2, false_implies, and_self, true_and]
  · rw [sel_nneg (by omega), if_neg (fun h => h1 h.1.1)]
theorem haystackref09_row_bad (N M a b c : Int) (xs : List Nat) (h : Int) (hs : List Nat) (hxs : Ws xs) (hhs : Ws hs) (hno : ¬ (0 ≤ N ∧ N ≤ 1048576 ∧ 0 ≤ M ∧ M ≤ N ∧ okI a b c xs = true ∧ okRow h hs = true)) (K : List Int → Bool → Option R) :
    haystackref09_row N M a b c (ci xs) h (ci hs) K = K [] false := by
  rw [haystackref09_row_unf]; unfold haystackref09_row_B
  by_cases h1 : N < 0
  · rw [sel_pos h1]
  rw [sel_neg h1]
  by_cases h1b : 1048576 < N
  · rw [sel_pos h1b]
  rw [sel_neg h1b]
  by_cases h2 : M < 0
  · rw [sel_pos h2]
  rw [sel_neg h2]
  by_cases h3 : N < M
  · rw [sel_pos h3]
  rw [sel_neg h3, haystackref03_Check_spec _ _ _ _ hxs]
  cases hok : okI a b c xs with
  | false => rw [Bool.not_false, Ev.sel_true]
  | true =>
    rw [Bool.not_true, Ev.sel_false, haystackref02_Check_spec _ _ hhs]
    cases hrow : okRow h hs with
    | false => rw [Bool.not_false, Ev.sel_true]
    | true => exact absurd ⟨by omega, by omega, by omega, by omega, hok, hrow⟩ hno
theorem ref9_bits (Q : List Nat) (N : Nat) (hQ : ∀ q ∈ Q, q < N) (hQl : Q.length < 1000000) (z : Int) (K0 : Nat → Int → List Bool → Option R) : ∀ (F i : Nat) (bs : List Bool), i ≤ Q.length → Q.length - i < F → bs.length = N →
    haystackref09_Whole_l10_L K0 F (ci Q) N (i : Int) z bs = K0 N z (setA (Q.drop i) bs)
  | 0, _, _, _, h, _ => by omega
  | F + 1, i, bs, h1, h2, h3 => by
    simp only [haystackref09_Whole_l10_L, haystackref09_Whole_l10_T]
    rw [ci_length]
    by_cases h : i < Q.length
    · have hq := hQ (Q.getD i 0) (by rw [List.getD_eq_getElem?_getD, List.getElem?_eq_getElem h]; exact List.getElem_mem _)
      rw [Int.toNat_natCast, ci_getD, Int.toNat_natCast, sel_pos (by omega), sel_pos (by omega), sel_pos (by omega), sel_pos (by omega), sel_pos (by omega), sel_pos (by omega), letV_eq, addW_i64 (by omega) (by omega), show (i : Int) + 1 = ((i + 1 : Nat) : Int) by omega, ref9_bits Q N hQ hQl z K0 F (i + 1) _ (by omega) (by omega) (by rw [List.length_set]; exact h3), drop_cons' Q h]
      rfl
    · rw [sel_neg (by omega), List.drop_of_length_le (by omega)]; rfl
theorem haystackref09_Same_spec (N M a b c : Int) (xs : List Int) (h : Int) (hs : List Int) (N' M' a' b' c' : Int) (xs' : List Int) (h' : Int) (hs' : List Int) (hx : xs.length < 4000000000) (hh : hs.length < 4000000000) (K : Bool → Option R) :
    haystackref09_Same N M a b c xs h hs N' M' a' b' c' xs' h' hs' K = K (decide (N = N' ∧ M = M' ∧ (a = a' ∧ b = b' ∧ c = c' ∧ xs = xs') ∧ (h = h' ∧ hs = hs'))) := by
  rw [haystackref09_Same_unf]; unfold haystackref09_Same_B
  by_cases h1 : N = N'
  · rw [sel_pos h1]
    by_cases h2 : M = M'
    · rw [sel_pos h2, haystackref03_Same_spec _ _ _ _ _ _ _ _ hx]
      by_cases h3 : a = a' ∧ b = b' ∧ c = c' ∧ xs = xs'
      · rw [decide_eq_true h3, Ev.sel_true, haystackref02_Same_spec _ _ _ _ hh]
        congr 1
        rw [decide_eq_decide]
        exact ⟨fun h4 => ⟨h1, h2, h3, h4⟩, fun h4 => h4.2.2.2⟩
      · rw [decide_eq_false h3, Ev.sel_false, decide_eq_false (fun h4 => h3 h4.2.2.1)]
    · rw [sel_neg h2, decide_eq_false (fun h4 => h2 h4.2.1)]
  · rw [sel_neg h1, decide_eq_false (fun h4 => h1 h4.1)]
/-- the rest, once the places are read -/
theorem ref9_Whole_in (N : Nat) (hN : N ≤ 3000) (M a b c : Int) (xs : List Nat) (h : Int) (hs : List Nat) (hx : xs.length < 4000000000) (hh : hs.length < 4000000000) (l : List Bool) (hl : l.length = N) (Q : List Nat) (hQ : Q = pl l) (hrow : ∀ K : List Int → Bool → Option R, haystackref09_row (N : Int) M a b c (ci xs) h (ci hs) K = K (ci Q) true) (K : Int → List Int → Bool → Option R) :
    haystackref09_Whole (N : Int) M a b c (ci xs) h (ci hs) K = if c = (((FL l).length * FV l : Nat) : Int) ∧ SameF M a b xs h hs l then K (l.length : Int) (ci (wds l)) true else K 0 [] false := by
  subst hQ
  rw [haystackref09_Whole_unf]; unfold haystackref09_Whole_B
  rw [hrow, Bool.not_true, Ev.sel_false]
  have e := haystackref09_of_spec (R := R) l (by omega)
  rw [hl] at e
  rw [e, sel_npos rfl, haystackref09_Same_spec _ _ _ _ _ _ _ _ _ _ _ _ _ _ _ _ (by rw [ci_length]; exact hx) (by rw [ci_length]; exact hh)]
  by_cases hy : c = (((FL l).length * FV l : Nat) : Int) ∧ SameF M a b xs h hs l
  · obtain ⟨y0, y1, y2, y3, y4, y5, y6⟩ := hy
    rw [if_pos ⟨y0, y1, y2, y3, y4, y5, y6⟩, decide_eq_true ⟨rfl, y1, ⟨y2, y3, y0, ci_iff.2 y4⟩, y5, ci_iff.2 y6⟩, Bool.not_true, haystackref09_Whole_j7_unf]; unfold haystackref09_Whole_j7_B
    rw [Ev.sel_false]
    try dsimp only
    rw [haystackref09_Whole_j8_unf]; unfold haystackref09_Whole_j8_B
    have hpl : (pl l).length ≤ N := by have := FM_le l; unfold FM at this; omega
    rw [sel_pos (by omega), sel_pos (by omega), sel_pos (by omega), sel_pos (by omega), letV_eq, haystackref09_Whole_l10_unf]; unfold haystackref09_Whole_l10_B
    rw [Int.toNat_natCast]
    refine (ref9_bits (pl l) N (fun q hq => by have := pl_lt hq; omega) (by omega) 0 _ NR 0 (List.replicate N false) (by omega) (by have := NR_lt; omega) (by simp)).trans ?_
    have e2 : setA ((pl l).drop 0) (List.replicate N false) = l := by rw [List.drop_zero, ← hl]; exact setA_pl l
    rw [e2, sel_pos hl.symm, sel_pos hl.symm, haystackref02_From_spec l (by omega)]
  · rw [if_neg hy, decide_eq_false (fun h4 => hy ⟨h4.2.2.1.2.2.1, h4.2.1, h4.2.2.1.1, h4.2.2.1.2.1, ci_iff.1 h4.2.2.1.2.2.2, h4.2.2.2.1, ci_iff.1 h4.2.2.2.2⟩), Bool.not_false, haystackref09_Whole_j7_unf]; unfold haystackref09_Whole_j7_B
    rw [Ev.sel_true]
theorem haystackref09_Whole_yes (l : List Bool) (hl : l.length ≤ 3000) (K : Int → List Int → Bool → Option R) :
    haystackref09_Whole (l.length : Int) ((FM l : Nat) : Int) ((FL l).length : Int) ((FV l : Nat) : Int) (((FL l).length * FV l : Nat) : Int) (ci (wds (catI (FV l) (FL l)))) ((FH l).length : Int) (ci (wds (FH l))) K = K (l.length : Int) (ci (wds l)) true := by
  have hh := FH_le hl
  rw [ref9_Whole_in l.length hl _ _ _ _ _ _ _ (FLw_len hl) (by rw [wds_length]; omega) l rfl (pl l) rfl (fun K => ?_), if_pos ⟨rfl, SameF_self l⟩]
  rw [haystackref09_row_in l.length (FM l) hl (FM_le l) _ _ _ _ (FLw_Ws hl) (FL_ok hl) (FH l) (by omega)]
  have e : plF (widF l.length (FM l)) (FL l) 0 (pl (FH l)) = pl l := by
    rw [pl_FH]
    exact plF_all (w := FW l) (n := l.length) (ps := pl l) (fun p hp => Nat.le_of_lt (pl_lt hp)) (pl l).length 0 (by omega)
  simp only [FL_list hl, e]
  rw [if_pos]
  refine ⟨⟨?_, fun h0 => ?_⟩, pl_rise l, fun p hp => pl_lt hp⟩
  · rw [pl_FH, hq_length]; rfl
  · have h0 : 0 < FW l := h0
    unfold FL FM; rw [lowL_length, if_neg (by omega)]
theorem haystackref09_Whole_no (N M a b c : Int) (xs : List Nat) (h : Int) (hs : List Nat) (hN : N ≤ 3000) (hxs : Ws xs) (hxl : xs.length < 4000000000) (hhs : Ws hs) (hno : ∀ l : List Bool, l.length ≤ 3000 → ¬ IsF N M a b c xs h hs l) (K : Int → List Int → Bool → Option R) :
    haystackref09_Whole N M a b c (ci xs) h (ci hs) K = K 0 [] false := by
  have bad : (∀ K : List Int → Bool → Option R, haystackref09_row N M a b c (ci xs) h (ci hs) K = K [] false) → haystackref09_Whole N M a b c (ci xs) h (ci hs) K = K 0 [] false := fun hr => by
    rw [haystackref09_Whole_unf]; unfold haystackref09_Whole_B
    rw [hr, Bool.not_false, Ev.sel_true]
  by_cases hg : 0 ≤ N ∧ N ≤ 1048576 ∧ 0 ≤ M ∧ M ≤ N ∧ okI a b c xs = true ∧ okRow h hs = true
  · obtain ⟨g1, g2, g3, g4, hok, hrow⟩ := hg
    obtain ⟨H, rfl, rfl, hH⟩ := okRow_wds hrow hhs.1
    obtain ⟨N, rfl⟩ : ∃ b : Nat, N = (b : Int) := ⟨N.toNat, by omega⟩
    obtain ⟨M, rfl⟩ : ∃ b : Nat, M = (b : Int) := ⟨M.toNat, by omega⟩
    have hr := fun K : List Int → Bool → Option R => haystackref09_row_in (R := R) N M (by omega) (by omega) a b c xs hxs hok H hH K
    by_cases hy : ((pl H).length = M ∧ (0 < widF N M → (listI a b c xs).length = M)) ∧ RiseN N (plF (widF N M) (listI a b c xs) 0 (pl H))
    · generalize hQ : plF (widF N M) (listI a b c xs) 0 (pl H) = Q at *
      have hl : (setA Q (List.replicate N false)).length = N := by rw [setA_length, List.length_replicate]
      rw [ref9_Whole_in N (by omega) _ _ _ _ xs _ _ hxl (by rw [wds_length]; omega) (setA Q (List.replicate N false)) hl Q (pl_setA hy.2.1 hy.2.2).symm (fun K => by rw [hr, if_pos hy]), if_neg]
      intro h4
      exact hno _ (by omega) ⟨by omega, h4.1, h4.2⟩
    · exact bad fun K => by rw [hr, if_neg hy]
  · exact bad fun K => haystackref09_row_bad N M a b c xs h hs hxs hhs hg K
theorem bne_eq (a b : Bool) : (!(a == b)) = !decide (a = b) := by cases a <;> cases b <;> rfl
theorem ref9_Select_loop (l : List Bool) (hl : l.length ≤ 1048576) (bit : Bool) (k : Nat) (K0 : Int → Int → Option R) (K1 : Unit → Option R) : ∀ (f N i : Nat), i + f = l.length → f < N →
    haystackref09_Select_l7_L K0 K1 N bit (k : Int) ((cntOf l bit i : Nat) : Int) (i : Int) (l.length : Int) (ci (wds l)) = match seekB l bit k i f with | some q => K0 (q : Int) 0 | none => K1 ()
  | _, 0, _, _, h => by omega
  | 0, N + 1, i, h1, _ => by
    simp only [haystackref09_Select_l7_L, haystackref09_Select_l7_T]
    rw [sel_neg (by omega)]; rfl
  | f + 1, N + 1, i, h1, h2 => by
    simp only [haystackref09_Select_l7_L, haystackref09_Select_l7_T]
    have hc : cntOf l bit (i + 1) = cntOf l bit i + (l.getD i false == bit).toNat := rfl
    have hle := cntOf_le l bit i
    have ih := ref9_Select_loop l hl bit k K0 K1 f N (i + 1) (by omega) (by omega)
    rw [sel_pos (by omega), haystackref02_At_spec _ _ (fun w hw => wds_lt hw) i (by rw [wds_length]; omega) (by omega), bitAt_wds, bne_eq, addW_i64 (a := (i : Int)) (by omega) (by omega), show (i : Int) + 1 = ((i + 1 : Nat) : Int) by omega]
    unfold seekB
    by_cases hb : l.getD i false = bit
    · have hb2 : (l.getD i false == bit) = true := by rw [hb]; exact beq_self_eq_true _
      rw [hb2] at hc
      rw [sel_npos hb]
      by_cases hk : cntOf l bit i = k
      · rw [sel_pos (by omega), if_pos ⟨hb, hk⟩]
      · rw [sel_neg (by omega), if_neg (fun h => hk h.2), addW_i64 (by omega) (by omega), show ((cntOf l bit i : Nat) : Int) + 1 = ((cntOf l bit (i + 1) : Nat) : Int) by rw [hc]; rfl]
        exact ih
    · have hb2 : (l.getD i false == bit) = false := by
        cases h : (l.getD i false == bit) with
        | false => rfl
        | true => exact absurd (eq_of_beq h) hb
      rw [hb2] at hc
      rw [sel_nneg hb, if_neg (fun h => hb h.1), show cntOf l bit i = cntOf l bit (i + 1) by rw [hc]; rfl]
      exact ih
theorem ref9_Select_neg (l : List Bool) (hl : l.length ≤ 1048576) (bit : Bool) (k : Int) (hk : k < 0) (K0 : Int → Int → Option R) (K1 : Unit → Option R) : ∀ (f N i : Nat), i + f = l.length → f < N →
    haystackref09_Select_l7_L K0 K1 N bit k ((cntOf l bit i : Nat) : Int) (i : Int) (l.length : Int) (ci (wds l)) = K1 ()
  | _, 0, _, _, h => by omega
  | 0, N + 1, i, h1, _ => by
    simp only [haystackref09_Select_l7_L, haystackref09_Select_l7_T]
    rw [sel_neg (by omega)]
  | f + 1, N + 1, i, h1, h2 => by
    simp only [haystackref09_Select_l7_L, haystackref09_Select_l7_T]
    have hc : cntOf l bit (i + 1) = cntOf l bit i + (l.getD i false == bit).toNat := rfl
    have hle := cntOf_le l bit i
    have ih := ref9_Select_neg l hl bit k hk K0 K1 f N (i + 1) (by omega) (by omega)
    rw [sel_pos (by omega), haystackref02_At_spec _ _ (fun w hw => wds_lt hw) i (by rw [wds_length]; omega) (by omega), bitAt_wds, bne_eq, addW_i64 (a := (i : Int)) (by omega) (by omega), show (i : Int) + 1 = ((i + 1 : Nat) : Int) by omega]
    by_cases hb : l.getD i false = bit
    · have hb2 : (l.getD i false == bit) = true := by rw [hb]; exact beq_self_eq_true _
      rw [hb2] at hc
      rw [sel_npos hb, sel_neg (by omega), addW_i64 (by omega) (by omega), show ((cntOf l bit i : Nat) : Int) + 1 = ((cntOf l bit (i + 1) : Nat) : Int) by rw [hc]; rfl]
      exact ih
    · have hb2 : (l.getD i false == bit) = false := by
        cases h : (l.getD i false == bit) with
        | false => rfl
        | true => exact absurd (eq_of_beq h) hb
      rw [hb2] at hc
      rw [sel_nneg hb, show cntOf l bit i = cntOf l bit (i + 1) by rw [hc]; rfl]
      exact ih
theorem ref9_Check_yes (l : List Bool) (hl : l.length ≤ 3000) (K : Bool → Option R) : haystackref09_Check (l.length : Int) ((FM l : Nat) : Int) ((FL l).length : Int) ((FV l : Nat) : Int) (((FL l).length * FV l : Nat) : Int) (ci (wds (catI (FV l) (FL l)))) ((FH l).length : Int) (ci (wds (FH l))) K = K true := by
  rw [haystackref09_Check_unf]; unfold haystackref09_Check_B
  rw [haystackref09_Whole_yes l hl]
theorem ref9_Bits_yes (l : List Bool) (hl : l.length ≤ 3000) (K : Int → List Int → Option R) : haystackref09_Bits (l.length : Int) ((FM l : Nat) : Int) ((FL l).length : Int) ((FV l : Nat) : Int) (((FL l).length * FV l : Nat) : Int) (ci (wds (catI (FV l) (FL l)))) ((FH l).length : Int) (ci (wds (FH l))) K = K (l.length : Int) (ci (wds l)) := by
  rw [haystackref09_Bits_unf]; unfold haystackref09_Bits_B
  rw [haystackref09_Whole_yes l hl]
theorem ref9_Size_yes (l : List Bool) (hl : l.length ≤ 3000) (K : Int → Option R) : haystackref09_Size (l.length : Int) ((FM l : Nat) : Int) ((FL l).length : Int) ((FV l : Nat) : Int) (((FL l).length * FV l : Nat) : Int) (ci (wds (catI (FV l) (FL l)))) ((FH l).length : Int) (ci (wds (FH l))) K = K (((FL l).length * FV l + (FH l).length + 64 : Nat) : Int) := by
  have h1 := low_small (low := FL l) (FW_le hl) (Nat.le_trans (FM_le l) hl) (FL_length l)
  have h2 := FH_le hl
  rw [haystackref09_Size_unf]; unfold haystackref09_Size_B
  rw [ref9_Check_yes l hl, Bool.not_true, Ev.sel_false]
  have h3 : (FL l).length * FV l ≤ 33000 := h1
  have hz := Int.natCast_nonneg ((FL l).length * FV l)
  generalize (FL l).length * FV l = d at *
  have e : addW .i64 (d : Int) ((FH l).length : Int) = ((d + (FH l).length : Nat) : Int) := by rw [addW_i64 (by omega) (by omega)]; omega
  rw [e, addW_i64 (by omega) (by omega)]
  congr 1
theorem ref9_Access_yes (l : List Bool) (hl : l.length ≤ 3000) (i : Int) (K : Bool → Int → Option R) : haystackref09_Access (l.length : Int) ((FM l : Nat) : Int) ((FL l).length : Int) ((FV l : Nat) : Int) (((FL l).length * FV l : Nat) : Int) (ci (wds (catI (FV l) (FL l)))) ((FH l).length : Int) (ci (wds (FH l))) i K = K (accF l i).1 (accF l i).2 := by
  rw [haystackref09_Access_unf]; unfold haystackref09_Access_B accF
  rw [haystackref09_Whole_yes l hl, Bool.not_true, Ev.sel_false, haystackref02_Get_spec _ _ (Ws_wds (by omega)), getS_wds l (by omega)]
theorem ref9_Rank_yes (l : List Bool) (hl : l.length ≤ 3000) (bit : Bool) (i : Int) (K : Int → Int → Option R) : haystackref09_Rank (l.length : Int) ((FM l : Nat) : Int) ((FL l).length : Int) ((FV l : Nat) : Int) (((FL l).length * FV l : Nat) : Int) (ci (wds (catI (FV l) (FL l)))) ((FH l).length : Int) (ci (wds (FH l))) bit i K = K (rnkF l bit i).1 (rnkF l bit i).2 := by
  rw [haystackref09_Rank_unf]; unfold haystackref09_Rank_B rnkF
  rw [haystackref09_Whole_yes l hl, Bool.not_true, Ev.sel_false]
  by_cases h1 : i < 0
  · rw [sel_pos h1, if_pos (.inl h1)]
  by_cases h2 : (l.length : Int) < i
  · rw [sel_neg h1, sel_pos h2, if_pos (.inr h2)]
  obtain ⟨i, rfl⟩ : ∃ b : Nat, i = (b : Int) := ⟨i.toNat, by omega⟩
  rw [sel_neg h1, sel_neg h2, if_neg (by omega), haystackref09_Rank_j7_unf]; unfold haystackref09_Rank_j7_B
  rw [haystackref02_Ones_in l (by omega) _ (by omega), Int.toNat_natCast]
  have h3 := cntOf_add l i
  cases bit with
  | true => rw [Bool.not_true, Ev.sel_false]
  | false =>
    rw [Bool.not_false, Ev.sel_true, subW_i64 (by omega) (by omega)]
    congr 1; omega
theorem ref9_Select_yes (l : List Bool) (hl : l.length ≤ 3000) (bit : Bool) (k : Int) (K : Int → Int → Option R) : haystackref09_Select (l.length : Int) ((FM l : Nat) : Int) ((FL l).length : Int) ((FV l : Nat) : Int) (((FL l).length * FV l : Nat) : Int) (ci (wds (catI (FV l) (FL l)))) ((FH l).length : Int) (ci (wds (FH l))) bit k K = K (selF l bit k).1 (selF l bit k).2 := by
  rw [haystackref09_Select_unf]; unfold haystackref09_Select_B selF
  rw [haystackref09_Whole_yes l hl, Bool.not_true, Ev.sel_false, haystackref09_Select_l7_unf]; unfold haystackref09_Select_l7_B
  by_cases h1 : k < 0
  · rw [if_pos h1]
    exact ref9_Select_neg l (by omega) bit k h1 _ _ l.length NR 0 (by omega) (by have := NR_lt; omega)
  obtain ⟨q, rfl⟩ : ∃ q : Nat, k = (q : Int) := ⟨k.toNat, by omega⟩
  rw [if_neg h1, Int.toNat_natCast]
  refine (ref9_Select_loop l (by omega) bit q _ _ l.length NR 0 (by omega) (by have := NR_lt; omega)).trans ?_
  unfold placeB
  cases seekB l bit q 0 l.length <;> rfl
/-! ### of one that may not be -/
section
variable {N M a b c : Int} {xs : List Nat} {h : Int} {hs : List Nat} (hN : N ≤ 3000) (hxs : Ws xs) (hxl : xs.length < 4000000000) (hhs : Ws hs) (hno : ∀ l : List Bool, l.length ≤ 3000 → ¬ IsF N M a b c xs h hs l)
include hN hxs hxl hhs hno
theorem ref9_Check_no (K : Bool → Option R) : haystackref09_Check N M a b c (ci xs) h (ci hs) K = K false := by
  rw [haystackref09_Check_unf]; unfold haystackref09_Check_B
  rw [haystackref09_Whole_no N M a b c xs h hs hN hxs hxl hhs hno]
theorem ref9_Bits_no (K : Int → List Int → Option R) : haystackref09_Bits N M a b c (ci xs) h (ci hs) K = K 0 [] := by
  rw [haystackref09_Bits_unf]; unfold haystackref09_Bits_B
  rw [haystackref09_Whole_no N M a b c xs h hs hN hxs hxl hhs hno]
theorem ref9_Size_no (K : Int → Option R) : haystackref09_Size N M a b c (ci xs) h (ci hs) K = K 0 := by
  rw [haystackref09_Size_unf]; unfold haystackref09_Size_B
  rw [ref9_Check_no hN hxs hxl hhs hno, Bool.not_false, Ev.sel_true]
theorem ref9_Access_no (i : Int) (K : Bool → Int → Option R) : haystackref09_Access N M a b c (ci xs) h (ci hs) i K = K false 2 := by
  rw [haystackref09_Access_unf]; unfold haystackref09_Access_B
  rw [haystackref09_Whole_no N M a b c xs h hs hN hxs hxl hhs hno, Bool.not_false, Ev.sel_true]
theorem ref9_Rank_no (bit : Bool) (i : Int) (K : Int → Int → Option R) : haystackref09_Rank N M a b c (ci xs) h (ci hs) bit i K = K 0 2 := by
  rw [haystackref09_Rank_unf]; unfold haystackref09_Rank_B
  rw [haystackref09_Whole_no N M a b c xs h hs hN hxs hxl hhs hno, Bool.not_false, Ev.sel_true]
theorem ref9_Select_no (bit : Bool) (i : Int) (K : Int → Int → Option R) : haystackref09_Select N M a b c (ci xs) h (ci hs) bit i K = K 0 2 := by
  rw [haystackref09_Select_unf]; unfold haystackref09_Select_B
  rw [haystackref09_Whole_no N M a b c xs h hs hN hxs hxl hhs hno, Bool.not_false, Ev.sel_true]
end
end
end Go.Proofs.YtdojekdcdoaccaaDoor
