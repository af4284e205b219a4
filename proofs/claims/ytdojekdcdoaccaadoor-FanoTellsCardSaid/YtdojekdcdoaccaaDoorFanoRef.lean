/- Layer 9: the document's answers: places, and what is built. -/
import Derived.Test.YtdojekdcdoaccaaDoorFanoE
import Derived.Test.YtdojekdcdoaccaaDoorFanoRefA
import Derived.Test.YtdojekdcdoaccaaDoorIntsRefO
namespace Go.Proofs.YtdojekdcdoaccaaDoor
open Go Go.Ev
section
variable {R : Type}
theorem ref9_places (l : List Bool) (hl : l.length ≤ 1048576) (K0 : Nat → List Int → Option R) : ∀ (F i : Nat), i ≤ l.length → l.length - i < F →
    haystackref09_places_l4_L K0 F (plN l i).length (i : Int) (l.length : Int) (ci (wds l)) (ci (plN l i)) = K0 (pl l).length (ci (pl l))
  | 0, _, _, h => by omega
  | F + 1, i, h1, h2 => by
    simp only [haystackref09_places_l4_L, haystackref09_places_l4_T]
    by_cases h : i < l.length
    · have hn : (plN l i).length ≤ i := by rw [plN_length]; exact cntOf_le _ _ _
      have ih := ref9_places l hl K0 F (i + 1) (by omega) (by omega)
      rw [plN_succ] at ih
      rw [sel_pos (by omega), haystackref02_At_spec _ _ (fun w hw => wds_lt hw) i (by rw [wds_length]; omega) (by omega), bitAt_wds, addW_i64 (by omega) (by omega), show (i : Int) + 1 = ((i + 1 : Nat) : Int) by omega]
      cases hb : l.getD i false with
      | true =>
        rw [hb, if_pos rfl] at ih
        rw [Ev.sel_true, sel_pos (ci_length _), sel_pos (by omega), letV_eq, ← ih, List.length_append]
        unfold ci
        rw [List.map_append]; rfl
      | false =>
        rw [hb, if_neg (by decide), List.append_nil] at ih
        rw [Ev.sel_false]; exact ih
    · have : i = l.length := by omega
      subst this
      rw [sel_neg (by omega)]; rfl
theorem haystackref09_places_spec (l : List Bool) (hl : l.length ≤ 1048576) (K : List Int → Option R) : haystackref09_places (l.length : Int) (ci (wds l)) K = K (ci (pl l)) := by
  rw [haystackref09_places_unf]; unfold haystackref09_places_B
  rw [haystackref09_places_l4_unf]; unfold haystackref09_places_l4_B
  refine (show _ = _ from ref9_places l hl _ NR 0 (by omega) (by have := NR_lt; omega)).trans ?_
  rw [sel_pos (ci_length _).symm]
theorem haystackref09_width_spec (n m : Nat) (hn : n < 2 ^ 62) (hm : m ≤ n) (K : Int → Option R) : haystackref09_width (n : Int) (m : Int) K = K ((widF n m : Nat) : Int) := by
  rw [haystackref09_width_unf]; unfold haystackref09_width_B widF
  by_cases h : m = 0
  · subst h; rw [sel_pos (by omega), if_pos rfl]; rfl
  · have h1 : n / m ≤ n := Nat.div_le_self _ _
    have h2 : 0 < n / m := Nat.div_pos hm (by omega)
    have h3 := bitLen_pos (x := n / m) (by omega)
    have h4 : bitLen (n / m) ≤ 64 := bitLen_le (by omega)
    rw [sel_neg (by omega), sel_neg (by omega), if_neg h, quoW_nat (by omega) (by omega) (by omega), ← Int.natCast_ediv, cvtW_u64 (by omega) (by omega), haystackref01_Len_spec _ (by omega), subW_i64 (by omega) (by omega)]
    congr 1; omega
/-! ### of -/
theorem low_rem (p w : Nat) (hw : w ≤ 20) : remW (p : Int) (shlW .u64 1 (w : Int)) = ((p % 2 ^ w : Nat) : Int) := by
  have h : 2 ^ w < 2 ^ 64 := Nat.pow_lt_pow_right (by decide) (by omega)
  rw [show (1 : Int) = ((1 : Nat) : Int) from rfl, shlW_u64 _ _ (by decide), Nat.one_mul, Nat.mod_eq_of_lt h, remW_nat]
theorem shl_ne (w : Nat) (hw : w ≤ 20) : ¬ shlW .u64 1 (w : Int) = 0 := by
  have h : 2 ^ w < 2 ^ 64 := Nat.pow_lt_pow_right (by decide) (by omega)
  have := Nat.two_pow_pos w
  rw [show (1 : Int) = ((1 : Nat) : Int) from rfl, shlW_u64 _ _ (by decide), Nat.one_mul, Nat.mod_eq_of_lt h]; omega
theorem drop_cons' (ps : List Nat) {i : Nat} (h : i < ps.length) : ps.drop i = ps.getD i 0 :: ps.drop (i + 1) := by
  rw [List.drop_eq_getElem_cons h, List.getD_eq_getElem?_getD, List.getElem?_eq_getElem h]; rfl
theorem hq_bits {w i L : Nat} {p : Nat} (hp : p < 2 ^ 21) (hi : i < 2 ^ 21) (hb : p / 2 ^ w + i < L) (hL : L < 2 ^ 22) : addW .i64 (shrW .i64 (p : Int) (w : Int)) (i : Int) = ((p / 2 ^ w + i : Nat) : Int) := by
  have hz := Int.natCast_nonneg (p / 2 ^ w)
  rw [shrW_i64 _ _ (by omega), addW_i64 (by omega) (by omega)]; omega
theorem ref9_of (ps : List Nat) (w L : Nat) (hw : w ≤ 20) (hL : L < 2 ^ 22) (z1 z2 z3 z4 z5 z6 z7 z8 z9 za zb zc : Int)
  (K0 : Int → Nat → Nat → Int → Int → Int → Int → Int → Int → Int → Int → Int → Int → Int → Int → List Bool → List Int → Option R) :
    ∀ (F i : Nat) (bs : List Bool) (low : List Nat), i ≤ ps.length → ps.length - i < F → bs.length = L → low.length ≤ i → OkH w L i (ps.drop i) →
    haystackref09_of_l7_L K0 F (ci ps) (w : Int) L low.length (i : Int) z1 z2 z3 z4 z5 z6 z7 z8 z9 za zb zc bs (ci low) = K0 (w : Int) L (low ++ lowL w (ps.drop i)).length z1 z2 z3 z4 z5 z6 z7 z8 z9 za zb zc (setA (hq w i (ps.drop i)) bs) (ci (low ++ lowL w (ps.drop i)))
  | 0, _, _, _, _, h, _, _, _ => by omega
  | F + 1, i, bs, low, h1, h2, h3, h4, h7 => by
    simp only [haystackref09_of_l7_L, haystackref09_of_l7_T]
    rw [ci_length]
    by_cases h : i < ps.length
    · rw [drop_cons' ps h] at h7 ⊢
      obtain ⟨g1, g2, g3, g4⟩ := h7.head
      have g5 := Int.natCast_nonneg (ps.getD i 0 / 2 ^ w)
      rw [Int.toNat_natCast, ci_getD, cvtW_u64 (a := (w : Int)) (by omega) (by omega), hq_bits g3 g4 g2 hL, Int.toNat_natCast, cvtW_u64 (a := ((ps.getD i 0 : Nat) : Int)) (by omega) (by omega), low_rem _ _ hw]
      rw [sel_pos (by omega), sel_pos (by omega), sel_pos (by omega), sel_pos (by omega), sel_pos (by omega), sel_pos (by omega), sel_pos (by omega), letV_eq]
      by_cases h0 : w = 0
      · have ih := ref9_of ps w L hw hL z1 z2 z3 z4 z5 z6 z7 z8 z9 za zb zc K0 F (i + 1) (bs.set (ps.getD i 0 / 2 ^ w + i) true) low (by omega) (by omega) (by rw [List.length_set]; exact h3) (by omega) g1
        rw [sel_neg (by omega), addW_i64 (by have := h7.1; omega) (by have := h7.1; omega), show (i : Int) + 1 = ((i + 1 : Nat) : Int) by omega, ih]
        unfold lowL
        rw [if_pos h0, if_pos h0]
        rfl
      · have ih := ref9_of ps w L hw hL z1 z2 z3 z4 z5 z6 z7 z8 z9 za zb zc K0 F (i + 1) (bs.set (ps.getD i 0 / 2 ^ w + i) true) (low ++ [ps.getD i 0 % 2 ^ w]) (by omega) (by omega) (by rw [List.length_set]; exact h3) (by rw [List.length_append]; simp; omega) g1
        rw [sel_pos (by omega), sel_pos (by omega), sel_pos (by omega), sel_pos (by omega), sel_neg (shl_ne w hw), sel_pos (ci_length low), sel_pos (by have := h7.1; omega), letV_eq, addW_i64 (by have := h7.1; omega) (by have := h7.1; omega), show (i : Int) + 1 = ((i + 1 : Nat) : Int) by omega]
        have e : low ++ lowL w (ps.getD i 0 :: ps.drop (i + 1)) = (low ++ [ps.getD i 0 % 2 ^ w]) ++ lowL w (ps.drop (i + 1)) := by
          unfold lowL; rw [if_neg h0, if_neg h0, List.append_assoc]; rfl
        rw [e]
        refine Eq.trans ?_ ih
        rw [List.length_append]
        unfold ci
        rw [List.map_append]; rfl
    · have : i = ps.length := by omega
      subst this
      have e : lowL w [] = [] := by unfold lowL; split <;> rfl
      rw [sel_neg (by omega), List.drop_of_length_le (Nat.le_refl _), e, List.append_nil]
      simp [hq, setA]
theorem FV_comm (w : Nat) : max2 (w : Int) 1 = ((max 1 w : Nat) : Int) := by
  rw [show (1 : Int) = ((1 : Nat) : Int) from rfl, max2_nat, Nat.max_comm]
theorem haystackref09_of_spec (l : List Bool) (hl : l.length ≤ 3000) (K : Int → Int → Int → Int → Int → List Int → Int → List Int → Int → Option R) :
    haystackref09_of (l.length : Int) (ci (pl l)) K = K (l.length : Int) ((FM l : Nat) : Int) ((FL l).length : Int) ((FV l : Nat) : Int) (((FL l).length * FV l : Nat) : Int) (ci (wds (catI (FV l) (FL l)))) ((FH l).length : Int) (ci (wds (FH l))) 0 := by
  obtain ⟨b1, b2, b3⟩ := build_bounds hl
  have hw := FW_le hl
  have hm := FM_le l
  rw [haystackref09_of_unf]; unfold haystackref09_of_B
  rw [ci_length]
  show haystackref09_width (l.length : Int) ((FM l : Nat) : Int) _ = _
  rw [haystackref09_width_spec _ _ (by omega) hm, show widF l.length (FM l) = FW l from rfl]
  rw [cvtW_u64 (a := ((FW l : Nat) : Int)) (by omega) (by omega), b1]
  show sel _ (sel (decide (0 ≤ addW .i64 (addW .i64 ((FM l : Nat) : Int) ((l.length / 2 ^ FW l : Nat) : Int)) 1)) _ _) _ = _
  rw [show (((pl l).length : Nat) : Int) = ((FM l : Nat) : Int) from rfl, b2]
  generalize hLe : FM l + l.length / 2 ^ FW l + 1 = L at *
  rw [sel_pos (by omega), sel_pos (by omega), sel_pos (by omega), sel_pos (by omega), sel_pos (by omega), letV_eq, Int.toNat_natCast, haystackref09_of_l7_unf]; unfold haystackref09_of_l7_B
  have hs := low_small (low := FL l) hw (Nat.le_trans hm hl) (FL_length l)
  have hlm := low_make hw (Nat.le_trans hm hl) (FL_length l) (FL_lt l)
  have hfl := FL_length l
  have hmk : makeI ((max 1 (FW l) : Nat) : Int) (FL l) = (((FL l).length : Int), ((max 1 (FW l) : Nat) : Int), (((FL l).length * max 1 (FW l) : Nat) : Int), wds (catI (max 1 (FW l)) (FL l)), 0) :=
    makeI_yes (by omega) (by omega) (by rw [← Int.natCast_mul] at hlm; omega) (by omega)
  have hok : OkH (FW l) L 0 (pl l) := by rw [← hLe]; exact FH_ok hl
  have hfin : setA (hq (FW l) 0 (pl l)) (List.replicate L false) = FH l := by rw [← hLe]; rfl
  have hfin2 : lowL (FW l) (pl l) = FL l := rfl
  have hFH : (FH l).length = L := by rw [FH_length, hLe]
  refine (show _ = _ from ref9_of (pl l) (FW l) L (by omega) (by omega) 0 0 0 0 0 0 (l.length : Int) ((FM l : Nat) : Int) 0 0 0 0 _ NR 0 (List.replicate L false) [] (by omega) (by have : (pl l).length = FM l := rfl; have := NR_lt; omega) (by simp) (by simp) (by rw [List.drop_zero]; exact hok)).trans ?_
  rw [List.drop_zero, hfin, hfin2, List.nil_append, ci_length, sel_pos rfl, sel_pos rfl, FV_comm, haystackref03_Make_spec _ _ (low_u64 hw (FL_lt l)) (by omega), hmk]
  try dsimp only
  rw [sel_pos hFH.symm, sel_pos hFH.symm, haystackref02_From_spec _ (by omega)]
  try dsimp only
  rw [sel_npos rfl, haystackref09_of_j15_unf]; unfold haystackref09_of_j15_B
  rw [sel_npos rfl]
  try dsimp only
  rw [haystackref09_of_j16_unf]; unfold haystackref09_of_j16_B
  rfl
theorem haystackref09_Build_spec (l : List Bool) (hl : l.length ≤ 3000) (K : Int → Int → Int → Int → Int → List Int → Int → List Int → Int → Option R) :
    haystackref09_Build (l.length : Int) (ci (wds l)) K = K (l.length : Int) ((FM l : Nat) : Int) ((FL l).length : Int) ((FV l : Nat) : Int) (((FL l).length * FV l : Nat) : Int) (ci (wds (catI (FV l) (FL l)))) ((FH l).length : Int) (ci (wds (FH l))) 0 := by
  rw [haystackref09_Build_unf]; unfold haystackref09_Build_B
  rw [haystackref02_Check_spec _ _ (Ws_wds (by omega)), okRow_of l (by omega), Bool.not_true, Ev.sel_false, haystackref09_places_spec l (by omega), haystackref09_of_spec l hl]
theorem haystackref09_Build_bad (n : Int) (ws : List Nat) (hw : Ws ws) (h : okRow n ws = false) (K : Int → Int → Int → Int → Int → List Int → Int → List Int → Int → Option R) :
    haystackref09_Build n (ci ws) K = K 0 0 0 0 0 [] 0 [] 2 := by
  rw [haystackref09_Build_unf]; unfold haystackref09_Build_B
  rw [haystackref02_Check_spec _ _ hw, h, Bool.not_false, Ev.sel_true]
end
end Go.Proofs.YtdojekdcdoaccaaDoor
