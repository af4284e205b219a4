/- Layer 9: which ones may be, and their bits. -/
import Derived.Test.YtdojekdcdoaccaaDoorFanoC
import Derived.Test.YtdojekdcdoaccaaDoorEqU
namespace Go.Proofs.YtdojekdcdoaccaaDoor
open Go Go.Ev
section
variable {R : Type}
theorem drop_eq_iff' (a b : List Int) (h : a.length = b.length) (j : Nat) (hj : j < a.length) : (a.drop j = b.drop j) ↔ (a.getD j 0 = b.getD j 0 ∧ a.drop (j + 1) = b.drop (j + 1)) := drop_eq_iff a b h j hj
theorem ci_iff {a b : List Nat} : ci a = ci b ↔ a = b := by
  constructor
  · intro h
    exact (List.map_inj_right (f := Int.ofNat) (fun x y h => Int.ofNat.inj h)).1 h
  · intro h; rw [h]
/-- is this what is built of the bits? -/
def SameF (M a b : Int) (xs : List Nat) (h : Int) (hs : List Nat) (out : List Bool) : Prop :=
  M = ((FM out : Nat) : Int) ∧ a = ((FL out).length : Int) ∧ b = ((FV out : Nat) : Int) ∧ xs = wds (catI (FV out) (FL out)) ∧ h = ((FH out).length : Int) ∧ hs = wds (FH out)
instance (M a b : Int) (xs : List Nat) (h : Int) (hs : List Nat) (out : List Bool) : Decidable (SameF M a b xs h hs out) := by unfold SameF; infer_instance
theorem row_j15_yes (n n2 : Int) (xs : List Int) (K0 : Bool → Int → Option R) (K1 : Bool → Int → List Int → Option R) : fano_row_j15 0 true n n2 xs K0 K1 = K1 true n2 xs := by
  rw [fano_row_j15_unf]; unfold fano_row_j15_B
  rw [sel_npos rfl, fano_row_j16_unf]; unfold fano_row_j16_B
  rw [Bool.not_true, Ev.sel_false]
theorem row_j15_no (n n2 : Int) (xs : List Int) (K0 : Bool → Int → Option R) (K1 : Bool → Int → List Int → Option R) : fano_row_j15 0 false n n2 xs K0 K1 = K0 false 0 := by
  rw [fano_row_j15_unf]; unfold fano_row_j15_B
  rw [sel_npos rfl, fano_row_j16_unf]; unfold fano_row_j16_B
  rw [Bool.not_false, Ev.sel_true]
theorem row_j4_spec (N M : Nat) (hN : N ≤ 3000) (hM : M ≤ N) (a b c : Int) (xs : List Nat) (hxs : Ws xs) (hxl : xs.length < 4000000000) (H : List Bool) (hH : H.length ≤ 1048576) (n : Int) (K0 : Bool → Int → Option R) (K1 : Bool → Int → List Int → Option R) :
    fano_row_j4 (N : Int) (M : Int) a b c (ci xs) (H.length : Int) (ci (wds H)) n K0 K1 =
    if (rowF (widF N M) (listI a b c xs) M N (pl H) 0 (List.replicate N false)).1 = true ∧ SameF (M : Int) a b xs (H.length : Int) (wds H) (rowF (widF N M) (listI a b c xs) M N (pl H) 0 (List.replicate N false)).2
    then K1 true (N : Int) (ci (wds (rowF (widF N M) (listI a b c xs) M N (pl H) 0 (List.replicate N false)).2)) else K0 false 0 := by
  have hlow : ∀ u ∈ listI a b c xs, u < 2 ^ 64 := fun u hu => by
    unfold listI at hu
    split at hu
    · rename_i hok
      obtain ⟨a', b', l, rfl, rfl, rfl, rfl, f1, f2, f3, f4, f5⟩ := okI_is hok hxs.1
      rw [Int.toNat_natCast, Int.toNat_natCast] at hu
      exact Ws_num f3 _ u hu
    · simp at hu
  have hw : widF N M ≤ 20 := widF_le (by omega)
  have hlen := rowF_length (widF N M) (listI a b c xs) M N (pl H) 0 (List.replicate N false)
  rw [List.length_replicate] at hlen
  rw [fano_row_j4_unf]; unfold fano_row_j4_B
  rw [fano_width_spec _ _ (by omega) hM, ints_List_spec _ _ _ _ hxs, sel_pos (by omega), sel_pos (by omega), sel_pos (by omega), sel_pos (by omega), letV_eq, Int.toNat_natCast, fano_row_j7_unf]; unfold fano_row_j7_B
  rw [fano_eachOne_r_unf]; unfold fano_eachOne_r_B
  try dsimp only
  rw [fano_eachOne_1_r_1_unf]; unfold fano_eachOne_1_r_1_B
  rw [fano_eachOne_1_l2_1_unf]; unfold fano_eachOne_1_l2_1_B
  rw [ci_length]
  generalize hr : rowF (widF N M) (listI a b c xs) M N (pl H) 0 (List.replicate N false) = r at *
  refine (row_words (wds H) (fun u hu => wds_lt hu) (by rw [wds_length]; omega) (widF N M) (listI a b c xs) N M a b c (ci xs) (H.length : Int) (ci (wds H)) (H.length : Int) (ci (wds H)) hw hlow _ _
    (fun r => if r.2.length = N then (if r.1 = true ∧ SameF (M : Int) a b xs (H.length : Int) (wds H) r.2 then K1 true (N : Int) (ci (wds r.2)) else K0 false 0) else K0 false 0)
    (fun i out => ?_) (fun i out hol => ?_) NR 0 0 (List.replicate N false) (by omega) (by rw [wds_length]; have := NR_lt; omega) (by simp) ?_).trans ?_
  · try dsimp only
    rw [Bool.not_false, Ev.sel_true]
    simp
  · try dsimp only
    rw [Bool.not_true, Ev.sel_false, if_pos hol, sel_pos hol.symm, sel_pos hol.symm, bits_From_spec out (by omega), ← hol]
    try dsimp only
    rw [fano_Build_spec out (by omega)]
    have hx : (ci xs).length < 4000000000 := by rw [ci_length]; exact hxl
    have hy : (ci (wds H)).length < 4000000000 := by rw [ci_length, wds_length]; omega
    by_cases h1 : (M : Int) = ((FM out : Nat) : Int)
    · by_cases h2 : a = ((FL out).length : Int)
      · by_cases h3 : b = ((FV out : Nat) : Int)
        · rw [sel_pos h1, sel_pos h2, sel_pos h3, slices_Equal_u64_spec _ _ hx]
          by_cases h4 : ci xs = ci (wds (catI (FV out) (FL out)))
          · rw [decide_eq_true h4, Ev.sel_true]
            by_cases h5 : (H.length : Int) = ((FH out).length : Int)
            · rw [sel_pos h5, slices_Equal_u64_spec _ _ hy]
              by_cases h6 : ci (wds H) = ci (wds (FH out))
              · rw [decide_eq_true h6, row_j15_yes, if_pos ⟨rfl, h1, h2, h3, ci_iff.1 h4, h5, ci_iff.1 h6⟩]
              · rw [decide_eq_false h6, row_j15_no, if_neg (fun h => h6 (ci_iff.2 h.2.2.2.2.2.2))]
            · rw [sel_neg h5, row_j15_no, if_neg (fun h => h5 h.2.2.2.2.2.1)]
          · rw [decide_eq_false h4, Ev.sel_false, row_j15_no, if_neg (fun h => h4 (ci_iff.2 h.2.2.2.2.1))]
        · rw [sel_pos h1, sel_pos h2, sel_neg h3, row_j15_no, if_neg (fun h => h3 h.2.2.2.1)]
      · rw [sel_pos h1, sel_neg h2, row_j15_no, if_neg (fun h => h2 h.2.2.1)]
    · rw [sel_neg h1, row_j15_no, if_neg (fun h => h1 h.2.1)]
  · rw [List.drop_zero, plw_wds]
    exact ⟨pl_rise H, fun q hq => ⟨Nat.zero_le _, by have := pl_lt hq; omega⟩⟩
  · rw [List.drop_zero, plw_wds, hr, if_pos hlen]
theorem FL_ok {l : List Bool} (hl : l.length ≤ 3000) : okI ((FL l).length : Int) ((FV l : Nat) : Int) (((FL l).length * FV l : Nat) : Int) (wds (catI (FV l) (FL l))) = true := by
  have hw := FW_le hl
  have h1 := low_small (low := FL l) hw (Nat.le_trans (FM_le l) hl) (FL_length l)
  refine okI_of (catI_length _ _) ?_ ?_ ?_
  · unfold FV; omega
  · unfold FV; omega
  · unfold FV; omega
theorem FL_list {l : List Bool} (hl : l.length ≤ 3000) : listI ((FL l).length : Int) ((FV l : Nat) : Int) (((FL l).length * FV l : Nat) : Int) (wds (catI (FV l) (FL l))) = FL l := by
  unfold listI
  rw [if_pos (FL_ok hl), Int.toNat_natCast, Int.toNat_natCast]
  exact numW_catI fun u hu => Nat.lt_of_lt_of_le (FL_lt l u hu) (Nat.pow_le_pow_right (by decide) (by unfold FV; omega))
theorem pl_FH (l : List Bool) : pl (FH l) = hq (FW l) 0 (pl l) := pl_high (pl_rise l) fun p hp => Nat.le_of_lt (pl_lt hp)
theorem row_back {l : List Bool} (hl : l.length ≤ 3000) : rowF (FW l) (FL l) (FM l) l.length (pl (FH l)) 0 (List.replicate l.length false) = (true, l) := by
  have h := rowF_all (w := FW l) (n := l.length) (ps := pl l) (fun p hp => pl_lt hp) (pl l).length 0 (List.replicate l.length false) (by omega)
  rw [List.drop_zero, List.drop_zero, setA_pl] at h
  rw [pl_FH]; exact h
theorem SameF_self (l : List Bool) : SameF ((FM l : Nat) : Int) ((FL l).length : Int) ((FV l : Nat) : Int) (wds (catI (FV l) (FL l))) ((FH l).length : Int) (wds (FH l)) l := ⟨rfl, rfl, rfl, rfl, rfl, rfl⟩
theorem FLw_len {l : List Bool} (hl : l.length ≤ 3000) : (wds (catI (FV l) (FL l))).length < 4000000000 := by
  have h1 := low_small (low := FL l) (FW_le hl) (Nat.le_trans (FM_le l) hl) (FL_length l)
  rw [wds_length, catI_length]
  unfold FV; omega
theorem FLw_Ws {l : List Bool} (hl : l.length ≤ 3000) : Ws (wds (catI (FV l) (FL l))) := by
  have h1 := low_small (low := FL l) (FW_le hl) (Nat.le_trans (FM_le l) hl) (FL_length l)
  refine Ws.wds ?_
  rw [catI_length]
  unfold FV; omega
theorem FH_Ws {l : List Bool} (hl : l.length ≤ 3000) : Ws (wds (FH l)) := Ws.wds (by have := FH_le hl; omega)
/-- what one that may be comes to -/
theorem fano_row_yes (l : List Bool) (hl : l.length ≤ 3000) (K : Int → List Int → Bool → Option R) :
    fano_row (l.length : Int) ((FM l : Nat) : Int) ((FL l).length : Int) ((FV l : Nat) : Int) (((FL l).length * FV l : Nat) : Int) (ci (wds (catI (FV l) (FL l)))) ((FH l).length : Int) (ci (wds (FH l))) K = K (l.length : Int) (ci (wds l)) true := by
  have hm := FM_le l
  have hh := FH_le hl
  rw [fano_row_unf]; unfold fano_row_B
  rw [sel_neg (by omega), sel_neg (by omega), sel_neg (by omega), sel_neg (by omega), ints_Check_spec _ _ _ _ (FLw_Ws hl), FL_ok hl, Bool.not_true, Ev.sel_false, bits_Check_spec _ _ (FH_Ws hl), okRow_of (FH l) (by omega), Bool.not_true, fano_row_j3_unf]; unfold fano_row_j3_B
  rw [Ev.sel_false]
  try dsimp only
  rw [row_j4_spec l.length (FM l) hl hm _ _ _ _ (FLw_Ws hl) (FLw_len hl) (FH l) (by omega), FL_list hl]
  have e : rowF (widF l.length (FM l)) (FL l) (FM l) l.length (pl (FH l)) 0 (List.replicate l.length false) = (true, l) := row_back hl
  simp only [e]
  rw [if_pos ⟨trivial, SameF_self l⟩]
/-- may these be what is built of the bits? -/
def IsF (N M a b c : Int) (xs : List Nat) (h : Int) (hs : List Nat) (l : List Bool) : Prop :=
  N = (l.length : Int) ∧ c = (((FL l).length * FV l : Nat) : Int) ∧ SameF M a b xs h hs l
theorem fano_row_no (N M a b c : Int) (xs : List Nat) (h : Int) (hs : List Nat) (hN : N ≤ 3000) (hxs : Ws xs) (hxl : xs.length < 4000000000) (hhs : Ws hs) (hno : ∀ l : List Bool, l.length ≤ 3000 → ¬ IsF N M a b c xs h hs l) (K : Int → List Int → Bool → Option R) :
    fano_row N M a b c (ci xs) h (ci hs) K = K 0 [] false := by
  have j3 : ∀ K1 : Int → Int → Int → Int → Int → List Int → Int → List Int → Int → Option R, fano_row_j3 true N M a b c (ci xs) h (ci hs) 0 (fun b1184 n1185 => K n1185 [] b1184) K1 = K 0 [] false := fun K1 => by
    rw [fano_row_j3_unf]; unfold fano_row_j3_B
    rw [Ev.sel_true]
  rw [fano_row_unf]; unfold fano_row_B
  by_cases h1 : N < 0
  · rw [sel_pos h1, j3]
  rw [sel_neg h1, sel_neg (by omega)]
  by_cases h2 : M < 0
  · rw [sel_pos h2, j3]
  rw [sel_neg h2]
  by_cases h3 : N < M
  · rw [sel_pos h3, j3]
  rw [sel_neg h3, ints_Check_spec _ _ _ _ hxs]
  cases hok : okI a b c xs with
  | false => rw [Bool.not_false, Ev.sel_true, j3]
  | true =>
    rw [Bool.not_true, Ev.sel_false, bits_Check_spec _ _ hhs]
    cases hrow : okRow h hs with
    | false => rw [Bool.not_false, j3]
    | true =>
      obtain ⟨H, rfl, rfl, hH⟩ := okRow_wds hrow hhs.1
      obtain ⟨N, rfl⟩ : ∃ b : Nat, N = (b : Int) := ⟨N.toNat, by omega⟩
      obtain ⟨M, rfl⟩ : ∃ b : Nat, M = (b : Int) := ⟨M.toNat, by omega⟩
      rw [Bool.not_true, fano_row_j3_unf]; unfold fano_row_j3_B
      rw [Ev.sel_false]
      try dsimp only
      rw [row_j4_spec N M (by omega) (by omega) a b c xs hxs hxl H hH]
      split
      · rename_i hy
        exfalso
        have hlen := rowF_length (widF N M) (listI a b c xs) M N (pl H) 0 (List.replicate N false)
        rw [List.length_replicate] at hlen
        generalize rowF (widF N M) (listI a b c xs) M N (pl H) 0 (List.replicate N false) = r at *
        refine hno r.2 (by omega) ⟨by omega, ?_, hy.2⟩
        obtain ⟨a', b', l', rfl, rfl, rfl, _⟩ := okI_is hok hxs.1
        have e1 := Int.ofNat.inj hy.2.2.1
        have e2 := Int.ofNat.inj hy.2.2.2.1
        rw [e1, e2]
      · rfl
end
end Go.Proofs.YtdojekdcdoaccaaDoor
