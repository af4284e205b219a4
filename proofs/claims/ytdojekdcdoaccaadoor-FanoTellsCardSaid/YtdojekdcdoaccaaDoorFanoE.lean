/- Layer 9: what one that may be tells. -/
import Derived.Test.YtdojekdcdoaccaaDoorFanoD
namespace Go.Proofs.YtdojekdcdoaccaaDoor
open Go Go.Ev
section
variable {R : Type}
theorem place_loop (i w N M a b c : Int) (xs : List Int) (h : Int) (zs : List Int) (ws : List Nat) (hws : ∀ u ∈ ws, u < 2 ^ 64) (hwl : ws.length < 1000000) (K0 : Int → Int → Int → Int → Int → Int → Int → Int → List Int → Int → List Int → Option R) :
    ∀ (F j k : Nat), j ≤ ws.length → ws.length - j < F → k < (plw j (ws.drop j)).length → k < 4000000000 →
    fano_place_l5_L K0 F i w (k : Int) ((64 * j : Nat) : Int) (ci ws) (ws.length : Int) (j : Int) N M a b c xs h zs = K0 i w (((plw j (ws.drop j)).getD k 0 : Nat) : Int) N M a b c xs h zs
  | 0, _, _, _, hF, _, _ => by omega
  | F + 1, j, k, hj, hF, hk, hkb => by
    simp only [fano_place_l5_L, fano_place_l5_T]
    by_cases h1 : j < ws.length
    · rw [plw_drop ws j h1] at hk ⊢
      have hx := getD_lt hws j
      rw [ci_length, sel_pos (by omega), sel_pos (by omega), sel_pos (by omega), Int.toNat_natCast, ci_getD, word_Pop_spec _ hx]
      generalize ws.getD j 0 = x at *
      have hp := pc_le x 64
      have hl : ((pw x).map (fun i => 64 * j + i)).length = pc x 64 := by rw [List.length_map, pw_length]
      rw [List.length_append, hl] at hk
      by_cases h2 : pc x 64 ≤ k
      · rw [sel_pos (by omega), subW_i64 (by omega) (by omega), addW_i64 (by omega) (by omega), addW_i64 (by omega) (by omega), show (k : Int) - ((pc x 64 : Nat) : Int) = ((k - pc x 64 : Nat) : Int) by omega,
          show ((64 * j : Nat) : Int) + 64 = ((64 * (j + 1) : Nat) : Int) by omega, show (j : Int) + 1 = ((j + 1 : Nat) : Int) by omega,
          place_loop i w N M a b c xs h zs ws hws hwl K0 F (j + 1) (k - pc x 64) (by omega) (by omega) (by omega) (by omega)]
        congr 2
        rw [List.getD_eq_getElem?_getD, List.getD_eq_getElem?_getD, List.getElem?_append_right (by omega), hl]
      · have hs := selN_le x (k : Int)
        rw [sel_neg (by omega), word_Select_spec _ hx, addW_i64 (by omega) (by omega)]
        have e : ((pw x).map (fun i => 64 * j + i) ++ plw (j + 1) (ws.drop (j + 1))).getD k 0 = 64 * j + selN x (k : Int) := by
          rw [List.getD_eq_getElem?_getD, List.getElem?_append_left (by omega), List.getElem?_map, ← pw_get k x hx (by omega), List.getD_eq_getElem?_getD, List.getElem?_eq_getElem (by rw [pw_length]; omega)]
          rfl
        rw [e]; rfl
    · rw [plw_end ws j j (by omega)] at hk
      simp at hk
theorem fano_place_spec (l : List Bool) (hl : l.length ≤ 3000) (i : Nat) (hi : i < FM l) (K : Int → Option R) :
    fano_place (l.length : Int) ((FM l : Nat) : Int) ((FL l).length : Int) ((FV l : Nat) : Int) (((FL l).length * FV l : Nat) : Int) (ci (wds (catI (FV l) (FL l)))) ((FH l).length : Int) (ci (wds (FH l))) (i : Int) K = K (((pl l).getD i 0 : Nat) : Int) := by
  have hm := FM_le l
  have hh := FH_le hl
  have hw := FW_le hl
  have hp : (pl l).getD i 0 < l.length := by
    have := (pl_isAt (l := l) (k := i) hi).lt; exact this
  rw [fano_place_unf]; unfold fano_place_B
  rw [fano_width_spec _ _ (by omega) hm, show widF l.length (FM l) = FW l from rfl, fano_place_l5_unf]; unfold fano_place_l5_B
  rw [ci_length]
  refine (place_loop (i : Int) ((FW l : Nat) : Int) _ _ _ _ _ _ _ _ (wds (FH l)) (fun u hu => wds_lt hu) (by rw [wds_length]; omega) _ NR 0 i (by omega) (by rw [wds_length]; have := NR_lt; omega) ?_ (by omega)).trans ?_
  · rw [List.drop_zero, plw_wds, pl_FH, hq_length]; exact hi
  · rw [List.drop_zero, plw_wds, pl_FH, hq_get _ _ _ _ hi]
    generalize hpe : (pl l).getD i 0 = p at *
    have hd : p / 2 ^ FW l ≤ p := Nat.div_le_self _ _
    have hz := Int.natCast_nonneg (p / 2 ^ FW l)
    have hsh := shl_low (a := p / 2 ^ FW l) (w := FW l) (by omega) (by omega)
    have e1 : subW .i64 ((p / 2 ^ FW l + (0 + i) : Nat) : Int) (i : Int) = ((p / 2 ^ FW l : Nat) : Int) := by
      generalize p / 2 ^ FW l = d at *
      rw [subW_i64 (by omega) (by omega)]; omega
    rw [e1, sel_pos (by omega), shlW_i64 _ _ (by omega) (by omega)]
    by_cases h0 : FW l = 0
    · rw [sel_neg (by omega)]
      congr 1
      rw [h0]; simp
    · have hll : (FL l).length = FM l := by unfold FL FM; rw [lowL_length, if_neg h0]
      have hv : FV l = FW l := by unfold FV; omega
      have hg : getI ((FL l).length : Int) ((FV l : Nat) : Int) (((FL l).length * FV l : Nat) : Int) (wds (catI (FV l) (FL l))) (i : Int) = (((p % 2 ^ FW l : Nat) : Int), 0) := by
        have e := FL_list hl
        unfold listI at e
        rw [if_pos (FL_ok hl)] at e
        have e2 := numW_get (wds (catI (FV l) (FL l))) ((FV l : Nat) : Int).toNat (n := ((FL l).length : Int).toNat) (i := i) (by omega)
        rw [e] at e2
        unfold getI
        rw [if_pos (FL_ok hl), if_neg (by omega), Int.toNat_natCast, ← e2]
        unfold FL
        rw [lowL_get h0 hi, hpe]
      have hlt : p % 2 ^ FW l < 2 ^ FW l := Nat.mod_lt _ (Nat.two_pow_pos _)
      have hle : p % 2 ^ FW l ≤ p := Nat.mod_le _ _
      rw [sel_pos (by omega), ints_Get_spec _ _ _ _ (FLw_Ws hl), hg]
      try dsimp only
      have hz2 := Int.natCast_nonneg (p % 2 ^ FW l)
      rw [cvtW_i64 (by omega) (by omega), orW_i64 _ _ (by omega) (by omega), or_add hlt, Nat.div_add_mod']
theorem isAt_lt_iff {l : List Bool} {bit : Bool} {k p i : Nat} (h : IsAt l bit k p) : p < i ↔ k < cntOf l bit i := by
  constructor
  · intro h1
    have := cntOf_lt l bit h1 h.is
    rw [h.cnt] at this; exact this
  · intro h1
    rcases Nat.lt_or_ge p i with h2 | h2
    · exact h2
    · have := cntOf_mono l bit h2
      rw [h.cnt] at this; omega
theorem ones_loop (l : List Bool) (hl : l.length ≤ 3000) (x : Nat) (K0 : Int → Option R) : ∀ (F lo hi : Nat), lo ≤ cntOf l true x → cntOf l true x ≤ hi → hi ≤ FM l → hi - lo < F →
    fano_ones_l3_L K0 F (x : Int) (lo : Int) (hi : Int) (l.length : Int) ((FM l : Nat) : Int) ((FL l).length : Int) ((FV l : Nat) : Int) (((FL l).length * FV l : Nat) : Int) (ci (wds (catI (FV l) (FL l)))) ((FH l).length : Int) (ci (wds (FH l))) = K0 ((cntOf l true x : Nat) : Int)
  | 0, _, _, _, _, _, hF => by omega
  | F + 1, lo, hi, h1, h2, h3, hF => by
    have hm := FM_le l
    simp only [fano_ones_l3_L, fano_ones_l3_T]
    by_cases h : lo < hi
    · have e : quoW .i64 (addW .i64 (lo : Int) (hi : Int)) 2 = (((lo + hi) / 2 : Nat) : Int) := by
        rw [addW_i64 (by omega) (by omega), quoW_nat (by omega) (by omega) (by omega)]; omega
      have hat := pl_isAt (l := l) (k := (lo + hi) / 2) (by show _ < FM l; omega)
      have hiff := isAt_lt_iff hat (i := x)
      rw [sel_pos (by omega), e, fano_place_spec l hl _ (by omega), addW_i64 (by omega) (by omega), show (((lo + hi) / 2 : Nat) : Int) + 1 = (((lo + hi) / 2 + 1 : Nat) : Int) by omega]
      by_cases h4 : (pl l).getD ((lo + hi) / 2) 0 < x
      · rw [sel_pos (by omega)]
        exact ones_loop l hl x K0 F _ _ (by have := hiff.1 h4; omega) h2 h3 (by omega)
      · rw [sel_neg (by omega)]
        exact ones_loop l hl x K0 F _ _ h1 (by have := fun h => h4 (hiff.2 h); omega) (by omega) (by omega)
    · rw [sel_neg (by omega)]
      congr 1; omega
theorem fano_ones_spec (l : List Bool) (hl : l.length ≤ 3000) (x : Nat) (hx : x ≤ l.length) (K : Int → Option R) :
    fano_ones (l.length : Int) ((FM l : Nat) : Int) ((FL l).length : Int) ((FV l : Nat) : Int) (((FL l).length * FV l : Nat) : Int) (ci (wds (catI (FV l) (FL l)))) ((FH l).length : Int) (ci (wds (FH l))) (x : Int) K = K ((cntOf l true x : Nat) : Int) := by
  have hm := FM_le l
  have h1 : cntOf l true x ≤ FM l := by unfold FM; rw [pl_length]; exact cntOf_mono l true hx
  rw [fano_ones_unf]; unfold fano_ones_B
  rw [fano_ones_l3_unf]; unfold fano_ones_l3_B
  exact ones_loop l hl x _ NR 0 (FM l) (by omega) h1 (Nat.le_refl _) (by have := NR_lt; omega)
/-! ### answers -/
def accF (l : List Bool) (i : Int) : Bool × Int := if i < 0 ∨ (l.length : Int) ≤ i then (false, 3) else (l.getD i.toNat false, 0)
def rnkF (l : List Bool) (bit : Bool) (i : Int) : Int × Int := if i < 0 ∨ (l.length : Int) < i then (0, 3) else (((cntOf l bit i.toNat : Nat) : Int), 0)
def selF (l : List Bool) (bit : Bool) (k : Int) : Int × Int := if k < 0 then (0, 3) else match placeB l bit k.toNat with | some i => ((i : Int), 0) | none => (0, 3)
theorem fano_Check_yes (l : List Bool) (hl : l.length ≤ 3000) (K : Bool → Option R) :
    fano_Check (l.length : Int) ((FM l : Nat) : Int) ((FL l).length : Int) ((FV l : Nat) : Int) (((FL l).length * FV l : Nat) : Int) (ci (wds (catI (FV l) (FL l)))) ((FH l).length : Int) (ci (wds (FH l))) K = K true := by
  rw [fano_Check_unf]; unfold fano_Check_B
  rw [fano_row_yes l hl]
theorem fano_Bits_yes (l : List Bool) (hl : l.length ≤ 3000) (K : Int → List Int → Option R) :
    fano_Bits (l.length : Int) ((FM l : Nat) : Int) ((FL l).length : Int) ((FV l : Nat) : Int) (((FL l).length * FV l : Nat) : Int) (ci (wds (catI (FV l) (FL l)))) ((FH l).length : Int) (ci (wds (FH l))) K = K (l.length : Int) (ci (wds l)) := by
  rw [fano_Bits_unf]; unfold fano_Bits_B
  rw [fano_row_yes l hl]
theorem fano_Size_yes (l : List Bool) (hl : l.length ≤ 3000) (K : Int → Option R) :
    fano_Size (l.length : Int) ((FM l : Nat) : Int) ((FL l).length : Int) ((FV l : Nat) : Int) (((FL l).length * FV l : Nat) : Int) (ci (wds (catI (FV l) (FL l)))) ((FH l).length : Int) (ci (wds (FH l))) K = K (((FL l).length * FV l + (FH l).length + 64 : Nat) : Int) := by
  have h1 := low_small (low := FL l) (FW_le hl) (Nat.le_trans (FM_le l) hl) (FL_length l)
  have h2 := FH_le hl
  rw [fano_Size_unf]; unfold fano_Size_B
  rw [fano_Check_yes l hl, Bool.not_true, Ev.sel_false]
  have h3 : (FL l).length * FV l ≤ 33000 := h1
  have hz := Int.natCast_nonneg ((FL l).length * FV l)
  generalize (FL l).length * FV l = d at *
  have e : addW .i64 (d : Int) ((FH l).length : Int) = ((d + (FH l).length : Nat) : Int) := by rw [addW_i64 (by omega) (by omega)]; omega
  rw [e, addW_i64 (by omega) (by omega)]
  congr 1
theorem fano_Access_yes (l : List Bool) (hl : l.length ≤ 3000) (i : Int) (K : Bool → Int → Option R) :
    fano_Access (l.length : Int) ((FM l : Nat) : Int) ((FL l).length : Int) ((FV l : Nat) : Int) (((FL l).length * FV l : Nat) : Int) (ci (wds (catI (FV l) (FL l)))) ((FH l).length : Int) (ci (wds (FH l))) i K = K (accF l i).1 (accF l i).2 := by
  rw [fano_Access_unf]; unfold fano_Access_B accF
  rw [fano_Check_yes l hl, Bool.not_true, Ev.sel_false]
  by_cases h1 : i < 0
  · rw [sel_pos h1, if_pos (.inl h1)]
  by_cases h2 : (l.length : Int) ≤ i
  · rw [sel_neg h1, sel_pos h2, if_pos (.inr h2)]
  obtain ⟨i, rfl⟩ : ∃ b : Nat, i = (b : Int) := ⟨i.toNat, by omega⟩
  rw [sel_neg h1, sel_neg h2, if_neg (by omega), fano_Access_j6_unf]; unfold fano_Access_j6_B
  rw [addW_i64 (by omega) (by omega), show (i : Int) + 1 = ((i + 1 : Nat) : Int) by omega, fano_ones_spec l hl _ (by omega), fano_ones_spec l hl _ (by omega), Int.toNat_natCast]
  congr 1
  rw [Bool.eq_iff_iff, decide_eq_true_iff]
  simp only [cntOf]
  cases l.getD i false <;> simp <;> omega
theorem fano_Rank_yes (l : List Bool) (hl : l.length ≤ 3000) (bit : Bool) (i : Int) (K : Int → Int → Option R) :
    fano_Rank (l.length : Int) ((FM l : Nat) : Int) ((FL l).length : Int) ((FV l : Nat) : Int) (((FL l).length * FV l : Nat) : Int) (ci (wds (catI (FV l) (FL l)))) ((FH l).length : Int) (ci (wds (FH l))) bit i K = K (rnkF l bit i).1 (rnkF l bit i).2 := by
  rw [fano_Rank_unf]; unfold fano_Rank_B rnkF
  rw [fano_Check_yes l hl, Bool.not_true, Ev.sel_false]
  by_cases h1 : i < 0
  · rw [sel_pos h1, if_pos (.inl h1)]
  by_cases h2 : (l.length : Int) < i
  · rw [sel_neg h1, sel_pos h2, if_pos (.inr h2)]
  obtain ⟨i, rfl⟩ : ∃ b : Nat, i = (b : Int) := ⟨i.toNat, by omega⟩
  rw [sel_neg h1, sel_neg h2, if_neg (by omega), fano_Rank_j6_unf]; unfold fano_Rank_j6_B
  rw [fano_ones_spec l hl _ (by omega), Int.toNat_natCast]
  have h3 := cntOf_add l i
  cases bit with
  | true => rw [Bool.not_true, Ev.sel_false]
  | false =>
    rw [Bool.not_false, Ev.sel_true, subW_i64 (by omega) (by omega)]
    congr 1; omega
theorem sel_loop (l : List Bool) (hl : l.length ≤ 3000) (k q : Nat) (hq : IsAt l false k q) (K0 : Int → Option R) : ∀ (F lo hi : Nat), lo ≤ q → q ≤ hi → hi < l.length → hi - lo < F →
    fano_Select_l12_L K0 F (k : Int) (lo : Int) (hi : Int) (l.length : Int) ((FM l : Nat) : Int) ((FL l).length : Int) ((FV l : Nat) : Int) (((FL l).length * FV l : Nat) : Int) (ci (wds (catI (FV l) (FL l)))) ((FH l).length : Int) (ci (wds (FH l))) = K0 (q : Int)
  | 0, _, _, _, _, _, hF => by omega
  | F + 1, lo, hi, h1, h2, h3, hF => by
    simp only [fano_Select_l12_L, fano_Select_l12_T]
    by_cases h : lo < hi
    · have e : quoW .i64 (addW .i64 (lo : Int) (hi : Int)) 2 = (((lo + hi) / 2 : Nat) : Int) := by
        rw [addW_i64 (by omega) (by omega), quoW_nat (by omega) (by omega) (by omega)]; omega
      have hiff := isAt_lt_iff hq (i := (lo + hi) / 2 + 1)
      have hc := cntOf_add l ((lo + hi) / 2 + 1)
      rw [sel_pos (by omega), e, addW_i64 (by omega) (by omega), show (((lo + hi) / 2 : Nat) : Int) + 1 = (((lo + hi) / 2 + 1 : Nat) : Int) by omega, fano_ones_spec l hl _ (by omega), subW_i64 (by omega) (by omega)]
      by_cases h4 : cntOf l false ((lo + hi) / 2 + 1) ≤ k
      · rw [sel_pos (by omega)]
        exact sel_loop l hl k q hq K0 F _ _ (by have := fun h => (Nat.not_lt.2 h4) (hiff.1 h); omega) h2 h3 (by omega)
      · rw [sel_neg (by omega)]
        exact sel_loop l hl k q hq K0 F _ _ h1 (by have := hiff.2 (Nat.lt_of_not_le h4); omega) (by omega) (by omega)
    · rw [sel_neg (by omega)]
      congr 1; omega
theorem fano_Select_yes (l : List Bool) (hl : l.length ≤ 3000) (bit : Bool) (k : Int) (K : Int → Int → Option R) :
    fano_Select (l.length : Int) ((FM l : Nat) : Int) ((FL l).length : Int) ((FV l : Nat) : Int) (((FL l).length * FV l : Nat) : Int) (ci (wds (catI (FV l) (FL l)))) ((FH l).length : Int) (ci (wds (FH l))) bit k K = K (selF l bit k).1 (selF l bit k).2 := by
  have hm := FM_le l
  have hmt : FM l = cntOf l true l.length := pl_length l
  have hadd := cntOf_add l l.length
  have j5 : ∀ n : Nat, n = cntOf l bit l.length → fano_Select_j5 bit k (n : Int) (l.length : Int) ((FM l : Nat) : Int) ((FL l).length : Int) ((FV l : Nat) : Int) (((FL l).length * FV l : Nat) : Int) (ci (wds (catI (FV l) (FL l)))) ((FH l).length : Int) (ci (wds (FH l))) K = K (selF l bit k).1 (selF l bit k).2 := fun n hn => by
    rw [fano_Select_j5_unf]; unfold fano_Select_j5_B selF
    rw [fano_Check_yes l hl, Bool.not_true, Ev.sel_false]
    by_cases h1 : k < 0
    · rw [sel_pos h1, if_pos h1, fano_Select_j8_unf]; unfold fano_Select_j8_B
      rw [Ev.sel_true]
    · obtain ⟨k, rfl⟩ : ∃ b : Nat, k = (b : Int) := ⟨k.toNat, by omega⟩
      rw [sel_neg h1, if_neg h1, fano_Select_j8_unf, Int.toNat_natCast]; unfold fano_Select_j8_B
      by_cases h2 : n ≤ k
      · rw [sel_pos (by omega), placeB_none (by omega)]
      · obtain ⟨q, hq1, hq2⟩ := placeB_ex (l := l) (bit := bit) (k := k) (by omega)
        rw [sel_neg (by omega), hq1]
        try dsimp only
        cases bit with
        | true =>
          rw [Ev.sel_true, fano_place_spec l hl k (by omega), pl_get hq2]
        | false =>
          have := hq2.lt
          rw [Ev.sel_false, fano_Select_j11_unf]; unfold fano_Select_j11_B
          rw [fano_Select_l12_unf]; unfold fano_Select_l12_B
          rw [subW_i64 (by omega) (by omega), show (l.length : Int) - 1 = ((l.length - 1 : Nat) : Int) by omega]
          exact sel_loop l hl k q hq2 _ NR 0 (l.length - 1) (by omega) (by omega) (by omega) (by have := NR_lt; omega)
  rw [fano_Select_unf]; unfold fano_Select_B
  cases bit with
  | true =>
    rw [Bool.not_true, Ev.sel_false]
    exact j5 _ hmt
  | false =>
    rw [Bool.not_false, Ev.sel_true, subW_i64 (by omega) (by omega), show (l.length : Int) - ((FM l : Nat) : Int) = ((l.length - FM l : Nat) : Int) by omega]
    exact j5 _ (by omega)
/-! ### of one that may not be -/
section
variable {N M a b c : Int} {xs : List Nat} {h : Int} {hs : List Nat} (hN : N ≤ 3000) (hxs : Ws xs) (hxl : xs.length < 4000000000) (hhs : Ws hs) (hno : ∀ l : List Bool, l.length ≤ 3000 → ¬ IsF N M a b c xs h hs l)
include hN hxs hxl hhs hno
theorem fano_Check_no (K : Bool → Option R) : fano_Check N M a b c (ci xs) h (ci hs) K = K false := by
  rw [fano_Check_unf]; unfold fano_Check_B
  rw [fano_row_no N M a b c xs h hs hN hxs hxl hhs hno]
theorem fano_Bits_no (K : Int → List Int → Option R) : fano_Bits N M a b c (ci xs) h (ci hs) K = K 0 [] := by
  rw [fano_Bits_unf]; unfold fano_Bits_B
  rw [fano_row_no N M a b c xs h hs hN hxs hxl hhs hno]
theorem fano_Size_no (K : Int → Option R) : fano_Size N M a b c (ci xs) h (ci hs) K = K 0 := by
  rw [fano_Size_unf]; unfold fano_Size_B
  rw [fano_Check_no hN hxs hxl hhs hno, Bool.not_false, Ev.sel_true]
theorem fano_Access_no (i : Int) (K : Bool → Int → Option R) : fano_Access N M a b c (ci xs) h (ci hs) i K = K false 2 := by
  rw [fano_Access_unf]; unfold fano_Access_B
  rw [fano_Check_no hN hxs hxl hhs hno, Bool.not_false, Ev.sel_true]
theorem fano_Rank_no (bit : Bool) (i : Int) (K : Int → Int → Option R) : fano_Rank N M a b c (ci xs) h (ci hs) bit i K = K 0 2 := by
  rw [fano_Rank_unf]; unfold fano_Rank_B
  rw [fano_Check_no hN hxs hxl hhs hno, Bool.not_false, Ev.sel_true]
theorem fano_Select_no (bit : Bool) (i : Int) (K : Int → Int → Option R) : fano_Select N M a b c (ci xs) h (ci hs) bit i K = K 0 2 := by
  have j5 : ∀ n : Int, fano_Select_j5 bit i n N M a b c (ci xs) h (ci hs) K = K 0 2 := fun n => by
    rw [fano_Select_j5_unf]; unfold fano_Select_j5_B
    rw [fano_Check_no hN hxs hxl hhs hno, Bool.not_false, Ev.sel_true]
  rw [fano_Select_unf]; unfold fano_Select_B
  cases bit with
  | true => rw [Bool.not_true, Ev.sel_false]; exact j5 _
  | false => rw [Bool.not_false, Ev.sel_true]; exact j5 _
end
end
end Go.Proofs.YtdojekdcdoaccaaDoor
