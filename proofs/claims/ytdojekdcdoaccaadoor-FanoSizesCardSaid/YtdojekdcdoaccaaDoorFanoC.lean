/- Layer 9: Build. -/
import Derived.Test.YtdojekdcdoaccaaDoorFanoB
namespace Go.Proofs.YtdojekdcdoaccaaDoor
open Go Go.Ev
section
variable {R : Type}
/-! ### what a row of bits comes to -/
def FM (l : List Bool) : Nat := (pl l).length
def FW (l : List Bool) : Nat := widF l.length (FM l)
def FV (l : List Bool) : Nat := max 1 (FW l)
def FL (l : List Bool) : List Nat := lowL (FW l) (pl l)
def FH (l : List Bool) : List Bool := highL (FW l) l.length (pl l)
theorem FM_le (l : List Bool) : FM l ≤ l.length := by unfold FM; rw [pl_length]; exact cntOf_le _ _ _
theorem FW_le {l : List Bool} (h : l.length ≤ 3000) : FW l ≤ 11 := by
  have h1 := FM_le l
  unfold FW widF
  split
  · omega
  · have : bitLen (l.length / FM l) ≤ 12 := bitLen_le (Nat.lt_of_le_of_lt (Nat.div_le_self _ _) (by omega))
    omega
theorem FL_length (l : List Bool) : (FL l).length ≤ FM l := by
  unfold FL FM; rw [lowL_length]; split <;> omega
theorem FL_lt (l : List Bool) : ∀ u ∈ FL l, u < 2 ^ FW l := lowL_lt _ _
theorem FH_length (l : List Bool) : (FH l).length = FM l + l.length / 2 ^ FW l + 1 := highL_length _ _ _
theorem FH_le {l : List Bool} (h : l.length ≤ 3000) : (FH l).length ≤ 6001 := by
  rw [FH_length]
  have := FM_le l
  have := Nat.div_le_self l.length (2 ^ FW l)
  omega
theorem ones_all (l : List Bool) (h : l.length ≤ 1048576) : onesS (l.length : Int) (wds l) (l.length : Int) = ((FM l : Nat) : Int) := by
  unfold onesS FM
  rw [if_pos (okRow_of l h), pl_length, cntOf_true, show (max 0 (min (l.length : Int) (l.length : Int))).toNat = l.length by omega]
theorem FH_ok {l : List Bool} (h : l.length ≤ 3000) : OkH (FW l) (FM l + l.length / 2 ^ FW l + 1) 0 (pl l) := by
  have h1 : (pl l).length ≤ 3000 := Nat.le_trans (FM_le l) h
  refine ⟨by omega, fun q hq => by have := pl_lt hq; omega, fun q hq => hq_in (fun p hp => Nat.le_of_lt (pl_lt hp)) q hq⟩
theorem Ws_wds {l : List Bool} (h : l.length ≤ 1048576) : Ws (wds l) := Ws.wds h
theorem max2_one (w : Nat) : max2 1 (w : Int) = ((max 1 w : Nat) : Int) := max2_nat 1 w
theorem low_fit {w : Nat} {low : List Nat} (h : ∀ u ∈ low, u < 2 ^ w) : widL low ≤ max 1 w :=
  (widL_le (by omega)).2 fun u hu => Nat.lt_of_lt_of_le (h u hu) (Nat.pow_le_pow_right (by decide) (by omega))
theorem low_small {w Bd : Nat} {low : List Nat} (hw : w ≤ 11) (hB : Bd ≤ 3000) (h : low.length ≤ Bd) : low.length * max 1 w ≤ 33000 := by
  calc low.length * max 1 w ≤ 3000 * 11 := Nat.mul_le_mul (by omega) (by omega)
    _ ≤ 33000 := by decide
theorem low_make {w Bd : Nat} {low : List Nat} (hw : w ≤ 11) (hB : Bd ≤ 3000) (hl : low.length ≤ Bd) (h : ∀ u ∈ low, u < 2 ^ w) :
    1 ≤ ((max 1 w : Nat) : Int) ∧ ((max 1 w : Nat) : Int) ≤ 64 ∧ (low.length : Int) * ((max 1 w : Nat) : Int) ≤ 1048576 ∧ (widL low : Int) ≤ ((max 1 w : Nat) : Int) := by
  have h1 := low_small hw hB hl
  have h2 := low_fit h
  rw [← Int.natCast_mul]
  omega
theorem low_u64 {w : Nat} {low : List Nat} (hw : w ≤ 11) (h : ∀ u ∈ low, u < 2 ^ w) : ∀ u ∈ low, u < 2 ^ 64 := fun u hu =>
  Nat.lt_of_lt_of_le (h u hu) (Nat.pow_le_pow_right (by decide) (by omega))
theorem build_bounds {l : List Bool} (h : l.length ≤ 3000) : shrW .i64 (l.length : Int) ((FW l : Nat) : Int) = ((l.length / 2 ^ FW l : Nat) : Int) ∧ addW .i64 (addW .i64 ((FM l : Nat) : Int) ((l.length / 2 ^ FW l : Nat) : Int)) 1 = ((FM l + l.length / 2 ^ FW l + 1 : Nat) : Int) ∧ FM l + l.length / 2 ^ FW l + 1 ≤ 6001 := by
  have h1 := FM_le l
  have h2 := Nat.div_le_self l.length (2 ^ FW l)
  have h3 := Int.natCast_nonneg (l.length / 2 ^ FW l)
  refine ⟨shrW_i64 _ _ (by omega), ?_, by omega⟩
  generalize l.length / 2 ^ FW l = d at *
  have h4 : addW .i64 ((FM l : Nat) : Int) (d : Int) = ((FM l + d : Nat) : Int) := by rw [addW_i64 (by omega) (by omega)]; omega
  rw [h4, addW_i64 (by omega) (by omega)]
  omega
theorem fano_Build_spec (l : List Bool) (hl : l.length ≤ 3000) (K : Int → Int → Int → Int → Int → List Int → Int → List Int → Int → Option R) :
    fano_Build (l.length : Int) (ci (wds l)) K = K (l.length : Int) ((FM l : Nat) : Int) ((FL l).length : Int) ((FV l : Nat) : Int) (((FL l).length * FV l : Nat) : Int) (ci (wds (catI (FV l) (FL l)))) ((FH l).length : Int) (ci (wds (FH l))) 0 := by
  obtain ⟨b1, b2, b3⟩ := build_bounds hl
  have hw := FW_le hl
  have hm := FM_le l
  rw [fano_Build_unf]; unfold fano_Build_B
  rw [bits_Check_spec _ _ (Ws_wds (by omega)), okRow_of l (by omega), Bool.not_true, Ev.sel_false, bits_Ones_spec _ _ (Ws_wds (by omega)), ones_all l (by omega), fano_width_spec _ _ (by omega) hm]
  show sel (decide (0 ≤ ((FW l : Nat) : Int))) _ _ = _
  rw [show widF l.length (FM l) = FW l from rfl, b1, b2]
  generalize hLe : FM l + l.length / 2 ^ FW l + 1 = L at *
  rw [sel_pos (by omega), sel_pos (by omega), sel_pos (by omega), sel_pos (by omega), sel_pos (by omega), letV_eq, fano_eachOne_r_1_unf]; unfold fano_eachOne_r_1_B
  try dsimp only
  rw [fano_eachOne_1_r_2_unf]; unfold fano_eachOne_1_r_2_B
  rw [fano_eachOne_1_l2_3_unf]; unfold fano_eachOne_1_l2_3_B
  rw [ci_length, Int.toNat_natCast]
  refine (fz_wordsA (wds l) (fun u hu => wds_lt hu) (by rw [wds_length]; omega) (FW l) L (FM l) (by omega) (by omega) (l.length : Int) (ci (wds l)) _ _ _ _
    (fun bs low => K (l.length : Int) ((FM l : Nat) : Int) (low.length : Int) ((FV l : Nat) : Int) ((low.length * FV l : Nat) : Int) (ci (wds (catI (FV l) low))) (bs.length : Int) (ci (wds bs)) 0)
    (fun i bs low hbl hll hlu => ?_) (fun i bs hbl => ?_) NR 0 0 (List.replicate L false) (by omega) (by rw [wds_length]; have := NR_lt; omega) (by simp) ?_ ?_).trans ?_
  · try dsimp only
    rw [max2_one, ints_Make_r_spec _ _ (low_u64 hw hlu) (by omega) _ rfl, if_pos (low_make hw (by omega) hll hlu), bits_From_r_spec bs (by omega) L hbl.symm, if_neg (by omega), sel_npos rfl, fano_Build_j14_7_unf]; unfold fano_Build_j14_7_B
    rw [sel_npos rfl]
    try dsimp only
    rw [sel_pos (by rw [ci_length, wds_length]), ← Int.natCast_mul]
    rfl
  · have e : makeI ((max 1 (FW l) : Nat) : Int) [] = (0, ((max 1 (FW l) : Nat) : Int), 0, [], 0) := by
      rw [makeI_yes (by omega) (by omega) (by simp) (low_fit (w := FW l) (by simp))]
      simp [catI, wds]
    try dsimp only
    rw [max2_one, show ([] : List Int) = ci [] from rfl, ints_Make_spec _ _ (by simp) (by simp), e]
    try dsimp only
    rw [bits_From_r_spec bs (by omega) L hbl.symm, if_neg (by omega), sel_npos rfl, fano_Build_j14_7_unf]; unfold fano_Build_j14_7_B
    rw [sel_npos rfl]
    try dsimp only
    rw [sel_pos (by rw [ci_length, wds_length])]
    have e2 : wds (catI (FV l) []) = [] := by simp [catI, wds]
    rw [e2, List.length_nil, Nat.zero_mul]
    rfl
  · rw [List.drop_zero, plw_wds, ← hLe]; exact FH_ok hl
  · rw [List.drop_zero, plw_wds]; exact Nat.le_refl _
  · rw [List.drop_zero, plw_wds, ← hLe]
    rfl
theorem fano_Build_bad (n : Int) (ws : List Nat) (hw : Ws ws) (h : okRow n ws = false) (K : Int → Int → Int → Int → Int → List Int → Int → List Int → Int → Option R) :
    fano_Build n (ci ws) K = K 0 0 0 0 0 [] 0 [] 2 := by
  rw [fano_Build_unf]; unfold fano_Build_B
  rw [bits_Check_spec _ _ hw, h, Bool.not_false, Ev.sel_true]
/-! ### Build of a row that is written -/
theorem last_live (ws : List Nat) (n : Nat) (h : ws.length = (n + 63) / 64) (hn : n ≤ 1048576) (hr : ¬ n % 64 = 0) :
    subW .i64 (ws.length : Int) 1 = ((ws.length - 1 : Nat) : Int) := by
  rw [subW_i64 (by omega) (by omega)]; omega
theorem bits_Check_r_spec (l : List Bool) (hl : l.length ≤ 1048576) (K : Bool → List Int → Option R) : bits_Check_r (l.length : Int) (wds l).length (ci (wds l)) K = K true (ci (wds l)) := by
  have h := okRow_of l hl
  unfold okRow at h
  obtain ⟨h1, h2⟩ := Bool.and_eq_true_iff.1 h
  have h1 := of_decide_eq_true h1
  rw [bits_Check_r_unf]; unfold bits_Check_r_B
  rw [sel_neg (by omega), sel_neg (by omega), bits_words_spec _ (by omega) (by omega), sel_npos (by omega), bits_Check_j4_unf]; unfold bits_Check_j4_B
  have hr : remW (l.length : Int) 64 = ((l.length % 64 : Nat) : Int) := rem64 _
  rw [hr]
  by_cases h0 : l.length % 64 = 0
  · rw [sel_pos (by omega)]
  · have hwl : (wds l).length = (l.length + 63) / 64 := wds_length l
    have h3 : (wds l).getD ((wds l).length - 1) 0 < 2 ^ (l.length % 64) := by
      rcases Bool.or_eq_true_iff.1 h2 with h2 | h2
      · have := of_decide_eq_true h2; rw [Int.toNat_natCast] at this; omega
      · have := of_decide_eq_true h2; rwa [Int.toNat_natCast] at this
    have hx := getD_lt (fun w hw => wds_lt (l := l) hw) ((wds l).length - 1)
    rw [sel_neg (by omega), last_live _ l.length hwl hl h0, sel_pos (by omega), sel_pos (by omega), Int.toNat_natCast, sel_pos (by rw [ci_length]; omega), word_Mask_spec _ (by omega) (by omega), ci_getD, andNotW_u64 _ _ hx (maskN_lt _), letV_eq]
    congr 1
    rw [decide_eq_true_iff]
    have := (last_ok ((wds l).getD ((wds l).length - 1) 0) (l.length % 64) (by omega)).2 h3
    omega
theorem bits_Ones_r_loop (ws : List Nat) (hw : ∀ w ∈ ws, w < 2 ^ 64) (q : Nat) (hq : q ≤ ws.length) (hq2 : q ≤ 16384) (a n : Int) (l : Nat) (K : Int → Int → List Int → Int → Nat → Option R) : ∀ (N j : Nat), j ≤ q → q - j < N →
    bits_Ones_l7_L K N a ((pcb ws (64 * j) : Nat) : Int) q (q : Int) (j : Int) (ci ws) n l = K a ((pcb ws (64 * q) : Nat) : Int) (ci ws) n l
  | 0, _, _, h => by omega
  | N + 1, j, hj, hN => by
    simp only [bits_Ones_l7_L, bits_Ones_l7_T]
    by_cases h : j < q
    · have h1 := pcb_le ws (64 * j)
      have h2 := pc_le (ws.getD j 0) 64
      have h3 := pcb_words ws j
      rw [sel_pos (by omega), sel_pos (by omega), sel_pos (by omega), Int.toNat_natCast, ci_length, sel_pos (by omega), ci_getD, word_Pop_spec _ (getD_lt hw j), addW_i64 (by omega) (by omega), addW_i64 (by omega) (by omega), ← Int.natCast_add, ← h3, show (j : Int) + 1 = ((j + 1 : Nat) : Int) by omega]
      exact bits_Ones_r_loop ws hw q hq hq2 a n l K N (j + 1) (by omega) (by omega)
    · have : j = q := by omega
      subst this
      rw [sel_neg (by omega)]
theorem bits_Ones_r_spec (l : List Bool) (hl : l.length ≤ 1048576) (K : Int → List Int → Option R) : bits_Ones_r (l.length : Int) (wds l).length (l.length : Int) (ci (wds l)) K = K ((FM l : Nat) : Int) (ci (wds l)) := by
  have hwl : (wds l).length = (l.length + 63) / 64 := wds_length l
  have hlt : ∀ w ∈ wds l, w < 2 ^ 64 := fun w hw => wds_lt hw
  have e : max2 0 (min2 (l.length : Int) (l.length : Int)) = (l.length : Int) := by
    have : min2 (l.length : Int) (l.length : Int) = (l.length : Int) := by unfold min2; split <;> rfl
    rw [this]; unfold max2; split <;> omega
  rw [bits_Ones_r_unf]; unfold bits_Ones_r_B
  rw [bits_Check_r_spec l hl, Bool.not_true, Ev.sel_false, e, quo64 _ (by omega), sel_pos (by omega), sel_pos (by omega), bits_Ones_l7_unf]; unfold bits_Ones_l7_B
  rw [show Int.toNat ((l.length / 64 : Nat) : Int) - Int.toNat 0 = l.length / 64 by omega]
  refine (bits_Ones_r_loop (wds l) hlt (l.length / 64) (by omega) (by omega) _ _ _ _ NR 0 (by omega) (by have := NR_lt; omega)).trans ?_
  have hr : remW (l.length : Int) 64 = ((l.length % 64 : Nat) : Int) := rem64 _
  have hpw := pcb_word (wds l) (l.length / 64) (l.length % 64) (by omega)
  rw [show 64 * (l.length / 64) + l.length % 64 = l.length by omega] at hpw
  have hfm : FM l = pcb (wds l) l.length := by unfold FM; rw [pl_length, cntOf_true]
  have hb := pcb_le (wds l) (64 * (l.length / 64))
  rw [hr]
  by_cases h0 : 0 < l.length % 64
  · rw [sel_pos (by omega), quo64 _ (by omega), sel_pos (by omega), sel_pos (by omega), Int.toNat_natCast, sel_pos (by rw [ci_length]; omega), ci_getD, word_Rank_spec _ (getD_lt hlt _) _ (by omega) (by omega)]
    have hrk : rankN ((wds l).getD (l.length / 64) 0) ((l.length % 64 : Nat) : Int) = pc ((wds l).getD (l.length / 64) 0) (l.length % 64) := by
      unfold rankN; congr 1; omega
    have hb2 := pc_le ((wds l).getD (l.length / 64) 0) (l.length % 64)
    rw [hrk, addW_i64 (by omega) (by omega)]
    congr 1; omega
  · rw [sel_neg (by omega)]
    have : l.length % 64 = 0 := by omega
    rw [this] at hpw
    simp only [pc] at hpw
    congr 1; omega
theorem fano_Build_r_spec (l : List Bool) (hl : l.length ≤ 3000)
    (K0 : Int → Int → Int → Int → Int → Int → Int → List Int → Option R) (K1 : Int → Int → Int → Int → Int → Int → Nat → Int → List Int → List Int → Option R) (K2 : Int → Int → Int → Int → Int → List Int → Int → Int → List Int → Option R) (K3 : Int → Int → Int → Int → Int → List Int → Int → Nat → Int → List Int → List Int → Option R) :
    fano_Build_r (l.length : Int) (wds l).length (ci (wds l)) K0 K1 K2 K3 = K3 (l.length : Int) ((FM l : Nat) : Int) ((FL l).length : Int) ((FV l : Nat) : Int) (((FL l).length * FV l : Nat) : Int) (ci (wds (catI (FV l) (FL l)))) ((FH l).length : Int) (wds (FH l)).length 0 (ci (wds l)) (ci (wds (FH l))) := by
  obtain ⟨b1, b2, b3⟩ := build_bounds hl
  have hw := FW_le hl
  have hm := FM_le l
  rw [fano_Build_r_unf]; unfold fano_Build_r_B
  rw [bits_Check_r_spec l (by omega), Bool.not_true, Ev.sel_false, bits_Ones_r_spec l (by omega), fano_width_spec _ _ (by omega) hm]
  show sel (decide (0 ≤ ((FW l : Nat) : Int))) _ _ = _
  rw [show widF l.length (FM l) = FW l from rfl, b1, b2]
  generalize hLe : FM l + l.length / 2 ^ FW l + 1 = L at *
  rw [sel_pos (by omega), sel_pos (by omega), sel_pos (by omega), sel_pos (by omega), sel_pos (by omega), letV_eq, fano_eachOne_r_unf]; unfold fano_eachOne_r_B
  try dsimp only
  rw [fano_eachOne_1_r_unf]; unfold fano_eachOne_1_r_B
  rw [fano_eachOne_1_l2_unf]; unfold fano_eachOne_1_l2_B
  rw [Int.toNat_natCast]
  refine (lv_wordsA (wds l) (fun u hu => wds_lt hu) (by rw [wds_length]; omega) (FW l) L (FM l) (by omega) (by omega) (l.length : Int) _ _ _ _
    (fun bs low => K3 (l.length : Int) ((FM l : Nat) : Int) (low.length : Int) ((FV l : Nat) : Int) ((low.length * FV l : Nat) : Int) (ci (wds (catI (FV l) low))) (bs.length : Int) (wds bs).length 0 (ci (wds l)) (ci (wds bs)))
    (fun i bs low hbl hll hlu => ?_) (fun i bs hbl => ?_) NR 0 0 (List.replicate L false) (by omega) (by rw [wds_length]; have := NR_lt; omega) (by simp) ?_ ?_).trans ?_
  · try dsimp only
    rw [max2_one, ints_Make_r_spec _ _ (low_u64 hw hlu) (by omega) _ rfl, if_pos (low_make hw (by omega) hll hlu), bits_From_r_spec bs (by omega) L hbl.symm, if_neg (by omega), sel_npos rfl, fano_Build_j14_3_unf]; unfold fano_Build_j14_3_B
    rw [sel_npos rfl, ← Int.natCast_mul, wds_length]
    rfl
  · have e : makeI ((max 1 (FW l) : Nat) : Int) [] = (0, ((max 1 (FW l) : Nat) : Int), 0, [], 0) := by
      rw [makeI_yes (by omega) (by omega) (by simp) (low_fit (w := FW l) (by simp))]
      simp [catI, wds]
    try dsimp only
    rw [max2_one, show ([] : List Int) = ci [] from rfl, ints_Make_spec _ _ (by simp) (by simp), e]
    try dsimp only
    rw [bits_From_r_spec bs (by omega) L hbl.symm, if_neg (by omega), sel_npos rfl, fano_Build_j14_3_unf]; unfold fano_Build_j14_3_B
    have e2 : wds (catI (FV l) []) = [] := by simp [catI, wds]
    rw [sel_npos rfl, e2, List.length_nil, Nat.zero_mul, wds_length]
    rfl
  · rw [List.drop_zero, plw_wds, ← hLe]; exact FH_ok hl
  · rw [List.drop_zero, plw_wds]; exact Nat.le_refl _
  · rw [List.drop_zero, plw_wds, ← hLe]
    rfl
end
end Go.Proofs.YtdojekdcdoaccaaDoor
