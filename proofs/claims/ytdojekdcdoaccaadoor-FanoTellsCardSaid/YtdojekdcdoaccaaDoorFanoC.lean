/- Layer 9: Build. -/
import Derived.Test.YtdojekdcdoaccaaDoorFanoB
import Derived.Test.YtdojekdcdoaccaaDoorBitsF
namespace Go.Proofs.YtdojekdcdoaccaaDoor
open Go Go.Ev
section
variable {R : Type}
/-! ### what a row of bits comes to -/
def FM (l : List Bool) : Nat := (pl l).length
def FW (l : List Bool) : Nat := widF l.length (FM l)
def FV (l : List Bool) : Nat := max 1 (FW l)
def FL (l : List Bool) : List Nat := lowL (FW l) (pl l)
def FH (l : List Bool) : List Bool := highL (FW l) l.length (pl l)
theorem FM_le (l : List Bool) : FM l ≤ l.length := by unfold FM; rw [pl_length]; exact cntOf_le _ _ _
theorem FW_le {l : List Bool} (h : l.length ≤ 3000) : FW l ≤ 11 := by
  have h1 := FM_le l
  unfold FW widF
  split
  · omega
  · have : bitLen (l.length / FM l) ≤ 12 := bitLen_le (Nat.lt_of_le_of_lt (Nat.div_le_self _ _) (by omega))
    omega
theorem FL_length (l : List Bool) : (FL l).length ≤ FM l := by
  unfold FL FM; rw [lowL_length]; split <;> omega
theorem FL_lt (l : List Bool) : ∀ u ∈ FL l, u < 2 ^ FW l := lowL_lt _ _
theorem FH_length (l : List Bool) : (FH l).length = FM l + l.length / 2 ^ FW l + 1 := highL_length _ _ _
theorem FH_le {l : List Bool} (h : l.length ≤ 3000) : (FH l).length ≤ 6001 := by
  rw [FH_length]
  have := FM_le l
  have := Nat.div_le_self l.length (2 ^ FW l)
  omega
theorem ones_all (l : List Bool) (h : l.length ≤ 1048576) : onesS (l.length : Int) (wds l) (l.length : Int) = ((FM l : Nat) : Int) := by
  unfold onesS FM
  rw [if_pos (okRow_of l h), pl_length, cntOf_true, show (max 0 (min (l.length : Int) (l.length : Int))).toNat = l.length by omega]
theorem FH_ok {l : List Bool} (h : l.length ≤ 3000) : OkH (FW l) (FM l + l.length / 2 ^ FW l + 1) 0 (pl l) := by
  have h1 : (pl l).length ≤ 3000 := Nat.le_trans (FM_le l) h
  refine ⟨by omega, fun q hq => by have := pl_lt hq; omega, fun q hq => hq_in (fun p hp => Nat.le_of_lt (pl_lt hp)) q hq⟩
theorem Ws_wds {l : List Bool} (h : l.length ≤ 1048576) : Ws (wds l) := Ws.wds h
theorem max2_one (w : Nat) : max2 1 (w : Int) = ((max 1 w : Nat) : Int) := max2_nat 1 w
theorem low_fit {w : Nat} {low : List Nat} (h : ∀ u ∈ low, u < 2 ^ w) : widL low ≤ max 1 w :=
  (widL_le (by omega)).2 fun u hu => Nat.lt_of_lt_of_le (h u hu) (Nat.pow_le_pow_right (by decide) (by omega))
theorem low_small {w Bd : Nat} {low : List Nat} (hw : w ≤ 11) (hB : Bd ≤ 3000) (h : low.length ≤ Bd) : low.length * max 1 w ≤ 33000 := by
  calc low.length * max 1 w ≤ 3000 * 11 := Nat.mul_le_mul (by omega) (by omega)
    _ ≤ 33000 := by decide
theorem low_make {w Bd : Nat} {low : List Nat} (hw : w ≤ 11) (hB : Bd ≤ 3000) (hl : low.length ≤ Bd) (h : ∀ u ∈ low, u < 2 ^ w) :
    1 ≤ ((max 1 w : Nat) : Int) ∧ ((max 1 w : Nat) : Int) ≤ 64 ∧ (low.length : Int) * ((max 1 w : Nat) : Int) ≤ 1048576 ∧ (widL low : Int) ≤ ((max 1 w : Nat) : Int) := by
  have h1 := low_small hw hB hl
  have h2 := low_fit h
  rw [← Int.natCast_mul]
  omega
theorem low_u64 {w : Nat} {low : List Nat} (hw : w ≤ 11) (h : ∀ u ∈ low, u < 2 ^ w) : ∀ u ∈ low, u < 2 ^ 64 := fun u hu =>
  Nat.lt_of_lt_of_le (h u hu) (Nat.pow_le_pow_right (by decide) (by omega))
theorem build_bounds {l : List Bool} (h : l.length ≤ 3000) : shrW .i64 (l.length : Int) ((FW l : Nat) : Int) = ((l.length / 2 ^ FW l : Nat) : Int) ∧ addW .i64 (addW .i64 ((FM l : Nat) : Int) ((l.length / 2 ^ FW l : Nat) : Int)) 1 = ((FM l + l.length / 2 ^ FW l + 1 : Nat) : Int) ∧ FM l + l.length / 2 ^ FW l + 1 ≤ 6001 := by
  have h1 := FM_le l
  have h2 := Nat.div_le_self l.length (2 ^ FW l)
  have h3 := Int.natCast_nonneg (l.length / 2 ^ FW l)
  refine ⟨shrW_i64 _ _ (by omega), ?_, by omega⟩
  generalize l.length / 2 ^ FW l = d at *
  have h4 : addW .i64 ((FM l : Nat) : Int) (d : Int) = ((FM l + d : Nat) : Int) := by rw [addW_i64 (by omega) (by omega)]; omega
  rw [h4, addW_i64 (by omega) (by omega)]
  omega
theorem fano_Build_spec (l : List Bool) (hl : l.length ≤ 3000) (K : Int → Int → Int → Int → Int → List Int → Int → List Int → Int → Option R) :
    fano_Build (l.length : Int) (ci (wds l)) K = K (l.length : Int) ((FM l : Nat) : Int) ((FL l).length : Int) ((FV l : Nat) : Int) (((FL l).length * FV l : Nat) : Int) (ci (wds (catI (FV l) (FL l)))) ((FH l).length : Int) (ci (wds (FH l))) 0 := by
  obtain ⟨b1, b2, b3⟩ := build_bounds hl
  have hw := FW_le hl
  have hm := FM_le l
  have hFH := FH_length l
  have hfl := FL_length l
  have hlm := low_make hw (Nat.le_trans hm hl) hfl (FL_lt l)
  have hmk : makeI ((max 1 (FW l) : Nat) : Int) (FL l) = (((FL l).length : Int), ((max 1 (FW l) : Nat) : Int), (((FL l).length * max 1 (FW l) : Nat) : Int), wds (catI (max 1 (FW l)) (FL l)), 0) :=
    makeI_yes (by omega) (by omega) (by rw [← Int.natCast_mul] at hlm; omega) (by omega)
  rw [fano_Build_unf]; unfold fano_Build_B
  rw [bits_Check_spec _ _ (Ws_wds (by omega)), okRow_of l (by omega), Bool.not_true, Ev.sel_false, bits_Ones_spec _ _ (Ws_wds (by omega)), ones_all l (by omega), fano_width_spec _ _ (by omega) hm]
  show sel (decide (0 ≤ ((FW l : Nat) : Int))) _ _ = _
  rw [show widF l.length (FM l) = FW l from rfl, b1, b2]
  have hok := FH_ok hl
  generalize hLe : FM l + l.length / 2 ^ FW l + 1 = L at *
  have hfin : setA (hq (FW l) 0 (plw 0 (wds l))) (List.replicate L false) = FH l := by rw [plw_wds, ← hLe]; rfl
  have hfin2 : lowL (FW l) (plw 0 (wds l)) = FL l := by rw [plw_wds]; rfl
  have hws := fo_words (R := R) (wds l) (fun u hu => wds_lt hu) (by rw [wds_length]; omega) (FW l) L (by omega) (l.length : Int) (ci (wds l))
  rw [sel_pos (by omega), sel_pos (by omega), sel_pos (by omega), sel_pos (by omega), sel_pos (by omega), letV_eq, fano_eachOne_r_unf]; unfold fano_eachOne_r_B
  dsimp only
  rw [fano_eachOne_1_r_unf]; unfold fano_eachOne_1_r_B
  rw [fano_eachOne_1_l2_unf]; unfold fano_eachOne_1_l2_B
  rw [ci_length, Int.toNat_natCast]
  refine (show _ = _ from hws _ NR 0 0 (List.replicate L false) [] (by omega) (by rw [wds_length]; have := NR_lt; omega) (by simp) (by rw [List.drop_zero, plw_wds]; exact hok) (by simp)).trans ?_
  rw [List.drop_zero, hfin, hfin2, List.nil_append, ci_length, sel_pos rfl, sel_pos rfl, max2_one, ints_Make_spec _ _ (low_u64 hw (FL_lt l)) (by omega), hmk]
  try dsimp only
  rw [sel_pos (by omega), sel_pos (by omega), sel_pos (by omega), bits_From_spec _ (by omega)]
  try dsimp only
  rw [sel_npos rfl, fano_Build_j14_unf]; unfold fano_Build_j14_B
  rw [sel_npos rfl]
  rfl
theorem fano_Build_bad (n : Int) (ws : List Nat) (hw : Ws ws) (h : okRow n ws = false) (K : Int → Int → Int → Int → Int → List Int → Int → List Int → Int → Option R) :
    fano_Build n (ci ws) K = K 0 0 0 0 0 [] 0 [] 2 := by
  rw [fano_Build_unf]; unfold fano_Build_B
  rw [bits_Check_spec _ _ hw, h, Bool.not_false, Ev.sel_true]
end
end Go.Proofs.YtdojekdcdoaccaaDoor
