/- Layer 8: what Build builds. -/
import Derived.Test.YtofblchonjfdbaaGreatDoorW15
import Derived.Test.YtofblchonjfdbaaGreatDoorBinom
import Derived.Test.YtofblchonjfdbaaGreatDoorInts
import Derived.Test.YtofblchonjfdbaaGreatDoorBitsE
namespace Go.Proofs.YtofblchonjfdbaaGreatDoor
open Go Go.Ev
section
variable {R : Type}
theorem widI_15 (k : Nat) : widI 15 (k : Int) = wid15 k := by
  unfold widI wid15
  rw [show (15 : Int) = ((15 : Nat) : Int) from rfl, chI_nat' 15 k (by decide)]
  by_cases h : ch 15 k = 0
  · rw [if_pos h, h]; rfl
  · rw [if_neg h]
theorem bits_Slice_blk (l : List Bool) (hl : l.length ≤ 1048576) {i : Nat} (hi : i < NB l) (K : Int → Int → Option R) :
    bits_Slice (l.length : Int) (ci (wds l)) ((15 * i : Nat) : Int) (min2 15 (subW .i64 (l.length : Int) ((15 * i : Nat) : Int))) K = K ((bw l i : Nat) : Int) 0 := by
  have h := NB_lt.1 hi
  have e : min2 15 (subW .i64 (l.length : Int) ((15 * i : Nat) : Int)) = ((min 15 (l.length - 15 * i) : Nat) : Int) := by
    rw [subW_i64 (by omega) (by omega)]; unfold min2; split <;> omega
  rw [e, bits_Slice_spec _ _ (Ws.wds hl) _ _ (by omega) (by omega), sliceS_wds l hl _ _ (by omega) (by omega), if_neg (by omega), Int.toNat_natCast, Int.toNat_natCast, bw_short]
theorem rrr_blockOf_spec (l : List Bool) (i : Nat) (K : Int → Int → Option R) : rrr_blockOf ((bw l i : Nat) : Int) K = K ((cls l i : Nat) : Int) ((ofs l i : Nat) : Int) := by
  rw [rrr_blockOf_unf]; unfold rrr_blockOf_B
  rw [rrr_none_unf]; unfold rrr_none_B
  have := bw_lt l i
  exact binom_Offset_spec _ (by omega) 15 (by decide) _
theorem appendS_wds (l : List Bool) (x k : Nat) (hk : k ≤ 64) (h : l.length + k ≤ 1048576) : appendS (l.length : Int) (wds l) x (k : Int) = (((l ++ lowB x k).length : Int), wds (l ++ lowB x k), 0) := by
  unfold appendS
  rw [if_pos ⟨okRow_of l (by omega), by omega, by omega⟩, rowB_wds, Int.toNat_natCast, List.length_append, lowB_length]
  congr 1
theorem offs_small {l : List Bool} (hl : l.length ≤ 1048576) {i : Nat} (hi : i ≤ NB l) : (offs l i).length ≤ 1000000 := by
  have := offs_le l i
  have := NB_le hl
  omega
theorem build_block (l : List Bool) (hl : l.length ≤ 1048576) {i : Nat} (hi : i < NB l) (a b c d e f g h j : Int) (p q : Nat) (xs ys : List Int) (K0 : Nat → Int → Int → Int → Int → Int → Int → Int → Int → Int → Int → List Int → Nat → Nat → List Int → List Int → List Int → Option R) (K1 : Nat → Int → Int → Int → List Int → Int → Int → Int → Int → Int → Int → Int → Int → Int → Int → List Int → Nat → Nat → List Int → List Int → List Int → Option R) :
    rrr_Build_j12 i ((cntOf l true (15 * i) : Nat) : Int) ((15 * i : Nat) : Int) (l.length : Int) (ci (wds l)) a b c d e f g h j ((offs l i).length : Int) (ci (wds (offs l i))) p q xs ys (ci (clsL l i)) K0 K1 =
      K1 (i + 1) ((cntOf l true (15 * (i + 1)) : Nat) : Int) ((15 * i : Nat) : Int) (l.length : Int) (ci (wds l)) a b c d e f g h j ((offs l (i + 1)).length : Int) (ci (wds (offs l (i + 1)))) p q xs ys (ci (clsL l (i + 1))) := by
  have h1 := NB_lt.1 hi
  have hn := NB_le hl
  have hc := cls_le l i
  have hcl := cntOf_le l true (15 * i)
  have ho := ofs_wid l i
  have hw := wid15_le (cls l i)
  have hp : 2 ^ wid15 (cls l i) ≤ 2 ^ 13 := Nat.pow_le_pow_right (by decide) hw
  have hs := offs_small hl (i := i) (by omega)
  have hb := bw_lt l i
  have e1 : cvtW .u64 ((cls l i : Nat) : Int) = ((cls l i : Nat) : Int) := cvtW_u64 (by omega) (by omega)
  have e2 : ci (clsL l i) ++ [((cls l i : Nat) : Int)] = ci (clsL l (i + 1)) := by rw [clsL_succ, ← ci_append]; rfl
  have e3 : addW .i64 ((cntOf l true (15 * i) : Nat) : Int) ((cls l i : Nat) : Int) = ((cntOf l true (15 * (i + 1)) : Nat) : Int) := by rw [addW_i64 (by omega) (by omega), cnt_next]; omega
  rw [rrr_Build_j12_unf]; unfold rrr_Build_j12_B
  rw [sel_neg (by omega), bits_Slice_blk l hl hi, rrr_blockOf_spec, ci_length, clsL_length, sel_pos rfl, sel_pos (by omega), letV_eq, e1, e2, rrr_none_unf]; unfold rrr_none_B
  dsimp only
  by_cases hz : cls l i = 0
  · have hz2 := ofs_zero hz
    have e4 : offs l (i + 1) = offs l i := by simp [offs, hz, wid15_zero, lowB]
    rw [hz, hz2]
    rw [show (!(decide (((0 : Nat) : Int) = 0) && decide (((0 : Nat) : Int) = 0))) = false from rfl, Ev.sel_false, rrr_Build_j18_unf]; unfold rrr_Build_j18_B
    rw [← hz, e3, e4]
  · rw [show (!(decide (((cls l i : Nat) : Int) = 0) && decide (((ofs l i : Nat) : Int) = 0))) = true by rw [decide_eq_false (by omega)]; rfl, Ev.sel_true, binom_Width_spec, widI_15,
      bits_Append_spec _ _ (Ws.wds (by omega)) _ (by omega), appendS_wds _ _ _ (by omega) (by omega), rrr_Build_j18_unf]; unfold rrr_Build_j18_B
    rw [e3]; rfl
theorem build_loop (l : List Bool) (hl : l.length ≤ 1048576) (a b c d e f g h j : Int) (K0 : Nat → Int → Int → Int → Int → Int → Int → Int → Int → Int → Int → List Int → Nat → Nat → List Int → List Int → List Int → Option R) : ∀ (F i : Nat), i ≤ NB l → NB l - i < F → 0 < NB l →
    rrr_Build_l8_L K0 F i ((cntOf l true (15 * i) : Nat) : Int) ((15 * i : Nat) : Int) (l.length : Int) (ci (wds l)) a b c d e f g h j ((offs l i).length : Int) (ci (wds (offs l i))) (grp i) (grp i) (onesL l (grp i)) (ptsL l (grp i)) (ci (clsL l i)) =
      K0 (NB l) a b c d e f g h j ((offs l (NB l)).length : Int) (ci (wds (offs l (NB l)))) (grp (NB l)) (grp (NB l)) (onesL l (grp (NB l))) (ptsL l (grp (NB l))) (ci (clsL l (NB l)))
  | 0, _, _, h, _ => by omega
  | F + 1, i, h1, h2, h0 => by
    have hn := NB_le hl
    simp only [rrr_Build_l8_L, rrr_Build_l8_T]
    by_cases hi : i < NB l
    · have h3 := NB_lt.1 hi
      have ih := build_loop l hl a b c d e f g h j K0 F (i + 1) (by omega) (by omega) h0
      have er : remW ((15 * i : Nat) : Int) 120 = (((15 * i) % 120 : Nat) : Int) := remW_nat (15 * i) 120
      have e5 : addW .i64 ((15 * i : Nat) : Int) 15 = ((15 * (i + 1) : Nat) : Int) := by rw [addW_i64 (by omega) (by omega)]; omega
      have hg := grp_succ i
      have hgl : grp i ≤ i := by unfold grp; omega
      rw [sel_pos (by omega), rrr_Build_j10_unf]; unfold rrr_Build_j10_B
      rw [er]
      by_cases h8 : i % 8 = 0
      · have h9 := grp_at h8
        rw [if_pos h8] at hg
        have e6 : onesL l (grp i) ++ [((cntOf l true (15 * i) : Nat) : Int)] = onesL l (grp (i + 1)) := by rw [hg, onesL_succ, show 120 * grp i = 15 * i by omega]
        have e7 : ptsL l (grp i) ++ [((offs l i).length : Int)] = ptsL l (grp (i + 1)) := by rw [hg, ptsL_succ, h9]
        rw [sel_pos (by omega), onesL_length, sel_pos rfl, sel_pos (by omega), letV_eq, ptsL_length, sel_pos rfl, sel_pos (by omega), letV_eq, e6, e7, ← hg, build_block l hl hi, e5]
        exact ih
      · rw [if_neg h8] at hg
        replace hg : grp (i + 1) = grp i := hg
        rw [sel_neg (by omega), ← hg, build_block l hl hi, e5]
        exact ih
    · have h3 : i = NB l := by omega
      subst h3
      have h4 : ¬ 15 * NB l < l.length := fun h => hi (NB_lt.2 h)
      rw [sel_neg (by omega), sel_neg (by omega)]
theorem build_start (l : List Bool) (hl : l.length ≤ 1048576) (a b c d e f g h j : Int) (K0 : Nat → Int → Int → Int → Int → Int → Int → Int → Int → Int → Int → List Int → Nat → Nat → List Int → List Int → List Int → Option R) (h0 : 0 < NB l) :
    rrr_Build_l8_L K0 NR 0 0 0 (l.length : Int) (ci (wds l)) a b c d e f g h j 0 [] 0 0 [] [] [] =
      K0 (NB l) a b c d e f g h j ((offs l (NB l)).length : Int) (ci (wds (offs l (NB l)))) (grp (NB l)) (grp (NB l)) (onesL l (grp (NB l))) (ptsL l (grp (NB l))) (ci (clsL l (NB l))) := by
  have hn := NB_le hl
  have := build_loop l hl a b c d e f g h j K0 NR 0 (by omega) (by have := NR_lt; omega) h0
  have e1 : ci (wds (offs l 0)) = [] := by simp [offs, wds, ci]
  have e2 : onesL l (grp 0) = [] := by simp [grp, onesL]
  have e3 : ptsL l (grp 0) = [] := by simp [grp, ptsL]
  have e4 : ci (clsL l 0) = [] := by simp [clsL, ci]
  rw [e1, e2, e3, e4] at this
  exact this
/-- an Rrr of the bits l -/
structure IsR (l : List Bool) (a b c d : Int) (e : List Int) (f : Int) (g h j : List Int) : Prop where
  a : a = (l.length : Int)
  b : b = ((NB l : Nat) : Int)
  c : c = 4
  d : d = ((NB l * 4 : Nat) : Int)
  e : e = ci (wds (catI 4 (clsL l (NB l))))
  f : f = ((offs l (NB l)).length : Int)
  g : g = ci (wds (offs l (NB l)))
  h : h = onesL l (NG l)
  j : j = ptsL l (NG l)
theorem NG_zero {l : List Bool} (h : NB l = 0) : NG l = 1 := by unfold NG; rw [h]; rfl
theorem NG_pos {l : List Bool} (h : 0 < NB l) : NG l = grp (NB l) := by unfold NG grp; omega
theorem cls_fit (l : List Bool) (n : Nat) : widL (clsL l n) ≤ 4 := (widL_le (by decide)).2 fun u hu => by have := clsL_lt l n u hu; omega
theorem rrr_Build_bad (n : Int) (ws : List Nat) (hw : Ws ws) (h : okRow n ws = false) (K : Int → Int → Int → Int → List Int → Int → List Int → List Int → List Int → Int → Option R) : rrr_Build n (ci ws) K = K 0 0 0 0 [] 0 [] [] [] 2 := by
  rw [rrr_Build_unf]; unfold rrr_Build_B
  rw [bits_Check_spec n ws hw, h]; rfl
theorem rrr_Build_spec (l : List Bool) (hl : l.length ≤ 1048576) (K : Int → Int → Int → Int → List Int → Int → List Int → List Int → List Int → Int → Option R) :
    rrr_Build (l.length : Int) (ci (wds l)) K = K (l.length : Int) ((NB l : Nat) : Int) 4 ((NB l * 4 : Nat) : Int) (ci (wds (catI 4 (clsL l (NB l))))) ((offs l (NB l)).length : Int) (ci (wds (offs l (NB l)))) (onesL l (NG l)) (ptsL l (NG l)) 0 := by
  have hn := NB_le hl
  have hmk : makeI 4 (clsL l (NB l)) = (((NB l : Nat) : Int), 4, ((NB l * 4 : Nat) : Int), wds (catI 4 (clsL l (NB l))), 0) := by
    have := makeI_yes (w := 4) (us := clsL l (NB l)) (by decide) (by decide) (by rw [clsL_length]; omega) (cls_fit l _)
    rw [clsL_length] at this; exact this
  have hu : ∀ u ∈ clsL l (NB l), u < 2 ^ 64 := fun u h => by have := clsL_lt l _ u h; omega
  rw [rrr_Build_unf]; unfold rrr_Build_B
  rw [bits_Check_spec _ _ (Ws.wds hl), okRow_of l hl, Bool.not_true, Ev.sel_false, rrr_Build_j5_unf]; unfold rrr_Build_j5_B
  rw [rrr_Build_l8_unf]; unfold rrr_Build_l8_B
  by_cases h0 : NB l = 0
  · have hz : l = [] := by unfold NB at h0; exact List.eq_nil_of_length_eq_zero (by omega)
    subst hz
    obtain ⟨m, hm⟩ : ∃ m, NR = m + 1 := ⟨NR - 1, by have := NR_lt; omega⟩
    have hr : remW 0 120 = 0 := remW_nat 0 120
    have h00 : (([] : List Bool).length : Int) = 0 := rfl
    rw [hm]
    simp only [rrr_Build_l8_L, rrr_Build_l8_T]
    rw [h00, sel_neg (by omega), sel_pos trivial, rrr_Build_j10_unf]; unfold rrr_Build_j10_B
    rw [hr, sel_pos (by rfl), sel_pos (by rfl), sel_pos (by decide), letV_eq, sel_pos (by rfl), sel_pos (by decide), letV_eq, rrr_Build_j12_unf]; unfold rrr_Build_j12_B
    rw [sel_pos (by rfl)]
    dsimp only
    rw [sel_pos (by rfl), sel_pos (by rfl), show ([] : List Int) = ci (clsL [] (NB [])) from rfl, ints_Make_spec _ _ hu (by rw [clsL_length]; omega), hmk]
    dsimp only
    rw [sel_pos (by rfl), sel_pos (by rfl)]
    rfl
  · have hp : 0 < NB l := by omega
    refine (build_start l hl _ _ _ _ _ _ _ _ _ _ hp).trans ?_
    rw [ci_length, clsL_length, sel_pos rfl, sel_pos rfl, ints_Make_spec _ _ hu (by rw [clsL_length]; omega), hmk]
    dsimp only
    rw [onesL_length, ptsL_length, sel_pos rfl, sel_pos rfl, NG_pos hp]
end
end Go.Proofs.YtofblchonjfdbaaGreatDoor
