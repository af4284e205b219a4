/- Layer 8: what one that may be tells. -/
import Derived.Test.YtofblchonjfdbaaGreatDoorRrrB
import Derived.Test.YtofblchonjfdbaaGreatDoorWordB
namespace Go.Proofs.YtofblchonjfdbaaGreatDoor
open Go Go.Ev
section
variable {R : Type}
theorem rrr_get_spec {l : List Bool} (hl : l.length ≤ 1048576) {a b c d : Int} {e : List Int} {f : Int} {g h j : List Int} (r : IsR l a b c d e f g h j) {i : Nat} (hi : i < NB l) (K : Int → Int → Option R) :
    rrr_get a b c d e f g h j (i : Int) ((offs l i).length : Int) K = K ((bw l i : Nat) : Int) ((wid15 (cls l i) : Nat) : Int) := by
  obtain ⟨rfl, rfl, rfl, rfl, rfl, rfl, rfl, rfl, rfl⟩ := r
  obtain ⟨w1, w2⟩ := IsR.ws hl
  have hn := NB_le hl
  have ho := offs_small hl (i := NB l) (Nat.le_refl _)
  have hm := offs_mono l (show i + 1 ≤ NB l from hi)
  have hlen : (offs l (i + 1)).length = (offs l i).length + wid15 (cls l i) := by simp [offs, lowB_length]
  have hc := cls_le l i
  have hw := wid15_le (cls l i)
  have hp : 2 ^ wid15 (cls l i) ≤ 2 ^ 13 := Nat.pow_le_pow_right (by decide) hw
  have hof := ofs_lt l i
  have how := ofs_wid l i
  have hok : okI ((NB l : Nat) : Int) 4 ((NB l * 4 : Nat) : Int) (wds (catI 4 (clsL l (NB l)))) = true := okI_of (a := NB l) (b := 4) (by rw [catI_length, clsL_length]) (by decide) (by decide) (by omega)
  have hg : getI ((NB l : Nat) : Int) 4 ((NB l * 4 : Nat) : Int) (wds (catI 4 (clsL l (NB l)))) (i : Int) = (((cls l i : Nat) : Int), 0) := by
    have e := catI_slice (w := 4) (us := clsL l (NB l)) (i := i) (by rw [clsL_length]; exact hi) (by rw [clsL_get l hi]; omega)
    rw [clsL_get l hi] at e
    unfold getI
    rw [if_pos hok, if_neg (by omega), Int.toNat_natCast, show (4 : Int).toNat = 4 from rfl, e]
  have e15 : chI 15 ((cls l i : Nat) : Int) = ch 15 (cls l i) := chI_nat' 15 _ (by decide)
  rw [rrr_get_unf]; unfold rrr_get_B
  rw [ints_Get_spec _ _ _ _ w1, hg]
  dsimp only
  rw [cvt_small hc, binom_Width_spec, widI_15, bits_Slice_spec _ _ w2 _ _ (by omega) (by omega), sliceS_wds _ (by omega) _ _ (by omega) (by omega), if_neg (by omega), Int.toNat_natCast, Int.toNat_natCast, offs_slice l hi]
  dsimp only
  rw [binom_Block_spec _ _ _ (by omega), e15, if_neg (by omega), show (15 : Int).toNat = 15 from rfl, Int.toNat_natCast, blk_of]
theorem off_next (l : List Bool) (hl : l.length ≤ 1048576) {i : Nat} (hi : i < NB l) : addW .i64 ((offs l i).length : Int) ((wid15 (cls l i) : Nat) : Int) = ((offs l (i + 1)).length : Int) := by
  have ho := offs_small hl (i := i + 1) hi
  have hlen : (offs l (i + 1)).length = (offs l i).length + wid15 (cls l i) := by simp [offs, lowB_length]
  rw [addW_i64 (by omega) (by omega)]; omega
theorem cnt_pop (l : List Bool) (hl : l.length ≤ 1048576) {i : Nat} (hi : i < NB l) : addW .i64 ((cntOf l true (15 * i) : Nat) : Int) ((pc (bw l i) 64 : Nat) : Int) = ((cntOf l true (15 * (i + 1)) : Nat) : Int) := by
  have h1 := bwB_pop l true i
  have h2 := cntOf_le l true (15 * i)
  have h3 := pc_le (bw l i) 64
  have hn := NB_lt.1 hi
  have e : bwB l true i = bw l i := rfl
  rw [e] at h1
  rw [addW_i64 (by omega) (by omega)]; omega
theorem walk_ones_loop {l : List Bool} (hl : l.length ≤ 1048576) {a b c d : Int} {e : List Int} {f : Int} {g h j : List Int} (r : IsR l a b c d e f g h j) (x : Nat) (hx : x ≤ l.length) (hx0 : 0 < x) (K0 K1 : Int → Int → Option R) : ∀ (F i : Nat) (out : Int), i ≤ (x - 1) / 15 → (x - 1) / 15 - i < F →
    rrr_walk_l5_L K0 K1 F ((cntOf l true (15 * i) : Nat) : Int) ((offs l i).length : Int) (i : Int) (x : Int) out a b c d e f g h j = K0 (x : Int) ((cntOf l true x : Nat) : Int)
  | 0, _, _, _, hF => by omega
  | F + 1, i, out, h1, hF => by
    have hi : i < NB l := NB_lt.2 (by omega)
    have hb := bw_lt l i
    have hc := cntOf_le l true (15 * i)
    have hn := NB_le hl
    have hrk : rankN (bw l i) ((x : Int) - ((15 * i : Nat) : Int)) ≤ 64 := Nat.le_trans (pc_le _ _) (Nat.min_le_right _ _)
    have eb : b = ((NB l : Nat) : Int) := r.b
    have em : mulW .i64 (i : Int) 15 = ((15 * i : Nat) : Int) := by rw [mulW_i64 (by omega) (by omega)]; omega
    have em2 : mulW .i64 (addW .i64 (i : Int) 1) 15 = ((15 * (i + 1) : Nat) : Int) := by rw [addW_i64 (by omega) (by omega), mulW_i64 (by omega) (by omega)]; omega
    simp only [rrr_walk_l5_L, rrr_walk_l5_T]
    rw [sel_pos (by omega), rrr_get_spec hl r hi, rrr_ones_1_r_unf]; unfold rrr_ones_1_r_B
    rw [em, em2, subW_i64 (by omega) (by omega), word_Rank_spec _ (by omega) _ (by omega) (by omega), addW_i64 (a := ((cntOf l true (15 * i) : Nat) : Int)) (b := ((rankN (bw l i) ((x : Int) - ((15 * i : Nat) : Int)) : Nat) : Int)) (by omega) (by omega)]
    by_cases h2 : 15 * (i + 1) < x
    · rw [decide_eq_true (by omega)]
      dsimp only
      rw [Bool.not_true, Ev.sel_false, word_Pop_spec _ (by omega), cnt_pop l hl hi, off_next l hl hi, addW_i64 (by omega) (by omega), show (i : Int) + 1 = ((i + 1 : Nat) : Int) by omega]
      exact walk_ones_loop hl r x hx hx0 K0 K1 F (i + 1) _ (by omega) (by omega)
    · have e1 : cntOf l true x = cntOf l true (15 * i) + rankN (bw l i) ((x : Int) - ((15 * i : Nat) : Int)) := by
        have := cnt_blk l i (x - 15 * i) (by omega)
        rw [show 15 * i + (x - 15 * i) = x by omega] at this
        unfold rankN
        rw [this, show ((x : Int) - ((15 * i : Nat) : Int)).toNat = x - 15 * i by omega, Nat.min_eq_left (by omega)]
      rw [decide_eq_false (by omega)]
      dsimp only
      rw [Bool.not_false, Ev.sel_true, e1]
      congr 1
theorem group_at {l : List Bool} (hl : l.length ≤ 1048576) {a b c d : Int} {e : List Int} {f : Int} {g h j : List Int} (r : IsR l a b c d e f g h j) {q : Nat} (hq : q < NB l) :
    quoW .i64 (q : Int) 8 = ((q / 8 : Nat) : Int) ∧ (q / 8 : Nat) < h.length ∧ (q / 8 : Nat) < j.length ∧ h.getD (q / 8) 0 = ((cntOf l true (15 * (8 * (q / 8))) : Nat) : Int) ∧ j.getD (q / 8) 0 = ((offs l (8 * (q / 8))).length : Int) ∧ mulW .i64 ((q / 8 : Nat) : Int) 8 = ((8 * (q / 8) : Nat) : Int) := by
  obtain ⟨_, _, _, _, _, _, _, rfl, rfl⟩ := r
  have hn := NB_le hl
  have hg : q / 8 < NG l := by unfold NG grp; omega
  refine ⟨by rw [quoW_nat (by omega) (by omega) (by omega)]; omega, by rw [onesL_length]; exact hg, by rw [ptsL_length]; exact hg, ?_, ptsL_get l hg, by rw [mulW_i64 (by omega) (by omega)]; omega⟩
  rw [onesL_get l hg, show 120 * (q / 8) = 15 * (8 * (q / 8)) by omega]
theorem rrr_ones_spec {l : List Bool} (hl : l.length ≤ 1048576) {a b c d : Int} {e : List Int} {f : Int} {g h j : List Int} (r : IsR l a b c d e f g h j) (x : Nat) (hx : x ≤ l.length) (K : Int → Option R) : rrr_ones a b c d e f g h j (x : Int) K = K ((cntOf l true x : Nat) : Int) := by
  rw [rrr_ones_unf]; unfold rrr_ones_B
  by_cases h0 : x = 0
  · subst h0; rw [sel_pos (by rfl)]; rfl
  have hq : (x - 1) / 15 < NB l := NB_lt.2 (by omega)
  obtain ⟨q1, q2, q3, q4, q5, q6⟩ := group_at hl r hq
  have e1 : quoW .i64 (subW .i64 (x : Int) 1) 15 = (((x - 1) / 15 : Nat) : Int) := by rw [subW_i64 (by omega) (by omega), quoW_nat (by omega) (by omega) (by omega)]; omega
  rw [sel_neg (by omega), e1, rrr_walk_r_unf]; unfold rrr_walk_r_B
  rw [q1, sel_pos (by omega), sel_pos (by omega), sel_pos (by omega), sel_pos (by omega), Int.toNat_natCast, q4, q5, q6, rrr_walk_l5_unf]; unfold rrr_walk_l5_B
  exact walk_ones_loop hl r x hx (by omega) _ _ NR _ _ (by omega) (by have := NR_lt; omega)
theorem rrr_ahead_spec {l : List Bool} (hl : l.length ≤ 1048576) {a b c d : Int} {e : List Int} {f : Int} {g h j : List Int} (r : IsR l a b c d e f g h j) (bit : Bool) (x : Nat) (hx : x ≤ l.length) (K : Int → Option R) : rrr_ahead a b c d e f g h j bit (x : Int) K = K ((cntOf l bit x : Nat) : Int) := by
  rw [rrr_ahead_unf]; unfold rrr_ahead_B
  cases bit with
  | true => rw [Ev.sel_true, rrr_ones_spec hl r x hx]
  | false =>
    have := cntOf_add l x
    rw [Ev.sel_false, rrr_ones_spec hl r x hx, subW_i64 (by omega) (by omega)]
    congr 1; omega
/-! ### answers -/
theorem rrr_Check_yes {l : List Bool} (hl : l.length ≤ 1048576) {a b c d : Int} {e : List Int} {f : Int} {g h j : List Int} (r : IsR l a b c d e f g h j) (K : Bool → Option R) : rrr_Check a b c d e f g h j K = K true := by
  rw [rrr_Check_unf]; unfold rrr_Check_B
  rw [rrr_whole_yes hl r]
theorem rrr_Bits_yes {l : List Bool} (hl : l.length ≤ 1048576) {a b c d : Int} {e : List Int} {f : Int} {g h j : List Int} (r : IsR l a b c d e f g h j) (K : Int → List Int → Option R) : rrr_Bits a b c d e f g h j K = K (l.length : Int) (ci (wds l)) := by
  rw [rrr_Bits_unf]; unfold rrr_Bits_B
  rw [rrr_whole_yes hl r]
/-- how many bits one of these needs -/
def sizR (l : List Bool) : Nat := NB l * 4 + (offs l (NB l)).length + 64 * NG l
theorem rrr_Size_yes {l : List Bool} (hl : l.length ≤ 1048576) {a b c d : Int} {e : List Int} {f : Int} {g h j : List Int} (r : IsR l a b c d e f g h j) (K : Int → Option R) : rrr_Size a b c d e f g h j K = K ((sizR l : Nat) : Int) := by
  rw [rrr_Size_unf]; unfold rrr_Size_B
  rw [rrr_Check_yes hl r, Bool.not_true, Ev.sel_false]
  obtain ⟨_, _, _, rfl, _, rfl, _, rfl, _⟩ := r
  have hn := NB_le hl
  have ho := offs_small hl (i := NB l) (Nat.le_refl _)
  have hg : NG l ≤ 1000000 := by unfold NG grp; omega
  have e1 : addW .i64 ((NB l * 4 : Nat) : Int) ((offs l (NB l)).length : Int) = ((NB l * 4 + (offs l (NB l)).length : Nat) : Int) := by rw [addW_i64 (by omega) (by omega)]; omega
  have e2 : mulW .i64 64 ((NG l : Nat) : Int) = ((64 * NG l : Nat) : Int) := by rw [mulW_i64 (by omega) (by omega)]; omega
  rw [onesL_length, e1, e2, addW_i64 (by omega) (by omega)]
  congr 1
theorem rrr_Access_yes {l : List Bool} (hl : l.length ≤ 1048576) {a b c d : Int} {e : List Int} {f : Int} {g h j : List Int} (r : IsR l a b c d e f g h j) (i : Int) (K : Bool → Int → Option R) : rrr_Access a b c d e f g h j i K = K (accB l i).1 (accB l i).2 := by
  rw [rrr_Access_unf]; unfold rrr_Access_B accB
  rw [rrr_Check_yes hl r, Bool.not_true, Ev.sel_false]
  have ea : a = (l.length : Int) := r.a
  by_cases h1 : i < 0
  · rw [sel_pos h1, if_pos (.inl h1)]
  by_cases h2 : (l.length : Int) ≤ i
  · rw [sel_neg h1, ea, sel_pos h2, if_pos (.inr h2)]
  obtain ⟨i, rfl⟩ : ∃ b : Nat, i = (b : Int) := ⟨i.toNat, by omega⟩
  rw [sel_neg h1, sel_neg (by omega), if_neg (by omega), rrr_Access_j6_unf]; unfold rrr_Access_j6_B
  rw [addW_i64 (by omega) (by omega), show (i : Int) + 1 = ((i + 1 : Nat) : Int) by omega, rrr_ones_spec hl r _ (by omega), rrr_ones_spec hl r _ (by omega), Int.toNat_natCast]
  have hs : cntOf l true (i + 1) = cntOf l true i + (l.getD i false == true).toNat := rfl
  rw [hs]
  congr 1
  cases l.getD i false
  · exact decide_eq_false (by simp)
  · exact decide_eq_true (by simp; omega)
theorem rrr_Rank_yes {l : List Bool} (hl : l.length ≤ 1048576) {a b c d : Int} {e : List Int} {f : Int} {g h j : List Int} (r : IsR l a b c d e f g h j) (bit : Bool) (i : Int) (K : Int → Int → Option R) : rrr_Rank a b c d e f g h j bit i K = K (rnkB l bit i).1 (rnkB l bit i).2 := by
  rw [rrr_Rank_unf]; unfold rrr_Rank_B rnkB
  rw [rrr_Check_yes hl r, Bool.not_true, Ev.sel_false]
  have ea : a = (l.length : Int) := r.a
  by_cases h1 : i < 0
  · rw [sel_pos h1, if_pos (.inl h1)]
  by_cases h2 : (l.length : Int) < i
  · rw [sel_neg h1, ea, sel_pos h2, if_pos (.inr h2)]
  obtain ⟨i, rfl⟩ : ∃ b : Nat, i = (b : Int) := ⟨i.toNat, by omega⟩
  rw [sel_neg h1, sel_neg (by omega), if_neg (by omega), rrr_Rank_j6_unf]; unfold rrr_Rank_j6_B
  rw [rrr_ahead_spec hl r bit i (by omega), Int.toNat_natCast]
theorem group_loop {l : List Bool} (hl : l.length ≤ 1048576) {a b c d : Int} {e : List Int} {f : Int} {g h j : List Int} (r : IsR l a b c d e f g h j) (bit : Bool) (k : Nat) (hk : k < 4000000000) (K0 : Int → Int → Int → Int → Int → List Int → Int → List Int → List Int → List Int → Bool → Int → Option R) : ∀ (F q : Nat), q < NG l → NG l - q < F → cntOf l bit (120 * q) ≤ k →
    ∃ q', q' < NG l ∧ cntOf l bit (120 * q') ≤ k ∧ rrr_Select_l7_L K0 F (q : Int) a b c d e f g h j bit (k : Int) = K0 (q' : Int) a b c d e f g h j bit (k : Int)
  | 0, _, _, hF, _ => by omega
  | F + 1, q, h1, hF, h2 => by
    have hn := NB_le hl
    have hng : NG l ≤ 10000 := by unfold NG grp; omega
    have eh : h.length = NG l := by rw [r.h, onesL_length]
    simp only [rrr_Select_l7_L, rrr_Select_l7_T]
    rw [addW_i64 (by omega) (by omega)]
    by_cases h3 : q + 1 < NG l
    · have h4 : 120 * (q + 1) ≤ l.length := by
        have h5 : 8 * (q + 1) < NB l := by unfold NG grp at h3; omega
        have := NB_lt.1 h5; omega
      have e1 : mulW .i64 (mulW .i64 ((q : Int) + 1) 8) 15 = ((120 * (q + 1) : Nat) : Int) := by
        rw [mulW_i64 (a := (q : Int) + 1) (by omega) (by omega), mulW_i64 (by omega) (by omega)]; omega
      rw [sel_pos (by omega), e1, rrr_ahead_spec hl r bit _ h4]
      by_cases h5 : cntOf l bit (120 * (q + 1)) ≤ k
      · rw [sel_pos (by omega), show (q : Int) + 1 = ((q + 1 : Nat) : Int) by omega]
        exact group_loop hl r bit k hk K0 F (q + 1) h3 (by omega) h5
      · rw [sel_neg (by omega)]
        exact ⟨q, h1, h2, rfl⟩
    · rw [sel_neg (by omega)]
      exact ⟨q, h1, h2, rfl⟩
theorem select_visit {l : List Bool} (hl : l.length ≤ 1048576) (bit : Bool) {i : Nat} (hi : i < NB l) (k : Nat) (hk : k < 4000000000) (out : Int) (K : Bool → Bool → Int → Int → Option R) :
    rrr_Select_1_r (i : Int) ((bw l i : Nat) : Int) ((cntOf l true (15 * i) : Nat) : Int) bit (k : Int) out K = K (decide (cntOf l bit (15 * (i + 1)) ≤ k)) bit (k : Int) (((15 * i + selN (bwB l bit i) ((k : Int) - ((cntOf l bit (15 * i) : Nat) : Int)) : Nat) : Int)) := by
  have hb := bwB_lt l bit i
  have hc := cntOf_le l bit (15 * i)
  have hn := NB_lt.1 hi
  have hp := bwB_pop l bit i
  have hp2 := pc_le (bwB l bit i) 64
  have hs := selN_le (bwB l bit i) ((k : Int) - ((cntOf l bit (15 * i) : Nat) : Int))
  have em : mulW .i64 (i : Int) 15 = ((15 * i : Nat) : Int) := by rw [mulW_i64 (by omega) (by omega)]; omega
  have j4 : rrr_Select_1_j4 (i : Int) ((bwB l bit i : Nat) : Int) ((cntOf l bit (15 * i) : Nat) : Int) bit (k : Int) out K = K (decide (cntOf l bit (15 * (i + 1)) ≤ k)) bit (k : Int) (((15 * i + selN (bwB l bit i) ((k : Int) - ((cntOf l bit (15 * i) : Nat) : Int)) : Nat) : Int)) := by
    rw [rrr_Select_1_j4_unf]; unfold rrr_Select_1_j4_B
    rw [subW_i64 (by omega) (by omega), word_Select_spec _ (by omega), word_Pop_spec _ (by omega), addW_i64 (by omega) (by omega), em, addW_i64 (by omega) (by omega)]
    have d1 : decide (((cntOf l bit (15 * i) : Nat) : Int) + ((pc (bwB l bit i) 64 : Nat) : Int) ≤ (k : Int)) = decide (cntOf l bit (15 * (i + 1)) ≤ k) := decide_eq_decide.2 (by omega)
    rw [d1, Int.natCast_add (15 * i)]
  rw [rrr_Select_1_r_unf]; unfold rrr_Select_1_r_B
  cases bit with
  | true => rw [Bool.not_true, Ev.sel_false]; exact j4
  | false =>
    have hw := bw_lt l i
    have h1 := cntOf_add l (15 * i)
    have e1 : andW .u64 (notW .u64 ((bw l i : Nat) : Int)) ((maskN 15 : Nat) : Int) = ((bwB l false i : Nat) : Int) := by
      have e2 : maskN 15 = 2 ^ 15 - 1 := by decide
      have e3 : bwB l false i = 32767 - bw l i := rfl
      rw [notW_u64 _ (by omega), andW_u64 _ _ (by omega) (maskN_lt _), e2, Nat.and_two_pow_sub_one_eq_mod, e3]; omega
    rw [Bool.not_false, Ev.sel_true, word_Mask_spec _ (by decide) (by decide), e1, em, subW_i64 (by omega) (by omega), show ((15 * i : Nat) : Int) - ((cntOf l true (15 * i) : Nat) : Int) = ((cntOf l false (15 * i) : Nat) : Int) by omega]
    exact j4
theorem walk_select_loop {l : List Bool} (hl : l.length ≤ 1048576) {a b c d : Int} {e : List Int} {f : Int} {g h j : List Int} (r : IsR l a b c d e f g h j) {bit : Bool} {k p : Nat} (hp : IsAt l bit k p) (K0 K1 : Bool → Int → Int → Option R) : ∀ (F i : Nat) (out : Int), i ≤ p / 15 → p / 15 - i < F →
    rrr_walk_l5_1_L K0 K1 F ((cntOf l true (15 * i) : Nat) : Int) ((offs l i).length : Int) (i : Int) bit (k : Int) out a b c d e f g h j = K0 bit (k : Int) (p : Int)
  | 0, _, _, _, hF => by omega
  | F + 1, i, out, h1, hF => by
    have hlt := hp.lt
    have hi : i < NB l := NB_lt.2 (by omega)
    have hk : k < 4000000000 := by have := hp.cnt; have := cntOf_le l bit p; omega
    have hb := bw_lt l i
    have hn := NB_le hl
    have eb : b = ((NB l : Nat) : Int) := r.b
    simp only [rrr_walk_l5_1_L, rrr_walk_l5_1_T]
    rw [sel_pos (by omega), rrr_get_spec hl r hi, select_visit hl bit hi k hk]
    by_cases h2 : i < p / 15
    · have h3 : cntOf l bit (15 * (i + 1)) ≤ k := by
        have := cntOf_mono l bit (show 15 * (i + 1) ≤ p by omega)
        rw [hp.cnt] at this; exact this
      rw [decide_eq_true h3, Bool.not_true, Ev.sel_false, word_Pop_spec _ (by omega), cnt_pop l hl hi, off_next l hl hi, addW_i64 (by omega) (by omega), show (i : Int) + 1 = ((i + 1 : Nat) : Int) by omega]
      exact walk_select_loop hl r hp K0 K1 F (i + 1) _ (by omega) (by omega)
    · have h3 : i = p / 15 := by omega
      subst h3
      obtain ⟨q1, q2, q3⟩ := bwB_sel hp
      rw [decide_eq_false (by omega), Bool.not_false, Ev.sel_true, show (k : Int) - ((cntOf l bit (15 * (p / 15)) : Nat) : Int) = ((k - cntOf l bit (15 * (p / 15)) : Nat) : Int) by omega, q1]
      congr 1; omega
theorem rrr_Select_yes {l : List Bool} (hl : l.length ≤ 1048576) {a b c d : Int} {e : List Int} {f : Int} {g h j : List Int} (r : IsR l a b c d e f g h j) (bit : Bool) (k : Int) (K : Int → Int → Option R) : rrr_Select a b c d e f g h j bit k K = K (selB l bit k).1 (selB l bit k).2 := by
  rw [rrr_Select_unf]; unfold rrr_Select_B selB
  rw [rrr_Check_yes hl r, Bool.not_true, Ev.sel_false]
  have ea : a = (l.length : Int) := r.a
  by_cases h1 : k < 0
  · rw [sel_pos h1, if_pos h1]
  have hc := cntOf_le l bit l.length
  obtain ⟨k, rfl⟩ : ∃ b : Nat, k = (b : Int) := ⟨k.toNat, by omega⟩
  rw [sel_neg h1, if_neg h1]
  have hah := rrr_ahead_spec hl r bit l.length (Nat.le_refl _) (fun vc => sel (decide (vc ≤ (k : Int))) (K 0 3) (rrr_Select_j6 a b c d e f g h j bit (k : Int) fun vd ve => K vd ve))
  rw [← ea] at hah
  refine hah.trans ?_
  by_cases h2 : cntOf l bit l.length ≤ k
  · rw [sel_pos (by omega), Int.toNat_natCast, placeB_none h2]
  obtain ⟨p, hp1, hp2⟩ := placeB_ex (l := l) (bit := bit) (k := k) (by omega)
  have hplt := hp2.lt
  rw [sel_neg (by omega), Int.toNat_natCast, hp1, rrr_Select_j6_unf]; unfold rrr_Select_j6_B
  rw [rrr_Select_l7_unf]; unfold rrr_Select_l7_B
  have hng : 0 < NG l := by unfold NG; omega
  have hn := NB_le hl
  have hng2 : NG l ≤ 10000 := by unfold NG grp; omega
  obtain ⟨q, g1, g2, g3⟩ := group_loop hl r bit k (by omega) (fun vb vc vd ve vf vg vh vi vj vk vl vm => rrr_walk_r_1 vc vd ve vf vg vh vi vj vk (mulW .i64 vb 8) vl vm 0 fun _ _ vp => K vp 0) NR 0 hng (by have := NR_lt; omega) (Nat.zero_le _)
  refine g3.trans ?_
  have hqp : 120 * q ≤ p := by
    rcases Nat.lt_or_ge p (120 * q) with h3 | h3
    · have := cntOf_lt l bit h3 hp2.is
      have := hp2.cnt
      omega
    · exact h3
  have hq8 : 8 * q < NB l := NB_lt.2 (by omega)
  obtain ⟨q1, q2, q3, q4, q5, q6⟩ := group_at hl r hq8
  rw [show 8 * q / 8 = q by omega] at q1 q2 q3 q4 q5 q6
  have em : mulW .i64 (q : Int) 8 = ((8 * q : Nat) : Int) := q6
  rw [em, rrr_walk_r_1_unf]; unfold rrr_walk_r_1_B
  rw [q1, sel_pos (by omega), sel_pos (by omega), sel_pos (by omega), sel_pos (by omega), Int.toNat_natCast, q4, q5, q6, rrr_walk_l5_1_unf]; unfold rrr_walk_l5_1_B
  exact walk_select_loop hl r hp2 _ _ NR _ _ (by omega) (by have := NR_lt; omega)
end
end Go.Proofs.YtofblchonjfdbaaGreatDoor
