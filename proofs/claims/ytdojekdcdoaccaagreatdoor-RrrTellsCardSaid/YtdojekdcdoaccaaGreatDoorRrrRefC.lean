/- Layer 8, by the document: answers. -/
import Derived.Test.YtdojekdcdoaccaaGreatDoorRrrRefB
import Derived.Test.YtdojekdcdoaccaaGreatDoorRrrC
namespace Go.Proofs.YtdojekdcdoaccaaGreatDoor
open Go Go.Ev
section
variable {R : Type}
theorem bne_eq8 (a b : Bool) : (!(a == b)) = !decide (a = b) := by cases a <;> cases b <;> rfl
theorem ref8_Select_loop (l : List Bool) (hl : l.length ≤ 1048576) (bit : Bool) (k : Nat) (K0 : Int → Int → Option R) (K1 : Unit → Option R) : ∀ (f N i : Nat), i + f = l.length → f < N →
    haystackref08_Select_l7_L K0 K1 N bit (k : Int) ((cntOf l bit i : Nat) : Int) (i : Int) (l.length : Int) (ci (wds l)) = match seekB l bit k i f with | some q => K0 (q : Int) 0 | none => K1 ()
  | _, 0, _, _, h => by omega
  | 0, N + 1, i, h1, _ => by
    simp only [haystackref08_Select_l7_L, haystackref08_Select_l7_T]
    rw [sel_neg (by omega)]; rfl
  | f + 1, N + 1, i, h1, h2 => by
    simp only [haystackref08_Select_l7_L, haystackref08_Select_l7_T]
    have hc : cntOf l bit (i + 1) = cntOf l bit i + (l.getD i false == bit).toNat := rfl
    have hle := cntOf_le l bit i
    have ih := ref8_Select_loop l hl bit k K0 K1 f N (i + 1) (by omega) (by omega)
    rw [sel_pos (by omega), haystackref02_At_spec _ _ (fun w hw => wds_lt hw) i (by rw [wds_length]; omega) (by omega), bitAt_wds, bne_eq8, addW_i64 (a := (i : Int)) (by omega) (by omega), show (i : Int) + 1 = ((i + 1 : Nat) : Int) by omega]
    unfold seekB
    by_cases hb : l.getD i false = bit
    · have hb2 : (l.getD i false == bit) = true := by rw [hb]; exact beq_self_eq_true _
      rw [hb2] at hc
      rw [sel_npos hb]
      by_cases hk : cntOf l bit i = k
      · rw [sel_pos (by omega), if_pos ⟨hb, hk⟩]
      · rw [sel_neg (by omega), if_neg (fun h => hk h.2), addW_i64 (by omega) (by omega), show ((cntOf l bit i : Nat) : Int) + 1 = ((cntOf l bit (i + 1) : Nat) : Int) by rw [hc]; rfl]
        exact ih
    · have hb2 : (l.getD i false == bit) = false := by
        cases h : (l.getD i false == bit) with
        | false => rfl
        | true => exact absurd (eq_of_beq h) hb
      rw [hb2] at hc
      rw [sel_nneg hb, if_neg (fun h => hb h.1), show cntOf l bit i = cntOf l bit (i + 1) by rw [hc]; rfl]
      exact ih
theorem ref8_Select_neg (l : List Bool) (hl : l.length ≤ 1048576) (bit : Bool) (k : Int) (hk : k < 0) (K0 : Int → Int → Option R) (K1 : Unit → Option R) : ∀ (f N i : Nat), i + f = l.length → f < N →
    haystackref08_Select_l7_L K0 K1 N bit k ((cntOf l bit i : Nat) : Int) (i : Int) (l.length : Int) (ci (wds l)) = K1 ()
  | _, 0, _, _, h => by omega
  | 0, N + 1, i, h1, _ => by
    simp only [haystackref08_Select_l7_L, haystackref08_Select_l7_T]
    rw [sel_neg (by omega)]
  | f + 1, N + 1, i, h1, h2 => by
    simp only [haystackref08_Select_l7_L, haystackref08_Select_l7_T]
    have hc : cntOf l bit (i + 1) = cntOf l bit i + (l.getD i false == bit).toNat := rfl
    have hle := cntOf_le l bit i
    have ih := ref8_Select_neg l hl bit k hk K0 K1 f N (i + 1) (by omega) (by omega)
    rw [sel_pos (by omega), haystackref02_At_spec _ _ (fun w hw => wds_lt hw) i (by rw [wds_length]; omega) (by omega), bitAt_wds, bne_eq8, addW_i64 (a := (i : Int)) (by omega) (by omega), show (i : Int) + 1 = ((i + 1 : Nat) : Int) by omega]
    by_cases hb : l.getD i false = bit
    · have hb2 : (l.getD i false == bit) = true := by rw [hb]; exact beq_self_eq_true _
      rw [hb2] at hc
      rw [sel_npos hb, sel_neg (by omega), addW_i64 (by omega) (by omega), show ((cntOf l bit i : Nat) : Int) + 1 = ((cntOf l bit (i + 1) : Nat) : Int) by rw [hc]; rfl]
      exact ih
    · have hb2 : (l.getD i false == bit) = false := by
        cases h : (l.getD i false == bit) with
        | false => rfl
        | true => exact absurd (eq_of_beq h) hb
      rw [hb2] at hc
      rw [sel_nneg hb, show cntOf l bit i = cntOf l bit (i + 1) by rw [hc]; rfl]
      exact ih
/-- one that may not be -/
structure NotR (a b c d : Int) (ws : List Nat) (f : Int) (vs : List Nat) (h j : List Int) : Prop where
  w : Ws ws
  v : Ws vs
  s1 : ws.length < 4000000000
  s2 : vs.length < 4000000000
  s3 : h.length < 4000000000
  s4 : j.length < 4000000000
  no : ∀ l : List Bool, l.length ≤ 1048576 → ¬ IsR l a b c d (ci ws) f (ci vs) h j
theorem ref8_Whole_no {a b c d : Int} {ws : List Nat} {f : Int} {vs : List Nat} {h j : List Int} (n : NotR a b c d ws f vs h j) (K : Int → List Int → Bool → Option R) : haystackref08_Whole a b c d (ci ws) f (ci vs) h j K = K 0 [] false := haystackref08_Whole_no n.w n.v n.s1 n.s2 n.s3 n.s4 n.no K
theorem rrr_no {a b c d : Int} {ws : List Nat} {f : Int} {vs : List Nat} {h j : List Int} (n : NotR a b c d ws f vs h j) (K : Int → List Int → Bool → Option R) : rrr_whole a b c d (ci ws) f (ci vs) h j K = K 0 [] false := rrr_whole_no n.w n.v n.s1 n.s2 n.s3 n.s4 n.no K
theorem ref8_Check_yes {l : List Bool} (hl : l.length ≤ 1048576) {a b c d : Int} {e : List Int} {f : Int} {g h j : List Int} (r : IsR l a b c d e f g h j) (K : Bool → Option R) : haystackref08_Check a b c d e f g h j K = K true := by
  rw [haystackref08_Check_unf]; unfold haystackref08_Check_B
  rw [haystackref08_Whole_yes hl r]
theorem ref8_Bits_yes {l : List Bool} (hl : l.length ≤ 1048576) {a b c d : Int} {e : List Int} {f : Int} {g h j : List Int} (r : IsR l a b c d e f g h j) (K : Int → List Int → Option R) : haystackref08_Bits a b c d e f g h j K = K (l.length : Int) (ci (wds l)) := by
  rw [haystackref08_Bits_unf]; unfold haystackref08_Bits_B
  rw [haystackref08_Whole_yes hl r]
theorem ref8_Size_yes {l : List Bool} (hl : l.length ≤ 1048576) {a b c d : Int} {e : List Int} {f : Int} {g h j : List Int} (r : IsR l a b c d e f g h j) (K : Int → Option R) : haystackref08_Size a b c d e f g h j K = K ((sizR l : Nat) : Int) := by
  rw [haystackref08_Size_unf]; unfold haystackref08_Size_B
  rw [ref8_Check_yes hl r, Bool.not_true, Ev.sel_false]
  obtain ⟨_, _, _, rfl, _, rfl, _, rfl, _⟩ := r
  have hn := NB_le hl
  have ho := offs_small hl (i := NB l) (Nat.le_refl _)
  have hg : NG l ≤ 1000000 := by unfold NG grp; omega
  have e1 : addW .i64 ((NB l * 4 : Nat) : Int) ((offs l (NB l)).length : Int) = ((NB l * 4 + (offs l (NB l)).length : Nat) : Int) := by rw [addW_i64 (by omega) (by omega)]; omega
  have e2 : mulW .i64 64 ((NG l : Nat) : Int) = ((64 * NG l : Nat) : Int) := by rw [mulW_i64 (by omega) (by omega)]; omega
  rw [onesL_length, e1, e2, addW_i64 (by omega) (by omega)]
  congr 1
theorem ref8_Access_yes {l : List Bool} (hl : l.length ≤ 1048576) {a b c d : Int} {e : List Int} {f : Int} {g h j : List Int} (r : IsR l a b c d e f g h j) (i : Int) (K : Bool → Int → Option R) : haystackref08_Access a b c d e f g h j i K = K (accB l i).1 (accB l i).2 := by
  rw [haystackref08_Access_unf]; unfold haystackref08_Access_B accB
  rw [haystackref08_Whole_yes hl r, Bool.not_true, Ev.sel_false, haystackref02_Get_spec _ _ (Ws.wds hl), getS_wds l hl]
theorem ref8_Rank_yes {l : List Bool} (hl : l.length ≤ 1048576) {a b c d : Int} {e : List Int} {f : Int} {g h j : List Int} (r : IsR l a b c d e f g h j) (bit : Bool) (i : Int) (K : Int → Int → Option R) : haystackref08_Rank a b c d e f g h j bit i K = K (rnkB l bit i).1 (rnkB l bit i).2 := by
  rw [haystackref08_Rank_unf]; unfold haystackref08_Rank_B rnkB
  rw [haystackref08_Whole_yes hl r, Bool.not_true, Ev.sel_false]
  by_cases h1 : i < 0
  · rw [sel_pos h1, if_pos (.inl h1)]
  by_cases h2 : (l.length : Int) < i
  · rw [sel_neg h1, sel_pos h2, if_pos (.inr h2)]
  obtain ⟨i, rfl⟩ : ∃ b : Nat, i = (b : Int) := ⟨i.toNat, by omega⟩
  rw [sel_neg h1, sel_neg h2, if_neg (by omega), haystackref08_Rank_j7_unf]; unfold haystackref08_Rank_j7_B
  rw [haystackref02_Ones_in l hl _ (by omega), Int.toNat_natCast]
  have h3 := cntOf_add l i
  cases bit with
  | true => rw [Bool.not_true, Ev.sel_false]
  | false =>
    rw [Bool.not_false, Ev.sel_true, subW_i64 (by omega) (by omega)]
    congr 1; omega
theorem ref8_Select_yes {l : List Bool} (hl : l.length ≤ 1048576) {a b c d : Int} {e : List Int} {f : Int} {g h j : List Int} (r : IsR l a b c d e f g h j) (bit : Bool) (k : Int) (K : Int → Int → Option R) : haystackref08_Select a b c d e f g h j bit k K = K (selB l bit k).1 (selB l bit k).2 := by
  rw [haystackref08_Select_unf]; unfold haystackref08_Select_B selB
  rw [haystackref08_Whole_yes hl r, Bool.not_true, Ev.sel_false, haystackref08_Select_l7_unf]; unfold haystackref08_Select_l7_B
  by_cases h1 : k < 0
  · rw [if_pos h1]
    exact ref8_Select_neg l hl bit k h1 _ _ l.length NR 0 (by omega) (by have := NR_lt; omega)
  obtain ⟨q, rfl⟩ : ∃ q : Nat, k = (q : Int) := ⟨k.toNat, by omega⟩
  rw [if_neg h1, Int.toNat_natCast]
  refine (ref8_Select_loop l hl bit q _ _ l.length NR 0 (by omega) (by have := NR_lt; omega)).trans ?_
  unfold placeB
  cases seekB l bit q 0 l.length <;> rfl
/-! ### of one that may not be -/
theorem rrr_Check_no {a b c d : Int} {ws : List Nat} {f : Int} {vs : List Nat} {h j : List Int} (n : NotR a b c d ws f vs h j) (K : Bool → Option R) : rrr_Check a b c d (ci ws) f (ci vs) h j K = K false := by
  rw [rrr_Check_unf]; unfold rrr_Check_B
  rw [rrr_no n]
theorem rrr_Bits_no {a b c d : Int} {ws : List Nat} {f : Int} {vs : List Nat} {h j : List Int} (n : NotR a b c d ws f vs h j) (K : Int → List Int → Option R) : rrr_Bits a b c d (ci ws) f (ci vs) h j K = K 0 [] := by
  rw [rrr_Bits_unf]; unfold rrr_Bits_B
  rw [rrr_no n]
theorem ref8_Check_no {a b c d : Int} {ws : List Nat} {f : Int} {vs : List Nat} {h j : List Int} (n : NotR a b c d ws f vs h j) (K : Bool → Option R) : haystackref08_Check a b c d (ci ws) f (ci vs) h j K = K false := by
  rw [haystackref08_Check_unf]; unfold haystackref08_Check_B
  rw [ref8_Whole_no n]
theorem ref8_Bits_no {a b c d : Int} {ws : List Nat} {f : Int} {vs : List Nat} {h j : List Int} (n : NotR a b c d ws f vs h j) (K : Int → List Int → Option R) : haystackref08_Bits a b c d (ci ws) f (ci vs) h j K = K 0 [] := by
  rw [haystackref08_Bits_unf]; unfold haystackref08_Bits_B
  rw [ref8_Whole_no n]
theorem rrr_Size_no {a b c d : Int} {ws : List Nat} {f : Int} {vs : List Nat} {h j : List Int} (n : NotR a b c d ws f vs h j) (K : Int → Option R) : rrr_Size a b c d (ci ws) f (ci vs) h j K = K 0 := by
  rw [rrr_Size_unf]; unfold rrr_Size_B
  rw [rrr_Check_no n, Bool.not_false, Ev.sel_true]
theorem rrr_Access_no {a b c d : Int} {ws : List Nat} {f : Int} {vs : List Nat} {h j : List Int} (n : NotR a b c d ws f vs h j) (i : Int) (K : Bool → Int → Option R) : rrr_Access a b c d (ci ws) f (ci vs) h j i K = K false 2 := by
  rw [rrr_Access_unf]; unfold rrr_Access_B
  rw [rrr_Check_no n, Bool.not_false, Ev.sel_true]
theorem rrr_Rank_no {a b c d : Int} {ws : List Nat} {f : Int} {vs : List Nat} {h j : List Int} (n : NotR a b c d ws f vs h j) (bit : Bool) (i : Int) (K : Int → Int → Option R) : rrr_Rank a b c d (ci ws) f (ci vs) h j bit i K = K 0 2 := by
  rw [rrr_Rank_unf]; unfold rrr_Rank_B
  rw [rrr_Check_no n, Bool.not_false, Ev.sel_true]
theorem rrr_Select_no {a b c d : Int} {ws : List Nat} {f : Int} {vs : List Nat} {h j : List Int} (n : NotR a b c d ws f vs h j) (bit : Bool) (i : Int) (K : Int → Int → Option R) : rrr_Select a b c d (ci ws) f (ci vs) h j bit i K = K 0 2 := by
  rw [rrr_Select_unf]; unfold rrr_Select_B
  rw [rrr_Check_no n, Bool.not_false, Ev.sel_true]
theorem ref8_Size_no {a b c d : Int} {ws : List Nat} {f : Int} {vs : List Nat} {h j : List Int} (n : NotR a b c d ws f vs h j) (K : Int → Option R) : haystackref08_Size a b c d (ci ws) f (ci vs) h j K = K 0 := by
  rw [haystackref08_Size_unf]; unfold haystackref08_Size_B
  rw [ref8_Check_no n, Bool.not_false, Ev.sel_true]
theorem ref8_Access_no {a b c d : Int} {ws : List Nat} {f : Int} {vs : List Nat} {h j : List Int} (n : NotR a b c d ws f vs h j) (i : Int) (K : Bool → Int → Option R) : haystackref08_Access a b c d (ci ws) f (ci vs) h j i K = K false 2 := by
  rw [haystackref08_Access_unf]; unfold haystackref08_Access_B
  rw [ref8_Whole_no n, Bool.not_false, Ev.sel_true]
theorem ref8_Rank_no {a b c d : Int} {ws : List Nat} {f : Int} {vs : List Nat} {h j : List Int} (n : NotR a b c d ws f vs h j) (bit : Bool) (i : Int) (K : Int → Int → Option R) : haystackref08_Rank a b c d (ci ws) f (ci vs) h j bit i K = K 0 2 := by
  rw [haystackref08_Rank_unf]; unfold haystackref08_Rank_B
  rw [ref8_Whole_no n, Bool.not_false, Ev.sel_true]
theorem ref8_Select_no {a b c d : Int} {ws : List Nat} {f : Int} {vs : List Nat} {h j : List Int} (n : NotR a b c d ws f vs h j) (bit : Bool) (i : Int) (K : Int → Int → Option R) : haystackref08_Select a b c d (ci ws) f (ci vs) h j bit i K = K 0 2 := by
  rw [haystackref08_Select_unf]; unfold haystackref08_Select_B
  rw [ref8_Whole_no n, Bool.not_false, Ev.sel_true]
end
end Go.Proofs.YtdojekdcdoaccaaGreatDoor
