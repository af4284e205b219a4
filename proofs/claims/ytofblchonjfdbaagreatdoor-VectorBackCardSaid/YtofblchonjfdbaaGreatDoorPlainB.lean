/- Layer 7: what is told of rows of bits with counts beside them. -/
import Derived.Test.YtofblchonjfdbaaGreatDoorPlain
import Derived.Test.YtofblchonjfdbaaGreatDoorEqI
namespace Go.Proofs.YtofblchonjfdbaaGreatDoor
open Go Go.Ev
section
variable {R : Type}
/-- may this be one? -/
def okP (n : Int) (ws : List Nat) (us vs : List Int) : Bool := okRow n ws && (decide (us = supF (rowB n ws)) && decide (vs = subF (rowB n ws)))
theorem okP_of {n : Int} {ws : List Nat} {us vs : List Int} (h : okP n ws us vs = true) (hw : ∀ w ∈ ws, w < 2 ^ 64) : ∃ l : List Bool, n = (l.length : Int) ∧ ws = wds l ∧ l.length ≤ 1048576 ∧ us = supF l ∧ vs = subF l := by
  simp only [okP, Bool.and_eq_true, decide_eq_true_eq] at h
  obtain ⟨l, h1, h2, h3⟩ := okRow_wds h.1 hw
  refine ⟨l, h1, h2, h3, ?_, ?_⟩
  · rw [h.2.1, h1, h2, rowB_wds]
  · rw [h.2.2, h1, h2, rowB_wds]
theorem okP_wds (l : List Bool) (h : l.length ≤ 1048576) : okP (l.length : Int) (wds l) (supF l) (subF l) = true := by
  simp only [okP, okRow_of l h, rowB_wds, decide_true, Bool.and_self]
theorem plain_Check_spec (n : Int) (ws : List Nat) (hw : Ws ws) (us vs : List Int) (hu : us.length < 4000000000) (hv : vs.length < 4000000000) (K : Bool → Option R) : plain_Check n (ci ws) us vs K = K (okP n ws us vs) := by
  rw [plain_Check_unf]; unfold plain_Check_B
  rw [plain_Build_spec n ws hw]
  cases hok : okRow n ws with
  | false => rw [if_neg (by decide), sel_neg (by decide)]; simp [okP, hok]
  | true =>
    rw [if_pos rfl, sel_pos rfl, slices_Equal_int_int_spec _ _ hu]
    simp only [okP, hok, Bool.true_and]
    by_cases h1 : us = supF (rowB n ws)
    · rw [decide_eq_true h1, Ev.sel_true, slices_Equal_int_int_spec _ _ hv]; rfl
    · rw [decide_eq_false h1, Ev.sel_false]; rfl
theorem plain_Access_spec (n : Int) (ws : List Nat) (hw : Ws ws) (us vs : List Int) (hu : us.length < 4000000000) (hv : vs.length < 4000000000) (i : Int) (h1 : -9223372036854775808 ≤ i) (h2 : i ≤ 9223372036854775807) (K : Bool → Int → Option R) :
    plain_Access n (ci ws) us vs i K = if okP n ws us vs = true then K (getS n ws i).1 (getS n ws i).2 else K false 2 := by
  rw [plain_Access_unf]; unfold plain_Access_B
  rw [plain_Check_spec n ws hw us vs hu hv]
  cases okP n ws us vs with
  | false => rfl
  | true => rw [Bool.not_true, Ev.sel_false, if_pos rfl, bits_Get_spec n ws hw i h1 h2]
theorem plain_ones_spec (l : List Bool) (hl : l.length ≤ 1048576) (i : Nat) (hi : i ≤ l.length) (K : Int → Option R) : plain_ones (l.length : Int) (ci (wds l)) (supF l) (subF l) (i : Int) K = K ((cntOf l true i : Nat) : Int) := by
  rw [plain_ones_unf]; unfold plain_ones_B
  have hs : (subF l).length = (l.length + 63) / 64 := subP_length _ _
  have hu : (supF l).length = l.length / 512 + 1 := supP_length _ _
  rw [quo64 i (by omega), hs, cntOf_true]
  by_cases h1 : i / 64 = (l.length + 63) / 64
  · rw [sel_pos (by omega), bits_Ones_spec _ _ (Ws.wds hl), onesS_wds l hl i hi, ← pcb_take]
  · have hp := pcb_le (wds l) (64 * (i / 64))
    have hm := pcb_mono (wds l) (show 512 * (i / 64 / 8) ≤ 64 * (i / 64) by omega)
    have hw := pcb_word (wds l) (i / 64) (i % 64) (by omega)
    rw [show 64 * (i / 64) + i % 64 = i by omega] at hw
    have hr : rankN ((wds l).getD (i / 64) 0) ((i % 64 : Nat) : Int) = pc ((wds l).getD (i / 64) 0) (i % 64) := by unfold rankN; congr 1; omega
    have hp2 := pcb_le (wds l) i
    rw [sel_neg (by omega), quo8 _ (by omega), sel_pos (by omega), hu, sel_pos (by omega), sel_pos (by omega), sel_pos (by omega), sel_pos (by omega), ci_length, wds_length, sel_pos (by omega), Int.toNat_natCast, Int.toNat_natCast, rem64 i, ci_getD, word_Rank_spec _ (getD_lt (fun w hw => wds_lt hw) _) _ (by omega) (by omega), hr]
    unfold supF subF
    rw [supP_get _ (by omega), subP_get _ (by omega), addW_i64 (a := ((pcb (wds l) (512 * (i / 64 / 8)) : Nat) : Int)) (by omega) (by omega), addW_i64 (by omega) (by omega)]
    congr 1; omega
theorem plain_ahead_spec (l : List Bool) (hl : l.length ≤ 1048576) (bit : Bool) (i : Nat) (hi : i ≤ l.length) (K : Int → Option R) : plain_ahead (l.length : Int) (ci (wds l)) (supF l) (subF l) bit (i : Int) K = K ((cntOf l bit i : Nat) : Int) := by
  rw [plain_ahead_unf]; unfold plain_ahead_B
  have h1 := cntOf_add l i
  cases bit with
  | true => rw [Ev.sel_true, plain_ones_spec l hl i hi]
  | false =>
    rw [Ev.sel_false, plain_ones_spec l hl i hi]
    rw [subW_i64 (by omega) (by omega)]
    congr 1; omega
def rankP (n : Int) (ws : List Nat) (us vs : List Int) (bit : Bool) (i : Int) : Int × Int :=
  if okP n ws us vs = true then (if i < 0 ∨ n < i then (0, 3) else (((cntOf (rowB n ws) bit i.toNat : Nat) : Int), 0)) else (0, 2)
theorem plain_Rank_spec (n : Int) (ws : List Nat) (hw : Ws ws) (us vs : List Int) (hu : us.length < 4000000000) (hv : vs.length < 4000000000) (bit : Bool) (i : Int) (K : Int → Int → Option R) :
    plain_Rank n (ci ws) us vs bit i K = K (rankP n ws us vs bit i).1 (rankP n ws us vs bit i).2 := by
  rw [plain_Rank_unf]; unfold plain_Rank_B rankP
  rw [plain_Check_spec n ws hw us vs hu hv]
  cases hok : okP n ws us vs with
  | false => rfl
  | true =>
    obtain ⟨l, rfl, rfl, hl, rfl, rfl⟩ := okP_of hok hw.1
    rw [Bool.not_true, Ev.sel_false, if_pos rfl]
    by_cases h1 : i < 0
    · rw [sel_pos h1, if_pos (.inl h1)]
    rw [sel_neg h1]
    by_cases h2 : (l.length : Int) < i
    · rw [sel_pos h2, if_pos (.inr h2)]
    obtain ⟨p, rfl⟩ : ∃ p : Nat, i = (p : Int) := ⟨i.toNat, by omega⟩
    rw [sel_neg h2, if_neg (by omega), plain_Rank_j6_unf]; unfold plain_Rank_j6_B
    rw [plain_ahead_spec l hl bit p (by omega), rowB_wds, Int.toNat_natCast]
def selP (n : Int) (ws : List Nat) (us vs : List Int) (bit : Bool) (k : Int) : Int × Int :=
  if okP n ws us vs = true then (if k < 0 then (0, 3) else match placeB (rowB n ws) bit k.toNat with | some i => ((i : Int), 0) | none => (0, 3)) else (0, 2)
theorem plain_Select_loop (l : List Bool) (hl : l.length ≤ 1048576) (bit : Bool) (k : Nat) (K : Bool → Int → Int → Int → List Int → List Int → List Int → Option R) : ∀ (N lo hi : Nat), lo < hi → hi ≤ (l.length + 63) / 64 → hi - lo < N → cntOf l bit (64 * lo) ≤ k → (hi = (l.length + 63) / 64 ∨ k < cntOf l bit (64 * hi)) →
    ∃ q, q < (l.length + 63) / 64 ∧ cntOf l bit (64 * q) ≤ k ∧ (q + 1 = (l.length + 63) / 64 ∨ k < cntOf l bit (64 * (q + 1))) ∧ plain_Select_l7_L K N bit (k : Int) (lo : Int) (hi : Int) (l.length : Int) (ci (wds l)) (supF l) (subF l) = K bit (k : Int) (q : Int) (l.length : Int) (ci (wds l)) (supF l) (subF l)
  | 0, _, _, _, _, h, _, _ => by omega
  | N + 1, lo, hi, h1, h2, h3, h4, h5 => by
    simp only [plain_Select_l7_L, plain_Select_l7_T]
    rw [subW_i64 (by omega) (by omega)]
    by_cases h6 : lo + 1 < hi
    · have hm : quoW .i64 ((lo : Int) + (hi : Int)) 2 = (((lo + hi) / 2 : Nat) : Int) := by rw [quoW_nat (by omega) (by omega) (by omega)]; omega
      rw [sel_pos (by omega), addW_i64 (by omega) (by omega), hm, mulW_i64 (by omega) (by omega), show (((lo + hi) / 2 : Nat) : Int) * 64 = ((64 * ((lo + hi) / 2) : Nat) : Int) by omega, plain_ahead_spec l hl bit _ (by omega)]
      by_cases h7 : cntOf l bit (64 * ((lo + hi) / 2)) ≤ k
      · rw [sel_pos (by omega)]
        exact plain_Select_loop l hl bit k K N ((lo + hi) / 2) hi (by omega) h2 (by omega) h7 h5
      · rw [sel_neg (by omega)]
        exact plain_Select_loop l hl bit k K N lo ((lo + hi) / 2) (by omega) (by omega) (by omega) h4 (.inr (by omega))
    · have : hi = lo + 1 := by omega
      subst this
      rw [sel_neg (by omega)]
      exact ⟨lo, by omega, h4, h5, rfl⟩
theorem plain_Select_spec (n : Int) (ws : List Nat) (hw : Ws ws) (us vs : List Int) (hu : us.length < 4000000000) (hv : vs.length < 4000000000) (bit : Bool) (k : Int) (K : Int → Int → Option R) :
    plain_Select n (ci ws) us vs bit k K = K (selP n ws us vs bit k).1 (selP n ws us vs bit k).2 := by
  rw [plain_Select_unf]; unfold plain_Select_B selP
  rw [plain_Check_spec n ws hw us vs hu hv]
  cases hok : okP n ws us vs with
  | false => rfl
  | true =>
    obtain ⟨l, rfl, rfl, hl, rfl, rfl⟩ := okP_of hok hw.1
    rw [Bool.not_true, Ev.sel_false, if_pos rfl]
    by_cases h1 : k < 0
    · rw [sel_pos h1, if_pos h1]
    obtain ⟨q, rfl⟩ : ∃ q : Nat, k = (q : Int) := ⟨k.toNat, by omega⟩
    rw [sel_neg h1, if_neg h1, plain_ahead_spec l hl bit _ (Nat.le_refl _), rowB_wds, Int.toNat_natCast]
    by_cases h2 : cntOf l bit l.length ≤ q
    · rw [sel_pos (by omega), placeB_none h2]
    · rw [sel_neg (by omega), plain_Select_j6_unf]; unfold plain_Select_j6_B
      obtain ⟨at_, hp, hat⟩ := placeB_ex (show q < cntOf l bit l.length by omega)
      rw [hp]
      have hn : 0 < (l.length + 63) / 64 := by have := hat.lt; omega
      have hs : (subF l).length = (l.length + 63) / 64 := subP_length _ _
      rw [plain_Select_l7_unf]; unfold plain_Select_l7_B
      rw [hs]
      obtain ⟨p, e1, e2, e3, e4⟩ := plain_Select_loop (R := R) l hl bit q (fun b n1 n2 n3 xs us vs => sel (decide (0 ≤ n2))
   (sel (decide (n2 < ((List.length xs : Nat) : Int)))
    (sel (!b)
     (plain_Select_j15 b n1 n2 (notW .u64 (List.getD xs (Int.toNat n2) 0)) n3 xs us vs
      (fun n916 n917 => K n916 n917))
     (plain_Select_j15 b n1 n2 (List.getD xs (Int.toNat n2) 0) n3 xs us vs
      (fun n918 n919 => K n918 n919)))
    (none))
   (none)) NR 0 ((l.length + 63) / 64) hn (Nat.le_refl _) (by have := NR_lt; omega) (Nat.zero_le _) (.inl rfl)
      refine Eq.trans e4 ?_
      have hw0 := getD_lt (ws := wds l) (fun w hw => wds_lt hw) p
      have hq := cntOf_le l bit (64 * p)
      have hql := cntOf_le l bit l.length
      have fin : plain_Select_j15 bit (q : Int) (p : Int) ((wordB ((wds l).getD p 0) bit : Nat) : Int) (l.length : Int) (ci (wds l)) (supF l) (subF l) (fun a b => K a b) = K (at_ : Int) 0 := by
        rw [plain_Select_j15_unf]; unfold plain_Select_j15_B
        rw [mulW_i64 (by omega) (by omega), show (p : Int) * 64 = ((64 * p : Nat) : Int) by omega, plain_ahead_spec l hl bit _ (by omega), subW_i64 (by omega) (by omega), word_Select_spec _ (wordB_lt hw0 bit)]
        have hsel : selN (wordB ((wds l).getD p 0) bit) ((q : Int) - ((cntOf l bit (64 * p) : Nat) : Int)) = at_ - 64 * p ∧ 64 * p ≤ at_ := by
          have hlo : 64 * p ≤ at_ := by
            apply Nat.le_of_not_lt
            intro h
            have := cntOf_lt l bit h hat.is
            have := hat.cnt
            omega
          have hhi : at_ < 64 * p + 64 := by
            rcases e3 with e3 | e3
            · have := hat.lt; omega
            · apply Nat.lt_of_not_le
              intro h
              have := cntOf_mono l bit (show 64 * (p + 1) ≤ at_ by omega)
              have := hat.cnt
              omega
          refine ⟨selN_eq (.inl ⟨by omega, ?_, ?_⟩), hlo⟩
          · rw [wordB_bit hw0 bit _ (by omega)]
            have : l.getD at_ false = ((wds l).getD p 0).testBit (at_ - 64 * p) := by
              rw [← bitAt_wds]; unfold bitAt
              rw [show at_ / 64 = p by omega, show at_ % 64 = at_ - 64 * p by omega]
            rw [← this, hat.is]; simp
          · have := wordB_cnt (l := l) bit p (at_ - 64 * p) (by omega)
            rw [show 64 * p + (at_ - 64 * p) = at_ by omega, hat.cnt] at this
            omega
        have := hat.lt
        rw [hsel.1, addW_i64 (by omega) (by omega), ← Int.natCast_add]
        congr 2; omega
      rw [sel_pos (by omega), ci_length, wds_length, sel_pos (by omega), Int.toNat_natCast, ci_getD]
      cases bit with
      | true => rw [Bool.not_true, Ev.sel_false]; exact fin
      | false =>
        rw [Bool.not_false, Ev.sel_true, notW_u64 _ hw0]
        exact fin
def sizeP (n : Int) (ws : List Nat) (us vs : List Int) : Int := if okP n ws us vs = true then n + 32 * (us.length : Int) + 16 * (vs.length : Int) else 0
theorem plain_Size_spec (n : Int) (ws : List Nat) (hw : Ws ws) (us vs : List Int) (hu : us.length < 4000000000) (hv : vs.length < 4000000000) (K : Int → Option R) : plain_Size n (ci ws) us vs K = K (sizeP n ws us vs) := by
  rw [plain_Size_unf]; unfold plain_Size_B sizeP
  rw [plain_Check_spec n ws hw us vs hu hv]
  cases hok : okP n ws us vs with
  | false => rfl
  | true =>
    obtain ⟨l, rfl, rfl, hl, rfl, rfl⟩ := okP_of hok hw.1
    rw [Bool.not_true, Ev.sel_false, if_pos rfl, mulW_i64 (by omega) (by omega), mulW_i64 (by omega) (by omega), addW_i64 (a := (l.length : Int)) (by omega) (by omega), addW_i64 (by omega) (by omega)]
theorem plain_Bits_spec (n : Int) (ws : List Nat) (hw : Ws ws) (us vs : List Int) (hu : us.length < 4000000000) (hv : vs.length < 4000000000) (K : Int → List Int → Option R) : plain_Bits n (ci ws) us vs K = if okP n ws us vs = true then K n (ci ws) else K 0 [] := by
  rw [plain_Bits_unf]; unfold plain_Bits_B
  rw [plain_Check_spec n ws hw us vs hu hv]
  cases okP n ws us vs <;> rfl
end
end Go.Proofs.YtofblchonjfdbaaGreatDoor
