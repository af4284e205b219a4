/- Layer 4: what the document's functions come to. -/
import Derived.Test.YtkjadjdcbpiebaaStream
import Derived.Test.YtkjadjdcbpiebaaBitsRefC
import Derived.Test.YtkjadjdcbpiebaaWordRefD
namespace Go.Proofs.Ytkjadjdcbpiebaa
open Go Go.Ev
section
variable {R : Type}
theorem lowB_succ (x j : Nat) : lowB x j ++ [x.testBit j] = lowB x (j + 1) := by simp [lowB, List.range_succ]
theorem bit_dec (x j : Nat) (hx : x < 2 ^ 64) (hj : j ≤ 64) : decide (remW (shrW .u64 (x : Int) (cvtW .u64 (j : Int))) 2 = 1) = x.testBit j := by
  rw [cvtW_u64 (by omega) (by omega), shrW_u64 _ _ hx, show (2 : Int) = ((2 : Nat) : Int) from rfl, remW_nat, Bool.eq_iff_iff, decide_eq_true_iff, ← bit_mod]
  omega
theorem ref_low_loop (x k : Nat) (hx : x < 2 ^ 64) (hk : k ≤ 64) (K : Nat → List Bool → Option R) : ∀ (N j : Nat), j ≤ k → k - j < N → haystackref04_low_l4_1_L K N (x : Int) (k : Int) j (j : Int) (lowB x j) = K k (lowB x k)
  | 0, _, _, h => by omega
  | N + 1, j, h1, h2 => by
    simp only [haystackref04_low_l4_1_L, haystackref04_low_l4_1_T]
    by_cases h : j < k
    · rw [sel_pos (by omega), bit_dec x j hx (by omega), cvtW_u64 (by omega) (by omega), sel_pos (by omega), letV_eq, sel_pos (by rfl), sel_pos (lowB_length x j), sel_pos (by omega), letV_eq, lowB_succ, addW_i64 (by omega) (by omega), show (j : Int) + 1 = ((j + 1 : Nat) : Int) by omega]
      exact ref_low_loop x k hx hk K N (j + 1) (by omega) (by omega)
    · have : j = k := by omega
      subst this
      rw [sel_neg (by omega)]
theorem haystackref04_low_spec (x k : Nat) (hx : x < 2 ^ 64) (hk : k ≤ 64) (K : List Bool → Option R) : haystackref04_low (x : Int) (k : Int) K = K (lowB x k) := by
  rw [haystackref04_low_unf]; unfold haystackref04_low_B
  rw [haystackref04_low_l4_unf]; unfold haystackref04_low_l4_B
  rw [show NR = (NR - 2 + 1) + 1 by have := NR_lt; omega]
  simp only [haystackref04_low_l4_L, haystackref04_low_l4_T]
  by_cases h : 0 < k
  · rw [sel_pos (by omega), show (0 : Int) = ((0 : Nat) : Int) from rfl, bit_dec x 0 hx (by omega), cvtW_u64 (by omega) (by omega), sel_pos (by omega), letV_eq, sel_pos (by rfl), addW_i64 (by omega) (by omega)]
    have := ref_low_loop (R := R) x k hx hk (fun l bs => sel (decide (l = List.length bs)) (K bs) (sel (decide (0 + l ≤ List.length bs)) (K (List.take l (List.drop 0 bs))) none)) (NR - 2 + 1) 1 h (by have := NR_lt; omega)
    have e : lowB x 1 = [x.testBit 0] := by simp [lowB]
    rw [e] at this
    refine this.trans ?_
    rw [sel_pos (lowB_length x k).symm]
  · have : k = 0 := by omega
    subst this
    rw [sel_neg (by omega)]
    rfl
theorem haystackref04_gamma_spec (x : Nat) (h0 : x ≠ 0) (hx : x < 2 ^ 64) (K : List Bool → Option R) : haystackref04_gamma (x : Int) K = K (gammaB x) := by
  have hp := bitLen_pos h0
  have h64 := bitLen_le hx
  rw [haystackref04_gamma_unf]; unfold haystackref04_gamma_B
  rw [haystackref01_Len_spec x hx, subW_i64 (by omega) (by omega), show ((bitLen x : Nat) : Int) - 1 = ((bitLen x - 1 : Nat) : Int) by omega, sel_pos (by omega), sel_pos (by omega), sel_pos (by omega), sel_pos (by omega), letV_eq, sel_pos (by simp), Int.toNat_natCast, sel_pos (by omega), letV_eq, haystackref04_low_spec x _ hx (by omega)]
  have e : List.replicate (bitLen x - 1) false ++ [true] ++ lowB x (bitLen x - 1) = gammaB x := by simp [gammaB]
  have hg := gammaB_length x
  rw [sel_pos (by simp), lowB_length, sel_pos (by omega), letV_eq, e, sel_pos (by omega)]
theorem haystackref04_gamma_r_spec (x : Nat) (h0 : x ≠ 0) (hx : x < 2 ^ 64) (K : Nat → List Bool → Option R) : haystackref04_gamma_r (x : Int) K = K (gammaB x).length (gammaB x) := by
  have hp := bitLen_pos h0
  have h64 := bitLen_le hx
  rw [haystackref04_gamma_r_unf]; unfold haystackref04_gamma_r_B
  rw [haystackref01_Len_spec x hx, subW_i64 (by omega) (by omega), show ((bitLen x : Nat) : Int) - 1 = ((bitLen x - 1 : Nat) : Int) by omega, sel_pos (by omega), sel_pos (by omega), sel_pos (by omega), sel_pos (by omega), letV_eq, sel_pos (by simp), Int.toNat_natCast, sel_pos (by omega), letV_eq, haystackref04_low_spec x _ hx (by omega)]
  have e : List.replicate (bitLen x - 1) false ++ [true] ++ lowB x (bitLen x - 1) = gammaB x := by simp [gammaB]
  have hg := gammaB_length x
  rw [sel_pos (by simp), lowB_length, sel_pos (by omega), letV_eq, e]
  congr 1; omega
theorem haystackref04_delta_spec (x : Nat) (h0 : x ≠ 0) (hx : x < 2 ^ 64) (K : List Bool → Option R) : haystackref04_delta (x : Int) K = K (deltaB x) := by
  have hp := bitLen_pos h0
  have h64 := bitLen_le hx
  have h7 : bitLen (bitLen x) ≤ 7 := bitLen_le (by omega)
  have hg := gammaB_length (bitLen x)
  rw [haystackref04_delta_unf]; unfold haystackref04_delta_B
  rw [haystackref01_Len_spec x hx, cvtW_u64 (by omega) (by omega), haystackref04_gamma_r_spec _ (by omega) (by omega), subW_i64 (by omega) (by omega), show ((bitLen x : Nat) : Int) - 1 = ((bitLen x - 1 : Nat) : Int) by omega, haystackref04_low_spec x _ hx (by omega), sel_pos (by rfl), lowB_length, sel_pos (by omega), letV_eq]
  show sel (decide (_ = (deltaB x).length)) _ _ = _
  rw [sel_pos (by rw [deltaB_length]; omega)]
  rfl
theorem haystackref04_put_spec (n : Int) (ws : List Nat) (hw : Ws ws) (c : List Bool) (hc : c.length ≤ 1048576) (K : Int → List Int → Int → Option R) : haystackref04_put n (ci ws) c K = K (putS n ws c).1 (ci (putS n ws c).2.1) (putS n ws c).2.2 := by
  rw [haystackref04_put_unf]; unfold haystackref04_put_B
  rw [haystackref02_From_spec c hc, haystackref02_Join_spec n ws hw _ _ (Ws.wds hc)]
  unfold joinS putS
  by_cases hok : okRow n ws = true
  · obtain ⟨a1, a2, a3⟩ := okRow_len hok
    by_cases h1 : n + (c.length : Int) ≤ 1048576
    · rw [if_pos ⟨hok, okRow_of c hc, by omega⟩, if_pos ⟨hok, h1⟩, rowB_wds]; rfl
    · rw [if_neg (by omega), if_neg (by omega)]; rfl
  · rw [if_neg fun h => hok h.1, if_neg fun h => hok h.1]; rfl
theorem haystackref04_PutGamma_spec (n : Int) (ws : List Nat) (hw : Ws ws) (x : Nat) (hx : x < 2 ^ 64) (K : Int → List Int → Int → Option R) :
    haystackref04_PutGamma n (ci ws) (x : Int) K = (if x = 0 then K n (ci ws) 2 else K (putS n ws (gammaB x)).1 (ci (putS n ws (gammaB x)).2.1) (putS n ws (gammaB x)).2.2) := by
  have h64 := bitLen_le hx
  rw [haystackref04_PutGamma_unf]; unfold haystackref04_PutGamma_B
  by_cases h0 : x = 0
  · rw [sel_pos (by omega), if_pos h0]
  · rw [sel_neg (by omega), if_neg h0, haystackref04_gamma_spec x h0 hx, haystackref04_put_spec n ws hw _ (by rw [gammaB_length]; omega)]
theorem haystackref04_PutDelta_spec (n : Int) (ws : List Nat) (hw : Ws ws) (x : Nat) (hx : x < 2 ^ 64) (K : Int → List Int → Int → Option R) :
    haystackref04_PutDelta n (ci ws) (x : Int) K = (if x = 0 then K n (ci ws) 2 else K (putS n ws (deltaB x)).1 (ci (putS n ws (deltaB x)).2.1) (putS n ws (deltaB x)).2.2) := by
  have h64 := bitLen_le hx
  have h7 : bitLen (bitLen x) ≤ 7 := bitLen_le (by omega)
  rw [haystackref04_PutDelta_unf]; unfold haystackref04_PutDelta_B
  by_cases h0 : x = 0
  · rw [sel_pos (by omega), if_pos h0]
  · rw [sel_neg (by omega), if_neg h0, haystackref04_delta_spec x h0 hx, haystackref04_put_spec n ws hw _ (by rw [deltaB_length]; omega)]

/-! ### reading -/
theorem add_or {s i : Nat} (h : s.testBit i = false) : s ||| 2 ^ i = s + 2 ^ i := by
  rw [← and_add_or]
  apply Nat.eq_of_testBit_eq
  intro q
  rw [Nat.testBit_and, Nat.testBit_two_pow, Nat.zero_testBit]
  by_cases e : i = q
  · subst e; rw [h]; rfl
  · simp [e]
theorem sliceN_succ (ws : List Nat) (a i : Nat) : sliceN ws a (i + 1) = sliceN ws a i + (bitAt ws (a + i)).toNat * 2 ^ i := by
  have hb : (sliceN ws a i).testBit i = false := testBit_ge (sliceN_lt ws a i) (Nat.le_refl _)
  have key : sliceN ws a (i + 1) = if bitAt ws (a + i) = true then sliceN ws a i ||| 2 ^ i else sliceN ws a i := by
    apply Nat.eq_of_testBit_eq
    intro q
    rw [sliceN_bit]
    by_cases hc : bitAt ws (a + i) = true
    · rw [if_pos hc, Nat.testBit_or, sliceN_bit, Nat.testBit_two_pow]
      by_cases h1 : q < i
      · have h2 : q < i + 1 := by omega
        have h3 : ¬ i = q := by omega
        simp [h1, h2, h3]
      · by_cases h2 : q = i
        · subst h2; simp [hc]
        · have h3 : ¬ q < i + 1 := by omega
          have h4 : ¬ i = q := by omega
          simp [h1, h3, h4]
    · rw [if_neg hc, sliceN_bit]
      by_cases h1 : q < i
      · have h2 : q < i + 1 := by omega
        simp [h1, h2]
      · by_cases h2 : q = i
        · subst h2; simp [hc]
        · have h3 : ¬ q < i + 1 := by omega
          simp [h1, h3]
  rw [key]
  cases hc : bitAt ws (a + i) with
  | true => rw [if_pos rfl, add_or hb]; simp
  | false => simp
theorem ref_bits_loop (l : List Bool) (h : l.length ≤ 1048576) (a k : Nat) (hk : k < 64) (ha : a + k ≤ l.length) (K : Int → Int → Int → Option R) : ∀ (N i : Nat), i ≤ k → k - i < N →
    haystackref04_bits_l6_L K N (a : Int) (k : Int) ((sliceN (wds l) a i + 2 ^ k : Nat) : Int) (i : Int) (l.length : Int) (ci (wds l)) = K (a : Int) (k : Int) ((sliceN (wds l) a k + 2 ^ k : Nat) : Int)
  | 0, _, _, h => by omega
  | N + 1, i, h1, h2 => by
    simp only [haystackref04_bits_l6_L, haystackref04_bits_l6_T]
    by_cases hi : i < k
    · have ih := ref_bits_loop l h a k hk ha K N (i + 1) (by omega) (by omega)
      rw [sliceN_succ] at ih
      have hs := sliceN_lt (wds l) a i
      have hp : 2 ^ k < 2 ^ 64 := Nat.pow_lt_pow_right (by decide) hk
      have hpi : 2 ^ i < 2 ^ k := Nat.pow_lt_pow_right (by decide) hi
      have hpk : 2 ^ k ≤ 2 ^ 63 := Nat.pow_le_pow_right (by decide) (by omega)
      rw [sel_pos (by omega), addW_i64 (a := (a : Int)) (by omega) (by omega), ← Int.natCast_add, haystackref02_At_spec _ _ (fun w hw => wds_lt hw) _ (by rw [wds_length]; omega) (by omega)]
      cases hb : bitAt (wds l) (a + i) with
      | true =>
        rw [hb] at ih
        rw [Ev.sel_true, cvtW_u64 (by omega) (by omega), sel_pos (by omega), show (1 : Int) = ((1 : Nat) : Int) from rfl, shlW_u64 _ _ (by decide), Nat.one_mul, Nat.mod_eq_of_lt (by omega), orW_u64 _ _ (by omega) (by omega), add_or (by rw [Nat.add_comm, Nat.testBit_two_pow_add_gt hi]; exact testBit_ge hs (Nat.le_refl _)), addW_i64 (by omega) (by omega), show (i : Int) + ((1 : Nat) : Int) = ((i + 1 : Nat) : Int) by omega, show sliceN (wds l) a i + 2 ^ k + 2 ^ i = sliceN (wds l) a i + true.toNat * 2 ^ i + 2 ^ k by simp; omega]
        exact ih
      | false =>
        rw [hb] at ih
        rw [Ev.sel_false, addW_i64 (by omega) (by omega), show (i : Int) + 1 = ((i + 1 : Nat) : Int) by omega]
        simpa using ih
    · have : i = k := by omega
      subst this
      rw [sel_neg (by omega)]
theorem haystackref04_bits_spec (l : List Bool) (h : l.length ≤ 1048576) (a k : Nat) (ha : a ≤ 4000000000) (hk : k < 64) (K : Int → Int → Int → Option R) : haystackref04_bits (l.length : Int) (ci (wds l)) (a : Int) (k : Int) K = K (tailS l a k).1 (tailS l a k).2.1 (tailS l a k).2.2 := by
  rw [haystackref04_bits_unf]; unfold haystackref04_bits_B
  rw [subW_i64 (by omega) (by omega)]
  unfold tailS
  by_cases h1 : l.length < a + k
  · rw [if_pos h1, sel_pos (by omega)]
  · have hp : 2 ^ k < 2 ^ 64 := Nat.pow_lt_pow_right (by decide) hk
    rw [if_neg h1, sel_neg (by omega), cvtW_u64 (by omega) (by omega), sel_pos (by omega), show (1 : Int) = ((1 : Nat) : Int) from rfl, shlW_u64 _ _ (by decide), Nat.one_mul, Nat.mod_eq_of_lt hp, haystackref04_bits_l6_unf]
    unfold haystackref04_bits_l6_B
    have := ref_bits_loop (R := R) l h a k hk (by omega) (fun n m x => K x (addW .i64 n m) 0) NR 0 (Nat.zero_le _) (by have := NR_lt; omega)
    have e : sliceN (wds l) a 0 + 2 ^ k = 2 ^ k := by have := sliceN_lt (wds l) a 0; omega
    rw [e] at this
    refine this.trans ?_
    rw [addW_i64 (by omega) (by omega), ← Int.natCast_add]
theorem ref_Gamma_loop (l : List Bool) (h : l.length ≤ 1048576) (a : Nat) (ha : a ≤ l.length) (K : Int → Int → Int → List Int → Option R) : ∀ (N k : Nat), k ≤ 64 → 64 - k < N → k ≤ lead l a →
    haystackref04_Gamma_l7_L K N (a : Int) (k : Int) (l.length : Int) (ci (wds l)) = K (a : Int) ((lead l a : Nat) : Int) (l.length : Int) (ci (wds l))
  | 0, _, _, h, _ => by omega
  | N + 1, k, hk, hN, hl => by
    simp only [haystackref04_Gamma_l7_L, haystackref04_Gamma_l7_T]
    have h64 := lead_le l a
    by_cases h1 : k < 64
    · rw [sel_pos (by omega), subW_i64 (by omega) (by omega)]
      by_cases h2 : l.length ≤ a + k
      · rw [sel_neg (by omega)]
        have e : lead l a = k := lead_eq h1 (fun j hj => lead_low (by omega)) (.inl h2)
        rw [e]
      · rw [sel_pos (by omega), addW_i64 (by omega) (by omega), ← Int.natCast_add, haystackref02_At_spec _ _ (fun w hw => wds_lt hw) _ (by rw [wds_length]; omega) (by omega), bitAt_wds]
        cases h3 : l.getD (a + k) false with
        | true =>
          rw [Bool.not_true, Ev.sel_false]
          have e : lead l a = k := lead_eq h1 (fun j hj => lead_low (by omega)) (.inr h3)
          rw [e]
        | false =>
          rw [Bool.not_false, Ev.sel_true, addW_i64 (by omega) (by omega), show (k : Int) + 1 = ((k + 1 : Nat) : Int) by omega]
          exact ref_Gamma_loop l h a ha K N (k + 1) (by omega) (by omega) (lead_next l a k hl h1 h2 (by rw [h3]; decide))
    · rw [sel_neg (by omega)]
      have : lead l a = k := by omega
      rw [this]
theorem haystackref04_Gamma_spec (n : Int) (ws : List Nat) (hw : Ws ws) (a : Int) (K : Int → Int → Int → Option R) : haystackref04_Gamma n (ci ws) a K = K (readS gammaS n ws a).1 (readS gammaS n ws a).2.1 (readS gammaS n ws a).2.2 := by
  have far : ∀ (K : Int → Int → Int → Option R) (K1 : Int → Int → List Int → Option R), haystackref04_Gamma_j5 a true n (ci ws) K K1 = K 0 0 3 := fun K K1 => by
    rw [haystackref04_Gamma_j5_unf]; unfold haystackref04_Gamma_j5_B; rfl
  rw [haystackref04_Gamma_unf]; unfold haystackref04_Gamma_B
  rw [haystackref02_Check_spec n ws hw]
  cases hok : okRow n ws with
  | false => simp [readS, hok, sel]
  | true =>
    obtain ⟨l, rfl, rfl, hl⟩ := okRow_wds hok hw.1
    rw [Bool.not_true, Ev.sel_false]
    by_cases h1 : a < 0
    · rw [sel_pos h1, far]; simp [readS, hok, h1]
    rw [sel_neg h1]
    by_cases h2 : (l.length : Int) < a
    · rw [decide_eq_true h2, far]; simp [readS, hok, h2]
    rw [decide_eq_false h2, haystackref04_Gamma_j5_unf]; unfold haystackref04_Gamma_j5_B
    obtain ⟨p, rfl⟩ : ∃ p : Nat, a = (p : Int) := ⟨a.toNat, by omega⟩
    have hp : p ≤ l.length := by omega
    have h64 := lead_le l p
    rw [Ev.sel_false, readS_wds _ l hl p hp]
    show haystackref04_Gamma_j6 _ _ _ _ = _
    rw [haystackref04_Gamma_j6_unf]; unfold haystackref04_Gamma_j6_B
    rw [haystackref04_Gamma_l7_unf]; unfold haystackref04_Gamma_l7_B
    refine (ref_Gamma_loop l hl p hp _ NR 0 (by omega) (by have := NR_lt; omega) (Nat.zero_le _)).trans ?_
    unfold gammaS
    by_cases h3 : lead l p = 64
    · rw [if_pos h3, sel_pos (by omega)]
    · rw [if_neg h3, sel_neg (by omega), subW_i64 (by omega) (by omega)]
      by_cases h4 : l.length ≤ p + lead l p
      · rw [if_pos h4, sel_pos (by omega)]
      · rw [if_neg h4, sel_neg (by omega), addW_i64 (a := (p : Int)) (by omega) (by omega), addW_i64 (by omega) (by omega), show (p : Int) + ((lead l p : Nat) : Int) + 1 = ((p + lead l p + 1 : Nat) : Int) by omega, haystackref04_bits_spec l hl _ _ (by omega) (by omega)]
theorem haystackref04_Delta_spec (n : Int) (ws : List Nat) (hw : Ws ws) (a : Int) (K : Int → Int → Int → Option R) : haystackref04_Delta n (ci ws) a K = K (readS deltaS n ws a).1 (readS deltaS n ws a).2.1 (readS deltaS n ws a).2.2 := by
  rw [haystackref04_Delta_unf]; unfold haystackref04_Delta_B
  rw [haystackref04_Gamma_spec n ws hw]
  unfold readS
  cases hok : okRow n ws with
  | false => simp [sel]
  | true =>
    obtain ⟨l, rfl, rfl, hl⟩ := okRow_wds hok hw.1
    simp only [if_true]
    by_cases h1 : a < 0 ∨ (l.length : Int) < a
    · rw [if_pos h1, if_pos h1]; rfl
    · rw [if_neg h1, if_neg h1, rowB_wds]
      unfold deltaS
      rcases gammaS_ok l a.toNat with h | h | ⟨x, nx, h⟩
      · rw [h]; rfl
      · rw [h]; rfl
      · obtain ⟨h3, h4⟩ := gammaS_pos h
        rw [h]
        simp only [decide_true, Bool.not_true, Ev.sel_false, ne_eq, not_true_eq_false, if_false, Int.toNat_natCast]
        by_cases h5 : (64 : Int) < (x : Int)
        · rw [sel_pos h5, if_pos h5]
        · rw [sel_neg h5, if_neg h5, cvtW_i64 (by omega) (by omega), subW_i64 (by omega) (by omega), show (x : Int) - 1 = ((x - 1 : Nat) : Int) by omega, haystackref04_bits_spec l hl _ _ (by omega) (by omega)]
theorem haystackref04_Size_spec (x : Nat) (hx : x < 2 ^ 64) (long : Bool) (K : Int → Option R) : haystackref04_Size (x : Int) long K = K ((sizeS x long : Nat) : Int) := by
  rw [haystackref04_Size_unf]; unfold haystackref04_Size_B sizeS
  by_cases h0 : x = 0
  · rw [sel_pos (by omega), if_pos h0]; rfl
  · rw [sel_neg (by omega), if_neg h0]
    cases long with
    | false => rw [Ev.sel_false, haystackref04_gamma_spec x h0 hx]; rfl
    | true => rw [Ev.sel_true, haystackref04_delta_spec x h0 hx]; rfl
end
end Go.Proofs.Ytkjadjdcbpiebaa
