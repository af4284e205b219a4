/- Layer 4: what the functions that put and read codes come to. -/
import Derived.Test.YtkjadjdcbpiebaaBitsE
import Derived.Test.YtkjadjdcbpiebaaWordC
import Derived.Test.YtkjadjdcbpiebaaW6
namespace Go.Proofs.Ytkjadjdcbpiebaa
open Go Go.Ev
section
variable {R : Type}
/-- bits appended, where there is room -/
theorem appendS_wds (l : List Bool) (x k : Nat) (hk : k ≤ 64) (h : l.length ≤ 1048576) : appendS (l.length : Int) (wds l) x (k : Int) = if l.length + k ≤ 1048576 then (((l ++ lowB x k).length : Int), wds (l ++ lowB x k), 0) else ((l.length : Int), wds l, 2) := by
  unfold appendS
  by_cases h1 : l.length + k ≤ 1048576
  · rw [if_pos ⟨okRow_of l h, by omega, by omega⟩, if_pos h1, rowB_wds, Int.toNat_natCast, List.length_append, lowB_length, Int.natCast_add]
  · rw [if_neg (by omega), if_neg h1]
theorem stream_row_put_r_spec (l : List Bool) (h : l.length ≤ 1048576) (x k : Nat) (hx : x < 2 ^ 64) (hk : k ≤ 64) (ok : Bool) (K : Int → List Int → Bool → Option R) :
    stream_row_put_r (x : Int) (k : Int) (l.length : Int) (ci (wds l)) ok K = if l.length + k ≤ 1048576 then K ((l ++ lowB x k).length : Int) (ci (wds (l ++ lowB x k))) ok else K (l.length : Int) (ci (wds l)) false := by
  have j3 : ∀ (n : Int) (xs : List Int) (b : Bool) (m : Int) (ys : List Int), stream_row_put_j3 n xs b m ys K = K m ys b := fun n xs b m ys => by
    rw [stream_row_put_j3_unf]; unfold stream_row_put_j3_B; rfl
  rw [stream_row_put_r_unf]; unfold stream_row_put_r_B
  rw [bits_Append_spec _ _ (Ws.wds h) x hx, appendS_wds l x k hk h]
  simp only [j3]
  by_cases h1 : l.length + k ≤ 1048576
  · rw [if_pos h1, if_pos h1]
    cases ok <;> rfl
  · rw [if_neg h1, if_neg h1]
    cases ok <;> rfl
theorem zeros_low (k : Nat) : List.replicate k false = lowB 0 k := by
  apply List.ext_getElem (by simp [lowB_length])
  intro i h1 h2
  simp [lowB]
theorem one_low : [true] = lowB 1 1 := by simp [lowB]
theorem gammaB_eq (x : Nat) : gammaB x = lowB 0 (bitLen x - 1) ++ lowB 1 1 ++ lowB x (bitLen x - 1) := by
  unfold gammaB; rw [zeros_low, ← one_low]; simp
theorem stream_row_gamma_r_spec (l : List Bool) (h : l.length ≤ 1048576) (x : Nat) (h0 : x ≠ 0) (hx : x < 2 ^ 64) (K : Int → List Int → Bool → Option R) :
    ∃ (m : List Bool), m.length ≤ 1048576 ∧ stream_row_gamma_r (x : Int) (l.length : Int) (ci (wds l)) true K = if l.length + (gammaB x).length ≤ 1048576 then K ((l ++ gammaB x).length : Int) (ci (wds (l ++ gammaB x))) true else K (m.length : Int) (ci (wds m)) false := by
  have hp := bitLen_pos h0
  have h64 := bitLen_le hx
  have hl := gammaB_length x
  have er : ∀ l : List Bool, l ++ lowB 0 (bitLen x - 1) ++ lowB 1 1 ++ lowB x (bitLen x - 1) = l ++ gammaB x := fun l => by rw [gammaB_eq]; simp
  have e0 : ((0 : Nat) : Int) = 0 := rfl
  have e1 : ((1 : Nat) : Int) = 1 := rfl
  have go : ∀ (a : List Bool) (ok : Bool), a.length ≤ 1048576 → ∃ m : List Bool, m.length ≤ 1048576 ∧ stream_row_put_r 1 1 (a.length : Int) (ci (wds a)) ok (fun n xs b => stream_row_put_r (x : Int) ((bitLen x - 1 : Nat) : Int) n xs b K) = if a.length + 1 + (bitLen x - 1) ≤ 1048576 then K ((a ++ lowB 1 1 ++ lowB x (bitLen x - 1)).length : Int) (ci (wds (a ++ lowB 1 1 ++ lowB x (bitLen x - 1)))) ok else K (m.length : Int) (ci (wds m)) false := by
    intro a ok ha
    rw [← e1, stream_row_put_r_spec a ha 1 1 (by decide) (by decide)]
    by_cases h1 : a.length + 1 ≤ 1048576
    · rw [if_pos h1, stream_row_put_r_spec _ (by rw [List.length_append, lowB_length]; exact h1) x _ hx (by omega)]
      by_cases h2 : a.length + 1 + (bitLen x - 1) ≤ 1048576
      · refine ⟨a, ha, ?_⟩
        rw [if_pos (by rw [List.length_append, lowB_length]; exact h2), if_pos h2]
      · refine ⟨a ++ lowB 1 1, by rw [List.length_append, lowB_length]; exact h1, ?_⟩
        rw [if_neg (by rw [List.length_append, lowB_length]; exact h2), if_neg h2]
    · rw [if_neg h1, stream_row_put_r_spec _ ha x _ hx (by omega)]
      have h3 : ¬ a.length + 1 + (bitLen x - 1) ≤ 1048576 := by omega
      by_cases h2 : a.length + (bitLen x - 1) ≤ 1048576
      · refine ⟨a ++ lowB x (bitLen x - 1), by rw [List.length_append, lowB_length]; exact h2, ?_⟩
        rw [if_pos h2, if_neg h3]
      · refine ⟨a, ha, ?_⟩
        rw [if_neg h2, if_neg h3]
  rw [stream_row_gamma_r_unf]; unfold stream_row_gamma_r_B
  rw [word_Len_spec x hx, subW_i64 (by omega) (by omega), show ((bitLen x : Nat) : Int) - 1 = ((bitLen x - 1 : Nat) : Int) by omega, ← e0, stream_row_put_r_spec l h 0 _ (by decide) (by omega)]
  by_cases h1 : l.length + (bitLen x - 1) ≤ 1048576
  · rw [if_pos h1]
    obtain ⟨m, h2, h3⟩ := go (l ++ lowB 0 (bitLen x - 1)) true (by rw [List.length_append, lowB_length]; exact h1)
    refine ⟨m, h2, h3.trans ?_⟩
    rw [er]
    have : (l ++ lowB 0 (bitLen x - 1)).length + 1 + (bitLen x - 1) = l.length + (gammaB x).length := by rw [List.length_append, lowB_length, hl]; omega
    rw [this]
  · rw [if_neg h1]
    obtain ⟨m, h2, h3⟩ := go l false h
    have h4 : ¬ l.length + 1 + (bitLen x - 1) ≤ 1048576 := by omega
    have h5 : ¬ l.length + (gammaB x).length ≤ 1048576 := by omega
    refine ⟨m, h2, h3.trans ?_⟩
    rw [if_neg h4, if_neg h5]
/-- a code put behind a row -/
def putS (n : Int) (ws : List Nat) (c : List Bool) : Int × List Nat × Int :=
  if okRow n ws = true ∧ n + (c.length : Int) ≤ 1048576 then (n + (c.length : Int), wds (rowB n ws ++ c), 0) else (n, ws, 2)
theorem putS_wds (l c : List Bool) (h : l.length ≤ 1048576) : putS (l.length : Int) (wds l) c = if l.length + c.length ≤ 1048576 then (((l ++ c).length : Int), wds (l ++ c), 0) else ((l.length : Int), wds l, 2) := by
  unfold putS
  by_cases h1 : l.length + c.length ≤ 1048576
  · rw [if_pos ⟨okRow_of l h, by omega⟩, if_pos h1, rowB_wds, List.length_append, Int.natCast_add]
  · rw [if_neg (by omega), if_neg h1]
theorem stream_done (n : Int) (xs : List Int) (m : Int) (ys : List Int) (b : Bool) (K : Int → List Int → Int → Int → List Int → Bool → Option R) : stream_row_done_r n xs m ys b K = if b = true then K m ys 0 m ys b else K n xs 2 m ys b := by
  rw [stream_row_done_r_unf]; unfold stream_row_done_r_B
  cases b <;> rfl
theorem stream_PutGamma_spec (n : Int) (ws : List Nat) (hw : Ws ws) (x : Nat) (hx : x < 2 ^ 64) (K : Int → List Int → Int → Option R) :
    stream_PutGamma n (ci ws) (x : Int) K = (if x = 0 then K n (ci ws) 2 else K (putS n ws (gammaB x)).1 (ci (putS n ws (gammaB x)).2.1) (putS n ws (gammaB x)).2.2) := by
  have j5 : ∀ (n : Int) (xs : List Int) (q m : Int) (ys : List Int) (b : Bool) (K : Int → Int → List Int → Option R), stream_PutGamma_j5 n xs q m ys b K = if b = true then K 0 m ys else K 2 n xs := fun n xs q m ys b K => by
    rw [stream_PutGamma_j5_unf]; unfold stream_PutGamma_j5_B
    rw [stream_done]
  rw [stream_PutGamma_unf]; unfold stream_PutGamma_B
  rw [bits_Check_spec n ws hw]
  cases hok : okRow n ws with
  | false =>
    rw [Ev.sel_false, stream_PutGamma_j3_unf]; unfold stream_PutGamma_j3_B
    rw [Ev.sel_false, j5]
    simp [putS, hok]
  | true =>
    rw [Ev.sel_true, stream_PutGamma_j3_unf]; unfold stream_PutGamma_j3_B
    by_cases h0 : x = 0
    · rw [decide_eq_false (by omega), Ev.sel_false, j5, if_pos h0]; rfl
    · obtain ⟨l, rfl, rfl, hl⟩ := okRow_wds hok hw.1
      rw [decide_eq_true (by omega), Ev.sel_true, if_neg h0]
      obtain ⟨m, _, h2⟩ := stream_row_gamma_r_spec (R := R) l hl x h0 hx (fun n xs b => stream_PutGamma_j5 (l.length : Int) (ci (wds l)) 0 n xs b fun n xs ys => K xs ys n)
      refine h2.trans ?_
      rw [putS_wds l _ hl]
      simp only [j5]
      split <;> rfl
theorem stream_PutDelta_spec (n : Int) (ws : List Nat) (hw : Ws ws) (x : Nat) (hx : x < 2 ^ 64) (K : Int → List Int → Int → Option R) :
    stream_PutDelta n (ci ws) (x : Int) K = (if x = 0 then K n (ci ws) 2 else K (putS n ws (deltaB x)).1 (ci (putS n ws (deltaB x)).2.1) (putS n ws (deltaB x)).2.2) := by
  have j7 : ∀ (n : Int) (xs : List Int) (q m : Int) (ys : List Int) (b : Bool) (K : Int → Int → List Int → Option R), stream_PutDelta_j7 n xs q m ys b K = if b = true then K 0 m ys else K 2 n xs := fun n xs q m ys b K => by
    rw [stream_PutDelta_j7_unf]; unfold stream_PutDelta_j7_B
    rw [stream_done]
  rw [stream_PutDelta_unf]; unfold stream_PutDelta_B
  rw [bits_Check_spec n ws hw]
  cases hok : okRow n ws with
  | false =>
    rw [Ev.sel_false, stream_PutDelta_j3_unf]; unfold stream_PutDelta_j3_B
    rw [Ev.sel_false, j7]
    simp [putS, hok]
  | true =>
    rw [Ev.sel_true, stream_PutDelta_j3_unf]; unfold stream_PutDelta_j3_B
    by_cases h0 : x = 0
    · rw [decide_eq_false (by omega), Ev.sel_false, j7, if_pos h0]; rfl
    · obtain ⟨l, rfl, rfl, hl⟩ := okRow_wds hok hw.1
      have hp := bitLen_pos h0
      have h64 := bitLen_le hx
      have hp2 := bitLen_pos (x := bitLen x) (by omega)
      have hd := deltaB_length x
      have hg := gammaB_length (bitLen x)
      rw [decide_eq_true (by omega), Ev.sel_true, if_neg h0, word_Len_spec x hx, cvtW_u64 (by omega) (by omega)]
      obtain ⟨m, hm, h2⟩ := stream_row_gamma_r_spec (R := R) l hl (bitLen x) (by omega) (by omega) (fun n xs b => stream_row_put_r (x : Int) (subW .i64 ((bitLen x : Nat) : Int) 1) n xs b fun n xs b => stream_PutDelta_j7 (l.length : Int) (ci (wds l)) 0 n xs b fun n xs ys => K xs ys n)
      refine h2.trans ?_
      rw [putS_wds l _ hl, subW_i64 (by omega) (by omega), show ((bitLen x : Nat) : Int) - 1 = ((bitLen x - 1 : Nat) : Int) by omega]
      by_cases h3 : l.length + (gammaB (bitLen x)).length ≤ 1048576
      · rw [if_pos h3, stream_row_put_r_spec _ (by rw [List.length_append]; exact h3) x _ hx (by omega)]
        simp only [j7]
        by_cases h4 : l.length + (deltaB x).length ≤ 1048576
        · rw [if_pos (by rw [List.length_append]; omega), if_pos h4]
          have : l ++ gammaB (bitLen x) ++ lowB x (bitLen x - 1) = l ++ deltaB x := by unfold deltaB; simp
          rw [this]; rfl
        · rw [if_neg (by rw [List.length_append]; omega), if_neg h4]; rfl
      · rw [if_neg h3, if_neg (by omega), stream_row_put_r_spec _ hm x _ hx (by omega)]
        simp only [j7]
        split <;> rfl

/-! ### reading -/
theorem sliceS_nat (l : List Bool) (h : l.length ≤ 1048576) (a k : Nat) (hk : k ≤ 64) : sliceS (l.length : Int) (wds l) (a : Int) (k : Int) = if l.length < a + k then (0, 3) else (((sliceN (wds l) a k : Nat) : Int), 0) := by
  rw [sliceS_wds l h _ _ (by omega) (by omega), Int.toNat_natCast, Int.toNat_natCast]
  by_cases h1 : l.length < a + k
  · rw [if_pos h1, if_pos (by omega)]
  · rw [if_neg h1, if_neg (by omega)]
theorem stream_tail_spec (l : List Bool) (h : l.length ≤ 1048576) (a k : Nat) (ha : a ≤ 4000000000) (hk : k < 64) (K : Int → Int → Int → Option R) : stream_tail (l.length : Int) (ci (wds l)) (a : Int) (k : Int) K = K (tailS l a k).1 (tailS l a k).2.1 (tailS l a k).2.2 := by
  rw [stream_tail_unf]; unfold stream_tail_B
  rw [bits_Slice_spec _ _ (Ws.wds h) _ _ (by omega) (by omega), sliceS_nat l h a k (by omega)]
  unfold tailS
  by_cases h1 : l.length < a + k
  · rw [if_pos h1, if_pos h1]; rfl
  · rw [if_neg h1, if_neg h1]
    have hs := sliceN_lt (wds l) a k
    have hp : 2 ^ k < 2 ^ 64 := Nat.pow_lt_pow_right (by decide) hk
    simp only [decide_true, Bool.not_true, Ev.sel_false]
    rw [sel_pos (by omega), show (1 : Int) = ((1 : Nat) : Int) from rfl, shlW_u64 _ _ (by decide), Nat.one_mul, Nat.mod_eq_of_lt hp, orW_u64 _ _ (by omega) hp, addW_i64 (by omega) (by omega), ← Int.natCast_add]
    congr 2
    rw [← and_add_or]
    apply Nat.eq_of_testBit_eq
    intro i
    rw [Nat.testBit_and, Nat.testBit_two_pow, Nat.zero_testBit]
    by_cases e : k = i
    · subst e; rw [testBit_ge hs (Nat.le_refl _)]; rfl
    · simp [e]
theorem getS_nat (l : List Bool) (h : l.length ≤ 1048576) (i : Nat) : getS (l.length : Int) (wds l) (i : Int) = if l.length ≤ i then (false, 3) else (l.getD i false, 0) := by
  rw [getS_wds l h, Int.toNat_natCast]
  by_cases h1 : l.length ≤ i
  · rw [if_pos h1, if_pos (by omega)]
  · rw [if_neg h1, if_neg (by omega)]
theorem gammaS_step (l : List Bool) (a k : Nat) (h : k ≤ lead l a) (hk : k < 64) :
    gammaS l a = if l.length ≤ a + k then (0, 0, 160) else if l.getD (a + k) false = true then tailS l (a + k + 1) k else if k + 1 < 64 then gammaS l a else (0, 0, 161) := by
  by_cases h1 : l.length ≤ a + k
  · rw [if_pos h1]
    have e : lead l a = k := lead_eq hk (fun j hj => lead_low (by omega)) (.inl h1)
    unfold gammaS
    rw [e, if_neg (by omega), if_pos h1]
  · rw [if_neg h1]
    by_cases h2 : l.getD (a + k) false = true
    · rw [if_pos h2]
      have e : lead l a = k := lead_eq hk (fun j hj => lead_low (by omega)) (.inr h2)
      unfold gammaS
      rw [e, if_neg (by omega), if_neg h1]
    · rw [if_neg h2]
      split
      · rfl
      · have : lead l a = 64 := by
          have := lead_le l a
          apply Nat.le_antisymm this
          apply Nat.le_of_not_lt
          intro h5
          have e : lead l a = k := by omega
          rcases lead_end h5 with h6 | h6
          · rw [e] at h6; exact h1 h6
          · rw [e] at h6; exact h2 h6
        unfold gammaS
        rw [if_pos this]
theorem lead_next (l : List Bool) (a k : Nat) (h : k ≤ lead l a) (hk : k < 64) (h1 : ¬ l.length ≤ a + k) (h2 : ¬ l.getD (a + k) false = true) : k + 1 ≤ lead l a := by
  apply Nat.lt_of_le_of_ne h
  intro e
  rcases lead_end (l := l) (a := a) (by omega) with h6 | h6
  · rw [← e] at h6; exact h1 h6
  · rw [← e] at h6; exact h2 h6
theorem stream_Gamma_loop (l : List Bool) (h : l.length ≤ 1048576) (a : Nat) (ha : a ≤ 1048576) (K : Int → Int → Int → Option R) : ∀ (N k : Nat), k < 64 → 64 - k < N → k ≤ lead l a →
    stream_Gamma_g7_L K N (a : Int) (k : Int) (l.length : Int) (ci (wds l)) = K (gammaS l a).1 (gammaS l a).2.1 (gammaS l a).2.2
  | 0, _, _, h, _ => by omega
  | N + 1, k, hk, hN, hl => by
    simp only [stream_Gamma_g7_L, stream_Gamma_g7_T]
    rw [addW_i64 (by omega) (by omega), ← Int.natCast_add, bits_Get_spec _ _ (Ws.wds h) _ (by omega) (by omega), getS_nat l h, gammaS_step l a k hl hk]
    by_cases h1 : l.length ≤ a + k
    · rw [if_pos h1, if_pos h1]; rfl
    · rw [if_neg h1, if_neg h1]
      simp only [decide_true, Bool.not_true, Ev.sel_false]
      by_cases h2 : l.getD (a + k) false = true
      · rw [h2, Ev.sel_true, if_pos rfl, addW_i64 (by omega) (by omega), show ((a + k : Nat) : Int) + 1 = ((a + k + 1 : Nat) : Int) by omega, stream_tail_spec l h _ _ (by omega) (by omega)]
      · have h2' : l.getD (a + k) false = false := by cases h3 : l.getD (a + k) false <;> simp_all
        rw [if_neg h2, h2', Ev.sel_false, addW_i64 (by omega) (by omega)]
        by_cases h3 : k + 1 < 64
        · rw [sel_pos (by omega), if_pos h3, show (k : Int) + 1 = ((k + 1 : Nat) : Int) by omega]
          exact stream_Gamma_loop l h a ha K N (k + 1) h3 (by omega) (lead_next l a k hl hk h1 h2)
        · rw [sel_neg (by omega), if_neg h3]
/-- what reading a code of a row comes to -/
def readS (g : List Bool → Nat → Int × Int × Int) (n : Int) (ws : List Nat) (a : Int) : Int × Int × Int := if okRow n ws = true then (if a < 0 ∨ n < a then (0, 0, 3) else g (rowB n ws) a.toNat) else (0, 0, 2)
theorem readS_wds (g : List Bool → Nat → Int × Int × Int) (l : List Bool) (h : l.length ≤ 1048576) (a : Nat) (ha : a ≤ l.length) : readS g (l.length : Int) (wds l) (a : Int) = g l a := by
  unfold readS
  rw [if_pos (okRow_of l h), if_neg (by omega), rowB_wds, Int.toNat_natCast]
theorem stream_Gamma_spec (n : Int) (ws : List Nat) (hw : Ws ws) (a : Int) (K : Int → Int → Int → Option R) : stream_Gamma n (ci ws) a K = K (readS gammaS n ws a).1 (readS gammaS n ws a).2.1 (readS gammaS n ws a).2.2 := by
  have far : ∀ (K : Int → Int → Int → Option R) (K1 : Int → Int → List Int → Option R), stream_Gamma_j5 a true n (ci ws) K K1 = K 0 0 3 := fun K K1 => by
    rw [stream_Gamma_j5_unf]; unfold stream_Gamma_j5_B; rfl
  rw [stream_Gamma_unf]; unfold stream_Gamma_B
  rw [bits_Check_spec n ws hw]
  cases hok : okRow n ws with
  | false => simp [readS, hok, sel]
  | true =>
    obtain ⟨l, rfl, rfl, hl⟩ := okRow_wds hok hw.1
    rw [Bool.not_true, Ev.sel_false]
    by_cases h1 : a < 0
    · rw [sel_pos h1, far]; simp [readS, hok, h1]
    rw [sel_neg h1]
    by_cases h2 : (l.length : Int) < a
    · rw [decide_eq_true h2, far]; simp [readS, hok, h2]
    rw [decide_eq_false h2, stream_Gamma_j5_unf]; unfold stream_Gamma_j5_B
    obtain ⟨p, rfl⟩ : ∃ p : Nat, a = (p : Int) := ⟨a.toNat, by omega⟩
    have hp : p ≤ l.length := by omega
    rw [Ev.sel_false, readS_wds _ l hl p hp]
    show stream_Gamma_j6 _ _ _ _ _ = _
    rw [stream_Gamma_j6_unf]; unfold stream_Gamma_j6_B
    rw [addW_i64 (by omega) (by omega), Int.add_zero, bits_Get_spec _ _ (Ws.wds hl) _ (by omega) (by omega), getS_nat l hl, gammaS_step l p 0 (Nat.zero_le _) (by decide)]
    simp only [Nat.add_zero]
    by_cases h3 : l.length ≤ p
    · rw [if_pos h3, if_pos h3]; rfl
    · rw [if_neg h3, if_neg h3]
      simp only [decide_true, Bool.not_true, Ev.sel_false]
      by_cases h4 : l.getD p false = true
      · rw [h4, Ev.sel_true, if_pos rfl, addW_i64 (by omega) (by omega), show (p : Int) + 1 = ((p + 1 : Nat) : Int) by omega, show (0 : Int) = ((0 : Nat) : Int) from rfl, stream_tail_spec l hl _ _ (by omega) (by omega)]
      · have h4' : l.getD p false = false := by cases h5 : l.getD p false <;> simp_all
        rw [if_neg h4, h4', Ev.sel_false, addW_i64 (by omega) (by omega), sel_pos (by omega), if_pos (by omega)]
        show stream_Gamma_g7 _ _ _ _ _ = _
        rw [stream_Gamma_g7_unf]; unfold stream_Gamma_g7_B
        exact stream_Gamma_loop l hl p (by omega) K NR 1 (by omega) (by have := NR_lt; omega) (lead_next l p 0 (Nat.zero_le _) (by decide) h3 h4)
theorem gammaS_pos {l : List Bool} {a x nx : Nat} (h : gammaS l a = ((x : Int), (nx : Int), 0)) : 0 < x ∧ nx ≤ l.length := by
  obtain ⟨h1, _, h3, h4⟩ := gamma_once h
  exact ⟨by omega, by have := h4.1; omega⟩
theorem stream_Delta_spec (n : Int) (ws : List Nat) (hw : Ws ws) (a : Int) (K : Int → Int → Int → Option R) : stream_Delta n (ci ws) a K = K (readS deltaS n ws a).1 (readS deltaS n ws a).2.1 (readS deltaS n ws a).2.2 := by
  rw [stream_Delta_unf]; unfold stream_Delta_B
  rw [stream_Gamma_spec n ws hw]
  unfold readS
  cases hok : okRow n ws with
  | false => simp [sel]
  | true =>
    obtain ⟨l, rfl, rfl, hl⟩ := okRow_wds hok hw.1
    simp only [if_true]
    by_cases h1 : a < 0 ∨ (l.length : Int) < a
    · rw [if_pos h1, if_pos h1]; rfl
    · rw [if_neg h1, if_neg h1, rowB_wds]
      unfold deltaS
      rcases gammaS_ok l a.toNat with h | h | ⟨x, nx, h⟩
      · rw [h]; rfl
      · rw [h]; rfl
      · obtain ⟨h3, h4⟩ := gammaS_pos h
        rw [h]
        simp only [decide_true, Bool.not_true, Ev.sel_false, ne_eq, not_true_eq_false, if_false, Int.toNat_natCast]
        by_cases h5 : (64 : Int) < (x : Int)
        · rw [sel_pos h5, if_pos h5]
        · rw [sel_neg h5, if_neg h5, cvtW_i64 (by omega) (by omega), subW_i64 (by omega) (by omega), show (x : Int) - 1 = ((x - 1 : Nat) : Int) by omega, stream_tail_spec l hl _ _ (by omega) (by omega)]
/-! ### sizes -/
def sizeS (x : Nat) (long : Bool) : Nat := if x = 0 then 0 else if long then (deltaB x).length else (gammaB x).length
theorem stream_Size_spec (x : Nat) (hx : x < 2 ^ 64) (long : Bool) (K : Int → Option R) : stream_Size (x : Int) long K = K ((sizeS x long : Nat) : Int) := by
  have h64 := bitLen_le hx
  rw [stream_Size_unf]; unfold stream_Size_B sizeS
  rw [word_Len_spec x hx]
  by_cases h0 : x = 0
  · subst h0
    rw [sel_pos (by rw [bitLen_zero]; rfl), if_pos rfl]; rfl
  · have hp := bitLen_pos h0
    rw [sel_neg (by omega), if_neg h0]
    cases long with
    | false =>
      rw [Ev.sel_false, mulW_i64 (by omega) (by omega), subW_i64 (by omega) (by omega), if_neg (by decide), gammaB_length]
      congr 1; omega
    | true =>
      have hp2 := bitLen_pos (x := bitLen x) (by omega)
      have h7 : bitLen (bitLen x) ≤ 7 := bitLen_le (by omega)
      rw [Ev.sel_true, cvtW_u64 (by omega) (by omega), stream_Size_d_unf]; unfold stream_Size_d_B
      rw [word_Len_spec _ (by omega), sel_neg (by omega), Ev.sel_false, mulW_i64 (by omega) (by omega), subW_i64 (by omega) (by omega)]
      dsimp only
      rw [addW_i64 (by omega) (by omega), subW_i64 (by omega) (by omega), if_pos rfl, deltaB_length]
      congr 1; omega
end
end Go.Proofs.Ytkjadjdcbpiebaa
