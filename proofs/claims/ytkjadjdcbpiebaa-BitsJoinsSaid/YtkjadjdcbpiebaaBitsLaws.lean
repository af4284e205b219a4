/- Layer 2: the laws of rows of bits are true, whatever the input. -/
import Derived.Test.YtkjadjdcbpiebaaBitsD
namespace Go.Proofs.Ytkjadjdcbpiebaa
open Go Go.Ev
section
variable {R : Type}
theorem heads02_spec (K : Bool → Option R) : haystacklaw02_heads K = K true := by
  have w0 : Ws [] := Ws.nil
  have w5 : Ws [5] := ⟨by decide, by decide⟩
  have w7 : Ws [7] := ⟨by decide, by decide⟩
  have w61 : Ws [61] := ⟨by decide, by decide⟩
  have a1 : appendS 0 [] 5 3 = (3, [5], 0) := by decide +kernel
  have a2 : setS 3 [5] 1 true = (3, [7], 0) := by decide +kernel
  have a3 : sliceS 3 [7] 1 2 = (3, 0) := by decide +kernel
  have a4 : getS 3 [7] 3 = (false, 3) := by decide +kernel
  have a5 : joinS 3 [5] 3 [7] = (6, [61], 0) := by decide +kernel
  have a6 : newS (-1) = (0, [], 2) := by decide +kernel
  have a7 : getS 3 [5] 2 = (true, 0) := by decide +kernel
  have a8 : okRow 6 [61] = true := by decide +kernel
  have a9 : okRow 1 [] = false := by decide +kernel
  have a10 : onesS 3 [5] 9 = 2 := by decide +kernel
  have a11 : wds [true, false, true] = [5] := by decide +kernel
  rw [haystacklaw02_heads_unf]; unfold haystacklaw02_heads_B
  rw [ci_nil, show (5 : Int) = ((5 : Nat) : Int) from rfl, bits_Append_spec 0 [] w0 5 (by decide), a1]
  simp only []
  rw [bits_Set_spec 3 [5] w5 1 (by decide) (by decide), a2]
  simp only []
  rw [bits_Slice_spec 3 [7] w7 1 2 (by decide) (by decide), a3]
  simp only []
  rw [bits_Get_spec 3 [7] w7 3 (by decide) (by decide), a4]
  simp only []
  rw [bits_Join_spec 3 [5] w5 3 [7] w7, a5]
  simp only []
  rw [bits_New_spec, a6]
  simp only []
  rw [bits_From_r_spec [true, false, true] (by decide) 3 rfl, if_neg (by decide)]
  rw [bits_Get_spec 3 [5] w5 2 (by decide) (by decide), a7]
  simp only []
  simp only [decide_true, Ev.sel_true]
  rw [sel_pos (show (((ci [5]).length : Nat) : Int) = 1 from rfl), sel_pos (show (0 : Int) < (((ci [5]).length : Nat) : Int) by decide), sel_pos (show (ci [5]).getD (Int.toNat 0) 0 = ((5 : Nat) : Int) from rfl), a11, haystackref02_Same_r_spec _ _ _ _ (by decide) _ (by rfl)]
  rw [sel_pos ⟨rfl, rfl⟩, bits_Check_spec 6 [61] w61, a8, Ev.sel_true, bits_Check_spec 1 [] w0, a9, Bool.not_false, Ev.sel_true, bits_Ones_spec 3 [5] w5, a10]
  rfl

theorem small02_spec (n : Int) (xs : List Int) (K : Bool → Option R) : haystacklaw02_small n xs K = K (decide (n ≤ 5000 ∧ xs.length ≤ 5000)) := by
  rw [haystacklaw02_small_unf]; unfold haystacklaw02_small_B
  by_cases h : n ≤ 5000
  · rw [sel_pos h]; congr 1; rw [decide_eq_decide]; omega
  · rw [sel_neg h]; simp [h]

/-- what is told of a right row -/
theorem getS_wds (l : List Bool) (h : l.length ≤ 1048576) (i : Int) : getS (l.length : Int) (wds l) i = if i < 0 ∨ (l.length : Int) ≤ i then (false, 3) else (l.getD i.toNat false, 0) := by
  unfold getS; rw [if_pos (okRow_of l h), bitAt_wds]
theorem onesS_wds (l : List Bool) (h : l.length ≤ 1048576) (k : Nat) (hk : k ≤ l.length) : onesS (l.length : Int) (wds l) (k : Int) = ((cntB (l.take k) : Nat) : Int) := by
  unfold onesS; rw [if_pos (okRow_of l h), ← pcb_take]
  congr 2; omega
theorem cntB_append (a b : List Bool) : cntB (a ++ b) = cntB a + cntB b := by simp [cntB]
theorem cntB_le (a : List Bool) : cntB a ≤ a.length := List.length_filter_le _ _
theorem cntB_take_succ (l : List Bool) (i : Nat) : cntB (l.take (i + 1)) = cntB (l.take i) + (l.getD i false).toNat := by
  rw [← pcb_take, ← pcb_take]; simp only [pcb, bitAt_wds]
theorem cntB_take_le (l : List Bool) (i : Nat) : cntB (l.take i) ≤ cntB l := by
  have h := cntB_append (l.take i) (l.drop i)
  rw [List.take_append_drop] at h
  omega

/-- a law speaks of short rows that may be: what is left is to be shown of bits -/
theorem guard02 {n : Int} {ws : List Nat} (hw : ∀ w ∈ ws, w < 2 ^ 64) {X : Option R} {K : Bool → Option R}
    (H : ∀ l : List Bool, n = (l.length : Int) → ws = wds l → l.length ≤ 5000 → X = K true) :
    haystacklaw02_small n (ci ws) (fun b => sel (!b) (haystacklaw02_heads fun b => K b) (bits_Check n (ci ws) fun b => sel (!b) (haystacklaw02_heads fun b => K b) X)) = K true := by
  rw [small02_spec, ci_length]
  by_cases h1 : n ≤ 5000 ∧ ws.length ≤ 5000
  · have hW : Ws ws := ⟨hw, by omega⟩
    rw [decide_eq_true h1, Bool.not_true, Ev.sel_false, bits_Check_spec n ws hW]
    cases hok : okRow n ws with
    | false => rw [Bool.not_false, Ev.sel_true, heads02_spec]
    | true =>
      obtain ⟨l, h2, h3, h4⟩ := okRow_wds hok hw
      rw [Bool.not_true, Ev.sel_false]
      exact H l h2 h3 (by omega)
  · rw [decide_eq_false h1, Bool.not_false, Ev.sel_true, heads02_spec]

theorem BitsCounts_true (n : Int) (ws : List Nat) (hw : ∀ w ∈ ws, w < 2 ^ 64) (i : Int) (K : Bool → Option R) : haystacklaw02_BitsCounts n (ci ws) i K = K true := by
  rw [haystacklaw02_BitsCounts_unf]; unfold haystacklaw02_BitsCounts_B
  refine guard02 hw fun l h1 h2 h3 => ?_
  subst h1 h2
  by_cases h4 : i < 0
  · rw [sel_pos h4, heads02_spec]
  rw [sel_neg h4]
  by_cases h5 : (l.length : Int) ≤ i
  · rw [sel_pos h5, heads02_spec]
  rw [sel_neg h5]
  obtain ⟨q, rfl⟩ : ∃ q : Nat, i = (q : Int) := ⟨i.toNat, by omega⟩
  have hW := Ws.wds (l := l) (by omega)
  have e1 := onesS_wds l (by omega) q (by omega)
  have e2 := onesS_wds l (by omega) (q + 1) (by omega)
  have e3 := onesS_wds l (by omega) l.length (by omega)
  rw [List.take_length] at e3
  have e4 := cntB_take_succ l q
  have e5 := cntB_take_le l (q + 1)
  have e6 := cntB_le (l.take q)
  have e7 : (l.take q).length ≤ q := by simp; omega
  have e8 := cntB_le l
  show haystacklaw02_BitsCounts_j4 _ _ _ _ = _
  rw [haystacklaw02_BitsCounts_j4_unf]; unfold haystacklaw02_BitsCounts_j4_B
  rw [bits_Get_spec _ _ hW _ (by omega) (by omega), getS_wds l (by omega), if_neg (by omega), Int.toNat_natCast, bits_Ones_spec _ _ hW, addW_i64 (by omega) (by omega), bits_Ones_spec _ _ hW, e1, show (q : Int) + 1 = ((q + 1 : Nat) : Int) by omega, e2, sel_pos rfl, subW_i64 (by omega) (by omega)]
  cases hb : l.getD q false with
  | true =>
    rw [hb, Bool.toNat_true] at e4
    rw [decide_eq_true (show ((cntB (l.take (q + 1)) : Nat) : Int) - ((cntB (l.take q) : Nat) : Int) = 1 by omega), decide_eq_false (show ¬ ((cntB (l.take (q + 1)) : Nat) : Int) - ((cntB (l.take q) : Nat) : Int) = 0 by omega)]
    rw [show (true == true) = true from rfl, show (false == !true) = true from rfl, Ev.sel_true, Ev.sel_true, sel_pos (by omega), bits_Ones_spec _ _ hW, e3, sel_pos (by omega), heads02_spec]
  | false =>
    rw [hb, Bool.toNat_false] at e4
    rw [decide_eq_false (show ¬ ((cntB (l.take (q + 1)) : Nat) : Int) - ((cntB (l.take q) : Nat) : Int) = 1 by omega), decide_eq_true (show ((cntB (l.take (q + 1)) : Nat) : Int) - ((cntB (l.take q) : Nat) : Int) = 0 by omega)]
    rw [show (false == false) = true from rfl, show (true == !false) = true from rfl, Ev.sel_true, Ev.sel_true, sel_pos (by omega), bits_Ones_spec _ _ hW, e3, sel_pos (by omega), heads02_spec]

abbrev rowC : List Sh := [.int .i64, .ints .u64]
theorem row_has {v : AV} (h : Pa.has (.st rowC) v) : ∃ (n : Int) (ws : List Nat), v = .agg (.any [.int .i64 n, .fsl (.ints .u64 (ci ws))]) ∧ (-9223372036854775808 ≤ n ∧ n ≤ 9223372036854775807) ∧ ∀ w ∈ ws, w < 2 ^ 64 := by
  obtain ⟨_, rfl, _, _, rfl, ⟨n, rfl, hn⟩, _, _, rfl, ⟨xs, rfl, _, hx⟩, rfl⟩ := h
  obtain ⟨ws, rfl, hw⟩ := ci_of (xs := xs) fun x h => by
    exact has_u64 (hx x h)
  exact ⟨n, ws, rfl, has_i64 hn, hw⟩
abbrev BitsCounts_pas : List Pa := [.st rowC, .one (.int .i64)]
theorem BitsCounts_law : ∀ vs, pasHas BitsCounts_pas vs → sp3 vs AV some = some (.bool true) := by
  rintro vs ⟨_, _, rfl, hr, _, _, rfl, ⟨i, rfl, _⟩, rfl⟩
  obtain ⟨n, ws, rfl, _, hw⟩ := row_has hr
  exact BitsCounts_true n ws hw i _

theorem sliceS_wds (l : List Bool) (h : l.length ≤ 1048576) (a k : Int) (h1 : 0 ≤ k) (h2 : k ≤ 64) : sliceS (l.length : Int) (wds l) a k = if a < 0 ∨ (l.length : Int) < a ∨ (l.length : Int) - a < k then (0, 3) else (((sliceN (wds l) a.toNat k.toNat : Nat) : Int), 0) := by
  unfold sliceS; rw [if_pos ⟨okRow_of l h, by omega⟩]
theorem sliceN_split (ws : List Nat) (a n m : Nat) (h : n + m ≤ 64) : sliceN ws a (n + m) = sliceN ws a n ||| (sliceN ws (a + n) m * 2 ^ n % 2 ^ 64) := by
  apply Nat.eq_of_testBit_eq
  intro i
  rw [Nat.testBit_or, Nat.testBit_mod_two_pow, Nat.testBit_mul_two_pow, sliceN_bit, sliceN_bit, sliceN_bit]
  by_cases h1 : i < n
  · have a1 : i < n + m := by omega
    have a2 : ¬ n ≤ i := by omega
    simp [h1, a1, a2]
  · by_cases h2 : i < n + m
    · have a1 : n ≤ i := by omega
      have a2 : i - n < m := by omega
      have a3 : i < 64 := by omega
      simp only [h1, h2, a1, a2, a3, decide_true, decide_false, Bool.true_and, Bool.false_and, Bool.false_or]
      congr 1; omega
    · have a2 : ¬ i - n < m := by omega
      simp [h1, h2, a2]

theorem BitsSplits_true (n : Int) (ws : List Nat) (hw : ∀ w ∈ ws, w < 2 ^ 64) (a k m : Int) (K : Bool → Option R) : haystacklaw02_BitsSplits n (ci ws) a k m K = K true := by
  rw [haystacklaw02_BitsSplits_unf]; unfold haystacklaw02_BitsSplits_B
  refine guard02 hw fun l h1 h2 h3 => ?_
  subst h1 h2
  by_cases h4 : k < 0
  · rw [sel_pos h4, heads02_spec]
  rw [sel_neg h4]
  by_cases h5 : m < 0
  · rw [sel_pos h5, heads02_spec]
  rw [sel_neg h5]
  by_cases h6 : 64 < k
  · rw [sel_pos h6, heads02_spec]
  rw [sel_neg h6, subW_i64 (by omega) (by omega)]
  by_cases h7 : 64 - k < m
  · rw [sel_pos h7, heads02_spec]
  rw [sel_neg h7]
  by_cases h8 : a < 0
  · rw [sel_pos h8, heads02_spec]
  rw [sel_neg h8]
  by_cases h9 : (l.length : Int) < a
  · rw [sel_pos h9, heads02_spec]
  rw [sel_neg h9]
  have hW := Ws.wds (l := l) (by omega)
  show haystacklaw02_BitsSplits_j4 _ _ _ _ _ _ = _
  rw [haystacklaw02_BitsSplits_j4_unf]; unfold haystacklaw02_BitsSplits_j4_B
  rw [addW_i64 (by omega) (by omega), addW_i64 (by omega) (by omega), bits_Slice_spec _ _ hW _ _ (by omega) (by omega), bits_Slice_spec _ _ hW _ _ (by omega) (by omega), bits_Slice_spec _ _ hW _ _ (by omega) (by omega),
    sliceS_wds l (by omega) _ _ (by omega) (by omega), sliceS_wds l (by omega) _ _ (by omega) (by omega), sliceS_wds l (by omega) _ _ (by omega) (by omega)]
  by_cases c1 : (l.length : Int) - a < k + m
  · rw [if_pos (.inr (.inr c1))]
    simp only [show ¬ ((3 : Int) = 0) by decide, decide_false, Bool.not_false, Ev.sel_true]
    by_cases c2 : (l.length : Int) - a < k
    · rw [if_pos (.inr (.inr c2))]
      simp only [show ¬ ((3 : Int) = 0) by decide, decide_false, Bool.not_false, Ev.sel_true, heads02_spec]
    · rw [if_neg (by omega), if_pos (show a + k < 0 ∨ (l.length : Int) < a + k ∨ (l.length : Int) - (a + k) < m by omega)]
      simp only [show ¬ ((3 : Int) = 0) by decide, decide_true, decide_false, Bool.not_false, Bool.not_true, Ev.sel_true, Ev.sel_false, heads02_spec]
  · rw [if_neg (by omega), if_neg (show ¬ (a < 0 ∨ (l.length : Int) < a ∨ (l.length : Int) - a < k) by omega), if_neg (show ¬ (a + k < 0 ∨ (l.length : Int) < a + k ∨ (l.length : Int) - (a + k) < m) by omega)]
    simp only [decide_true, Bool.not_true, Ev.sel_false, Ev.sel_true]
    obtain ⟨p, rfl⟩ : ∃ p : Nat, a = (p : Int) := ⟨a.toNat, by omega⟩
    obtain ⟨q, rfl⟩ : ∃ q : Nat, k = (q : Int) := ⟨k.toNat, by omega⟩
    obtain ⟨r, rfl⟩ : ∃ r : Nat, m = (r : Int) := ⟨m.toNat, by omega⟩
    simp only [← Int.natCast_add, Int.toNat_natCast]
    by_cases c3 : (q : Int) = 64
    · have hr : r = 0 := by omega
      subst hr
      rw [sel_pos c3, sel_pos (by rfl), sel_pos (by rfl), heads02_spec]
    · have hs := sliceN_split (wds l) p q r (by omega)
      have l1 : ∀ a k, k ≤ 64 → sliceN (wds l) a k < 2 ^ 64 := fun a k hk => Nat.lt_of_lt_of_le (sliceN_lt _ a k) (Nat.pow_le_pow_right (by decide) hk)
      rw [sel_neg c3, cvtW_u64 (by omega) (by omega), sel_pos (by omega)]
      refine (sel_pos ?_).trans (heads02_spec _)
      rw [shlW_u64 _ _ (l1 _ _ (by omega)), orW_u64 _ _ (l1 _ _ (by omega)) (Nat.mod_lt _ (by decide)), ← hs]
abbrev BitsSplits_pas : List Pa := [.st rowC, .one (.int .i64), .one (.int .i64), .one (.int .i64)]
theorem BitsSplits_law : ∀ vs, pasHas BitsSplits_pas vs → sp4 vs AV some = some (.bool true) := by
  rintro vs ⟨_, _, rfl, hr, _, _, rfl, ⟨i, rfl, _⟩, _, _, rfl, ⟨k, rfl, _⟩, _, _, rfl, ⟨m, rfl, _⟩, rfl⟩
  obtain ⟨n, ws, rfl, _, hw⟩ := row_has hr
  exact BitsSplits_true n ws hw i k m _

theorem BitsBack_true (n : Int) (ws : List Nat) (hw : ∀ w ∈ ws, w < 2 ^ 64) (x : Nat) (hx : x < 2 ^ 64) (k i : Int) (hi1 : -9223372036854775808 ≤ i) (hi2 : i ≤ 9223372036854775807) (K : Bool → Option R) : haystacklaw02_BitsBack n (ci ws) (x : Int) k i K = K true := by
  rw [haystacklaw02_BitsBack_unf]; unfold haystacklaw02_BitsBack_B
  refine guard02 hw fun l h1 h2 h3 => ?_
  subst h1 h2
  by_cases h4 : k < 0
  · rw [sel_pos h4, heads02_spec]
  rw [sel_neg h4]
  by_cases h6 : 64 < k
  · rw [sel_pos h6, heads02_spec]
  rw [sel_neg h6]
  have hW := Ws.wds (l := l) (by omega)
  obtain ⟨q, rfl⟩ : ∃ q : Nat, k = (q : Int) := ⟨k.toNat, by omega⟩
  have hlen : (l ++ lowB x q).length = l.length + q := by simp [lowB_length]
  have hW2 := Ws.wds (l := l ++ lowB x q) (by omega)
  have ea : appendS (l.length : Int) (wds l) x (q : Int) = ((((l ++ lowB x q).length : Nat) : Int), wds (l ++ lowB x q), (0 : Int)) := by
    unfold appendS
    rw [if_pos ⟨okRow_of l (by omega), by omega, by omega⟩, rowB_wds, Int.toNat_natCast, hlen, Int.natCast_add]
  have es : sliceN (wds (l ++ lowB x q)) l.length q = x % 2 ^ q := by
    apply Nat.eq_of_testBit_eq
    intro j
    rw [sliceN_bit, Nat.testBit_mod_two_pow, bitAt_wds, getD_append, if_neg (by omega), lowB_getD, show l.length + j - l.length = j by omega]
    cases decide (j < q) <;> simp
  have j9 : ∀ (w : Int), w = ((x % 2 ^ q : Nat) : Int) → haystacklaw02_BitsBack_j9 (q : Int) i 0 ((x % 2 ^ q : Nat) : Int) 0 w (l.length : Int) (ci (wds l)) ((l ++ lowB x q).length : Int) (ci (wds (l ++ lowB x q))) (fun b => K b) = K true := fun w hw => by
    subst hw
    rw [haystacklaw02_BitsBack_j9_unf]; unfold haystacklaw02_BitsBack_j9_B
    rw [bits_Get_spec _ _ hW _ hi1 hi2, bits_Get_spec _ _ hW2 _ hi1 hi2, sel_pos rfl, sel_pos rfl, sel_pos rfl, bits_Check_spec _ _ hW2, okRow_of _ (by omega), Ev.sel_true, addW_i64 (by omega) (by omega), sel_pos (by omega)]
    by_cases c1 : i < 0
    · rw [sel_pos c1, heads02_spec]
    rw [sel_neg c1]
    by_cases c2 : (l.length : Int) ≤ i
    · rw [sel_pos c2, heads02_spec]
    rw [sel_neg c2, getS_wds l (by omega), getS_wds _ (by omega), if_neg (by omega), if_neg (by omega), sel_pos rfl, sel_pos rfl]
    simp only []
    rw [getD_append, if_pos (by omega), beq_self_eq_true, Ev.sel_true, heads02_spec]
  show haystacklaw02_BitsBack_j4 _ _ _ _ _ _ = _
  rw [haystacklaw02_BitsBack_j4_unf]; unfold haystacklaw02_BitsBack_j4_B
  rw [bits_Append_spec _ _ hW x hx, ea]
  simp only []
  rw [bits_Slice_spec _ _ hW2 _ _ (by omega) (by omega), sliceS_wds _ (by omega) _ _ (by omega) (by omega), if_neg (by omega)]
  simp only [Int.toNat_natCast, es]
  by_cases c1 : (q : Int) < 64
  · have hp : 2 ^ q < 2 ^ 64 := Nat.pow_lt_pow_right (by decide) (by omega)
    have hp0 : 0 < 2 ^ q := Nat.two_pow_pos q
    rw [sel_pos c1, cvtW_u64 (by omega) (by omega), sel_pos (by omega), show (1 : Int) = ((1 : Nat) : Int) from rfl, shlW_u64 _ _ (by decide), Nat.one_mul, Nat.mod_eq_of_lt hp, subW_u64 (by omega) (by omega), show ((2 ^ q : Nat) : Int) - ((1 : Nat) : Int) = ((2 ^ q - 1 : Nat) : Int) by omega, andW_u64 _ _ hx (by omega)]
    exact j9 _ (by rw [Nat.and_two_pow_sub_one_eq_mod])
  · have : q = 64 := by omega
    rw [sel_neg c1]
    exact j9 _ (by rw [this, Nat.mod_eq_of_lt hx])
abbrev BitsBack_pas : List Pa := [.st rowC, .one (.int .u64), .one (.int .i64), .one (.int .i64)]
theorem BitsBack_law : ∀ vs, pasHas BitsBack_pas vs → sp6 vs AV some = some (.bool true) := by
  rintro vs ⟨_, _, rfl, hr, _, _, rfl, ⟨x, rfl, hx⟩, _, _, rfl, ⟨k, rfl, _⟩, _, _, rfl, ⟨i, rfl, hi⟩, rfl⟩
  obtain ⟨n, ws, rfl, _, hw⟩ := row_has hr
  obtain ⟨y, rfl, hy⟩ := nat_u64 hx
  exact BitsBack_true n ws hw y hy k i (has_i64 hi).1 (has_i64 hi).2 _
end
end Go.Proofs.Ytkjadjdcbpiebaa
