/- Layer 2: the law of what rows become is true, whatever the input. -/
import Derived.Test.YtkjadjdcbpiebaaBitsRefB
import Derived.Test.YtkjadjdcbpiebaaBitsRefC
namespace Go.Proofs.Ytkjadjdcbpiebaa
open Go Go.Ev
section
variable {R : Type}
theorem heads02n_spec (K : Bool → Option R) : haystacklaw02_heads K = K true := by
  have w0 : Ws [] := Ws.nil
  have w5 : Ws [5] := ⟨by decide, by decide⟩
  have w7 : Ws [7] := ⟨by decide, by decide⟩
  have w61 : Ws [61] := ⟨by decide, by decide⟩
  have a1 : appendS 0 [] 5 3 = (3, [5], 0) := by decide +kernel
  have a2 : setS 3 [5] 1 true = (3, [7], 0) := by decide +kernel
  have a3 : sliceS 3 [7] 1 2 = (3, 0) := by decide +kernel
  have a4 : getS 3 [7] 3 = (false, 3) := by decide +kernel
  have a5 : joinS 3 [5] 3 [7] = (6, [61], 0) := by decide +kernel
  have a6 : newS (-1) = (0, [], 2) := by decide +kernel
  have a7 : getS 3 [5] 2 = (true, 0) := by decide +kernel
  have a8 : okRow 6 [61] = true := by decide +kernel
  have a9 : okRow 1 [] = false := by decide +kernel
  have a10 : onesS 3 [5] 9 = 2 := by decide +kernel
  have a11 : wds [true, false, true] = [5] := by decide +kernel
  have c1 : ∀ K : Bool → Option R, bits_Check 1 [] K = K false := fun K => (bits_Check_spec 1 [] w0 K).trans (by rw [a9])
  rw [haystacklaw02_heads_unf]; unfold haystacklaw02_heads_B
  rw [ci_nil, show (5 : Int) = ((5 : Nat) : Int) from rfl, bits_Append_spec 0 [] w0 5 (by decide), a1]
  simp only []
  rw [bits_Set_spec 3 [5] w5 1 (by decide) (by decide), a2]
  simp only []
  rw [bits_Slice_spec 3 [7] w7 1 2 (by decide) (by decide), a3]
  simp only []
  rw [bits_Get_spec 3 [7] w7 3 (by decide) (by decide), a4]
  simp only []
  rw [bits_Join_spec 3 [5] w5 3 [7] w7, a5]
  simp only []
  rw [bits_New_spec, a6]
  simp only []
  rw [haystacklaw02_heads_j8_unf]; unfold haystacklaw02_heads_j8_B
  rw [bits_From_r_spec [true, false, true] (by decide) 3 rfl, if_neg (by decide), a11]
  rw [sel_pos (by rfl), bits_Get_spec 3 [5] w5 2 (by decide) (by decide), a7]
  simp only [decide_true, Ev.sel_true]
  rw [sel_pos (by rfl), sel_pos (show (0 : Int) < (((ci [5]).length : Nat) : Int) by decide), sel_pos (show (ci [5]).getD (Int.toNat 0) 0 = 5 from rfl), haystackref02_Same_spec _ _ _ _ (by decide)]
  rw [sel_pos ⟨rfl, rfl⟩, bits_Check_spec 6 [61] w61, a8, Ev.sel_true, c1, Bool.not_false, Ev.sel_true, bits_Ones_spec 3 [5] w5, a10]
  rfl
theorem small02n_spec (n : Int) (xs : List Int) (K : Bool → Option R) : haystacklaw02_small n xs K = K (decide (n ≤ 5000 ∧ xs.length ≤ 5000)) := by
  rw [haystacklaw02_small_unf]; unfold haystacklaw02_small_B
  by_cases h : n ≤ 5000
  · rw [sel_pos h]; congr 1; rw [decide_eq_decide]; omega
  · rw [sel_neg h]; simp [h]
theorem bitsOf_len (ws : List Nat) (n : Nat) : (bitsOf ws n).length = n := by simp [bitsOf]
theorem setS_len {n : Int} {ws : List Nat} (h : ws.length ≤ 5000) (i : Int) (b : Bool) : (setS n ws i b).2.1.length < 4000000000 := by
  unfold setS
  split
  · rename_i h1
    have := okRow_len h1
    split
    · show ws.length < _; omega
    · show (wds _).length < _
      rw [wds_length, List.length_set]; unfold rowB; rw [bitsOf_len]; omega
  · show ws.length < _; omega
theorem appendS_len {n : Int} {ws : List Nat} (h : ws.length ≤ 5000) (x : Nat) (k : Int) : (appendS n ws x k).2.1.length < 4000000000 := by
  unfold appendS
  split
  · rename_i h1
    have := okRow_len h1.1
    show (wds _).length < _
    rw [wds_length, List.length_append, lowB_length]; unfold rowB; rw [bitsOf_len]; omega
  · show ws.length < _; omega
theorem joinS_len {n m : Int} {ws vs : List Nat} (h : ws.length ≤ 5000) : (joinS n ws m vs).2.1.length < 4000000000 := by
  unfold joinS
  split
  · rename_i h1
    have := okRow_len h1.1
    have := okRow_len h1.2.1
    show (wds _).length < _
    rw [wds_length, List.length_append]; unfold rowB; rw [bitsOf_len, bitsOf_len]; omega
  · show ws.length < _; omega
theorem BitsBecome_true (n : Int) (ws : List Nat) (hw : ∀ w ∈ ws, w < 2 ^ 64) (m : Int) (vs : List Nat) (hv : ∀ w ∈ vs, w < 2 ^ 64) (i : Int) (hi1 : -9223372036854775808 ≤ i) (hi2 : i ≤ 9223372036854775807) (x : Nat) (hx : x < 2 ^ 64) (k : Int) (K : Bool → Option R) :
    haystacklaw02_BitsBecome n (ci ws) m (ci vs) i (x : Int) k K = K true := by
  rw [haystacklaw02_BitsBecome_unf]; unfold haystacklaw02_BitsBecome_B
  rw [small02n_spec, ci_length]
  by_cases h1 : n ≤ 5000 ∧ ws.length ≤ 5000
  case neg => rw [decide_eq_false h1, Bool.not_false, Ev.sel_true, heads02n_spec]
  rw [decide_eq_true h1, Bool.not_true, Ev.sel_false, small02n_spec, ci_length]
  by_cases h2 : m ≤ 5000 ∧ vs.length ≤ 5000
  case neg => rw [decide_eq_false h2, Bool.not_false, Ev.sel_true, heads02n_spec]
  have hW : Ws ws := ⟨hw, by omega⟩
  have hV : Ws vs := ⟨hv, by omega⟩
  rw [decide_eq_true h2, Bool.not_true, Ev.sel_false, haystacklaw02_BitsBecome_j4_unf]
  unfold haystacklaw02_BitsBecome_j4_B
  rw [ci_length, sel_pos (by omega), sel_pos rfl, haystacklaw02_BitsBecome_j5_unf]
  unfold haystacklaw02_BitsBecome_j5_B
  rw [bits_Set_spec n ws hW i hi1 hi2, haystackref02_Set_spec n ws hW i, bits_Append_spec n ws hW x hx, haystackref02_Append_spec n ws hW x hx, bits_Join_spec n ws hW m vs hV, haystackref02_Join_spec n ws hW m vs hV]
  rw [haystackref02_Same_spec _ _ _ _ (by rw [ci_length]; exact setS_len h1.2 _ _), sel_pos ⟨rfl, rfl⟩, sel_pos rfl,
    haystackref02_Same_spec _ _ _ _ (by rw [ci_length]; exact appendS_len h1.2 _ _), sel_pos ⟨rfl, rfl⟩, sel_pos rfl,
    haystackref02_Same_spec _ _ _ _ (by rw [ci_length]; exact joinS_len h1.2), sel_pos ⟨rfl, rfl⟩, sel_pos rfl,
    haystackref02_Same_spec _ _ _ _ (by rw [ci_length]; omega), sel_pos ⟨rfl, rfl⟩, heads02n_spec]
abbrev BitsBecome_pas : List Pa := [.st rowC, .st rowC, .one (.int .i64), .one (.int .u64), .one (.int .i64)]
theorem BitsBecome_law : ∀ vs, pasHas BitsBecome_pas vs → sp5 vs AV some = some (.bool true) := by
  rintro vs ⟨_, _, rfl, hr, _, _, rfl, hs, _, _, rfl, ⟨i, rfl, hi⟩, _, _, rfl, ⟨x, rfl, hx⟩, _, _, rfl, ⟨k, rfl, _⟩, rfl⟩
  obtain ⟨n, ws, rfl, _, hw⟩ := row_has hr
  obtain ⟨m, us, rfl, _, hu⟩ := row_has hs
  obtain ⟨y, rfl, hy⟩ := nat_u64 hx
  exact BitsBecome_true n ws hw m us hu i (has_i64 hi).1 (has_i64 hi).2 y hy k _
end
end Go.Proofs.Ytkjadjdcbpiebaa
