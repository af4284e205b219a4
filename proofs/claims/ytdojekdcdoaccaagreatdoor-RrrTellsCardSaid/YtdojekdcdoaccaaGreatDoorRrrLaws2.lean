/- Layer 8: the laws against the document are true, whatever the input. -/
import Derived.Test.YtdojekdcdoaccaaGreatDoorRrrRefC
import Derived.Test.YtdojekdcdoaccaaGreatDoorRrrLaws
namespace Go.Proofs.YtdojekdcdoaccaaGreatDoor
open Go Go.Ev
section
variable {R : Type}
theorem not_zero : NotR 0 0 0 0 [] 0 [] [] [] := ⟨⟨by simp, by simp⟩, ⟨by simp, by simp⟩, by simp, by simp, by simp, by simp, fun l _ h => by have := h.c; omega⟩
theorem ref8_same_refl (a b c d : Int) (e : List Int) (f : Int) (g h j : List Int) (h1 : e.length < 4000000000) (h2 : g.length < 4000000000) (h3 : h.length < 4000000000) (h4 : j.length < 4000000000) (K : Bool → Option R) : haystackref08_Same a b c d e f g h j a b c d e f g h j K = K true := by
  rw [haystackref08_Same_spec _ _ _ _ _ _ _ _ _ _ _ _ _ _ _ _ _ _ h1 h2 h3 h4, decide_eq_true ⟨rfl, rfl, rfl, rfl, rfl, rfl, rfl, rfl, rfl⟩]
theorem RrrBuilds_true (n : Int) (ws : List Nat) (hw : ∀ w ∈ ws, w < 2 ^ 64) (K : Bool → Option R) : haystacklaw08_RrrBuilds n (ci ws) K = K true := by
  rw [haystacklaw08_RrrBuilds_unf]; unfold haystacklaw08_RrrBuilds_B
  by_cases h1 : 3000 < n
  · rw [sel_pos h1, heads08_spec]
  rw [sel_neg h1, ci_length]
  by_cases h2 : 3000 < ((ws.length : Nat) : Int)
  · rw [sel_pos h2, heads08_spec]
  have hW : Ws ws := ⟨hw, by omega⟩
  rw [sel_neg h2, haystacklaw08_RrrBuilds_j4_unf]; unfold haystacklaw08_RrrBuilds_j4_B
  cases hok : okRow n ws with
  | false =>
    rw [rrr_Build_bad n ws hW hok, haystackref08_Build_bad n ws hW hok, ref8_same_refl _ _ _ _ _ _ _ _ _ (by simp) (by simp) (by simp) (by simp), Ev.sel_true, sel_pos rfl, show ([] : List Int) = ci [] from rfl]
    rw [show haystacklaw08_heads (fun vp => K vp) = K true from heads08_spec K]
    refine (rrr_Size_no not_zero _).trans ?_
    refine (ref8_Size_no not_zero _).trans ?_
    rw [sel_pos rfl]
  | true =>
    obtain ⟨l, rfl, rfl, h5⟩ := okRow_wds hok hw
    obtain ⟨s1, s2, s3, s4⟩ := IsR.short h5
    have r := isR l
    rw [rrr_Build_spec l h5, haystackref08_Build_spec l h5, ref8_same_refl _ _ _ _ _ _ _ _ _ s1 s2 s3 s4, Ev.sel_true, sel_pos rfl, rrr_Size_yes h5 r, ref8_Size_yes h5 r, sel_pos rfl, heads08_spec]
theorem small08_spec (a b c d : Int) (e : List Int) (f : Int) (g h j : List Int) (K : Bool → Option R) : haystacklaw08_small a b c d e f g h j K = K (decide (a ≤ 3000 ∧ b ≤ 3000 ∧ e.length ≤ 3000 ∧ g.length ≤ 3000 ∧ h.length ≤ 3000 ∧ j.length ≤ 3000)) := by
  rw [haystacklaw08_small_unf]; unfold haystacklaw08_small_B
  by_cases h1 : a ≤ 3000
  · rw [sel_pos h1]
    by_cases h2 : b ≤ 3000
    · rw [sel_pos h2]
      by_cases h3 : ((e.length : Nat) : Int) ≤ 3000
      · rw [sel_pos h3]
        by_cases h4 : ((g.length : Nat) : Int) ≤ 3000
        · rw [sel_pos h4]
          by_cases h5 : ((h.length : Nat) : Int) ≤ 3000
          · rw [sel_pos h5]
            congr 1
            rw [decide_eq_decide]; omega
          · rw [sel_neg h5, decide_eq_false (by omega)]
        · rw [sel_neg h4, decide_eq_false (by omega)]
      · rw [sel_neg h3, decide_eq_false (by omega)]
    · rw [sel_neg h2, decide_eq_false (by omega)]
  · rw [sel_neg h1, decide_eq_false (by omega)]
theorem RrrTells_true (a b c d : Int) (ws : List Nat) (hw : ∀ w ∈ ws, w < 2 ^ 64) (f : Int) (vs : List Nat) (hv : ∀ w ∈ vs, w < 2 ^ 64) (h j : List Int) (bit : Bool) (i : Int) (K : Bool → Option R) : haystacklaw08_RrrTells a b c d (ci ws) f (ci vs) h j bit i K = K true := by
  rw [haystacklaw08_RrrTells_unf]; unfold haystacklaw08_RrrTells_B
  rw [small08_spec, ci_length, ci_length]
  by_cases hs : a ≤ 3000 ∧ b ≤ 3000 ∧ ws.length ≤ 3000 ∧ vs.length ≤ 3000 ∧ h.length ≤ 3000 ∧ j.length ≤ 3000
  · rw [decide_eq_true hs, Bool.not_true, Ev.sel_false]
    by_cases hf : ∃ l : List Bool, l.length ≤ 1048576 ∧ IsR l a b c d (ci ws) f (ci vs) h j
    · obtain ⟨l, hl, r⟩ := hf
      rw [rrr_Access_yes hl r, haystacklaw08_RrrTells_j5_unf]; unfold haystacklaw08_RrrTells_j5_B
      rw [ref8_Access_yes hl r, rrr_Rank_yes hl r, ref8_Rank_yes hl r, rrr_Select_yes hl r, ref8_Select_yes hl r, beq_sel, sel_npos rfl, sel_npos rfl, sel_npos rfl, sel_npos rfl, sel_npos rfl, haystacklaw08_RrrTells_j12_unf]; unfold haystacklaw08_RrrTells_j12_B
      rw [rrr_Check_yes hl r, ref8_Check_yes hl r, beq_self_eq_true, Ev.sel_true, rrr_Size_yes hl r, ref8_Size_yes hl r, sel_pos rfl, rrr_Bits_yes hl r, ref8_Bits_yes hl r, haystackref02_Same_spec _ _ _ _ (by rw [ci_length, wds_length]; omega), decide_eq_true ⟨rfl, rfl⟩, Ev.sel_true, heads08_spec]
    · have n : NotR a b c d ws f vs h j := ⟨⟨hw, by omega⟩, ⟨hv, by omega⟩, by omega, by omega, by omega, by omega, fun l hl r => hf ⟨l, hl, r⟩⟩
      rw [rrr_Access_no n, haystacklaw08_RrrTells_j5_unf]; unfold haystacklaw08_RrrTells_j5_B
      rw [ref8_Access_no n, rrr_Rank_no n, ref8_Rank_no n, rrr_Select_no n, ref8_Select_no n, beq_sel, sel_npos rfl, sel_npos rfl, sel_npos rfl, sel_npos rfl, sel_npos rfl, haystacklaw08_RrrTells_j12_unf]; unfold haystacklaw08_RrrTells_j12_B
      rw [rrr_Check_no n, ref8_Check_no n, beq_self_eq_true, Ev.sel_true, rrr_Size_no n, ref8_Size_no n, sel_pos rfl, rrr_Bits_no n, ref8_Bits_no n, haystackref02_Same_spec _ _ _ _ (by simp), decide_eq_true ⟨rfl, rfl⟩, Ev.sel_true, heads08_spec]
  · rw [decide_eq_false hs, Bool.not_false, Ev.sel_true, heads08_spec]
/-! ### the rows -/
abbrev rrrC : List Sh := [.int .i64, .int .i64, .int .i64, .int .i64, .ints .u64, .int .i64, .ints .u64, .ints .i64, .ints .i64]
theorem st_rrr {v : AV} (h : Pa.has (.st rrrC) v) : ∃ (a b c d : Int) (xs : List Nat) (f : Int) (ys : List Nat) (us vs : List Int), v = .agg (.any [.int .i64 a, .int .i64 b, .int .i64 c, .int .i64 d, .fsl (.ints .u64 (ci xs)), .int .i64 f, .fsl (.ints .u64 (ci ys)), .fsl (.ints .i64 us), .fsl (.ints .i64 vs)]) ∧ (∀ x ∈ xs, x < 2 ^ 64) ∧ ∀ x ∈ ys, x < 2 ^ 64 := by
  obtain ⟨vs, rfl, _, _, rfl, ⟨a, rfl, _⟩, _, _, rfl, ⟨b, rfl, _⟩, _, _, rfl, ⟨c, rfl, _⟩, _, _, rfl, ⟨d, rfl, _⟩, _, _, rfl, ⟨xs, rfl, _, hx⟩, _, _, rfl, ⟨f, rfl, _⟩, _, _, rfl, ⟨ys, rfl, _, hy⟩, _, _, rfl, ⟨us, rfl, _, _⟩, _, _, rfl, ⟨ws, rfl, _, _⟩, rfl⟩ := h
  obtain ⟨xs, rfl, hx2⟩ := ci_of fun x h => has_u64 (hx x h)
  obtain ⟨ys, rfl, hy2⟩ := ci_of fun x h => has_u64 (hy x h)
  exact ⟨a, b, c, d, xs, f, ys, us, ws, rfl, hx2, hy2⟩
abbrev RrrBuilds_pas : List Pa := [.st rowC]
theorem RrrBuilds_law : ∀ vs, pasHas RrrBuilds_pas vs → sp3 vs AV some = some (.bool true) := by
  rintro vs ⟨_, _, rfl, hr, rfl⟩
  obtain ⟨n, ws, rfl, _, hw⟩ := row_has hr
  exact RrrBuilds_true n ws hw _
abbrev RrrTells_pas : List Pa := [.st rrrC, .one .bool, .one (.int .i64)]
theorem RrrTells_law : ∀ vs, pasHas RrrTells_pas vs → sp4 vs AV some = some (.bool true) := by
  rintro vs ⟨_, _, rfl, hr, _, _, rfl, ⟨bit, rfl⟩, _, _, rfl, ⟨i, rfl, _⟩, rfl⟩
  obtain ⟨a, b, c, d, xs, f, ys, us, ws, rfl, hx, hy⟩ := st_rrr hr
  exact RrrTells_true a b c d xs hx f ys hy us ws bit i _
end
end Go.Proofs.YtdojekdcdoaccaaGreatDoor
