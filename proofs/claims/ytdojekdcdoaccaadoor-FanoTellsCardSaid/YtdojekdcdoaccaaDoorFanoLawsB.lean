/- Layer 9: the laws against the document. -/
import Derived.Test.YtdojekdcdoaccaaDoorFanoRefC
import Derived.Test.YtdojekdcdoaccaaDoorFanoLawsO
namespace Go.Proofs.YtdojekdcdoaccaaDoor
open Go Go.Ev
section
variable {R : Type}
theorem zero_no (l : List Bool) (_ : l.length ≤ 3000) : ¬ IsF 0 0 0 0 0 [] 0 [] l := fun h => by
  have h1 := h.2.2.2.2.1
  unfold FV at h1; omega
theorem ref9_same_refl (N M a b c : Int) (xs : List Int) (h : Int) (hs : List Int) (hx : xs.length < 4000000000) (hh : hs.length < 4000000000) (K : Bool → Option R) : haystackref09_Same N M a b c xs h hs N M a b c xs h hs K = K true := by
  rw [haystackref09_Same_spec _ _ _ _ _ _ _ _ _ _ _ _ _ _ _ _ hx hh, decide_eq_true ⟨rfl, rfl, ⟨rfl, rfl, rfl, rfl⟩, rfl, rfl⟩]
theorem FanoBuilds_true (n : Int) (ws : List Nat) (hw : ∀ w ∈ ws, w < 2 ^ 64) (K : Bool → Option R) : haystacklaw09_FanoBuilds n (ci ws) K = K true := by
  rw [haystacklaw09_FanoBuilds_unf]; unfold haystacklaw09_FanoBuilds_B
  by_cases h1 : 3000 < n
  · rw [sel_pos h1, heads09_spec]
  rw [sel_neg h1, ci_length]
  by_cases h2 : 3000 < ((ws.length : Nat) : Int)
  · rw [sel_pos h2, heads09_spec]
  have hW : Ws ws := ⟨hw, by omega⟩
  rw [sel_neg h2, haystacklaw09_FanoBuilds_j4_unf]; unfold haystacklaw09_FanoBuilds_j4_B
  cases hok : okRow n ws with
  | false =>
    have w0 : Ws [] := ⟨by simp, by simp⟩
    rw [fano_Build_bad n ws hW hok, haystackref09_Build_bad n ws hW hok, ref9_same_refl _ _ _ _ _ _ _ _ (by simp) (by simp), Ev.sel_true, sel_pos rfl, show ([] : List Int) = ci [] from rfl,
      fano_Size_no (by decide) w0 (by simp) w0 zero_no, ref9_Size_no (by decide) w0 (by simp) w0 zero_no, sel_pos rfl, heads09_spec]
  | true =>
    obtain ⟨l, rfl, rfl, h5⟩ := okRow_wds hok hw
    have hl : l.length ≤ 3000 := by omega
    have hh := FH_le hl
    rw [fano_Build_spec l hl, haystackref09_Build_spec l hl, ref9_same_refl _ _ _ _ _ _ _ _ (by rw [ci_length]; exact FLw_len hl) (by rw [ci_length, wds_length]; omega), Ev.sel_true, sel_pos rfl, fano_Size_yes l hl, ref9_Size_yes l hl, sel_pos rfl, heads09_spec]
theorem small09_spec (N M a b c : Int) (xs : List Int) (h : Int) (hs : List Int) (K : Bool → Option R) : haystacklaw09_small N M a b c xs h hs K = K (decide (N ≤ 3000 ∧ M ≤ 3000 ∧ a ≤ 3000 ∧ xs.length ≤ 3000 ∧ hs.length ≤ 3000)) := by
  rw [haystacklaw09_small_unf]; unfold haystacklaw09_small_B
  by_cases h1 : N ≤ 3000
  · rw [sel_pos h1]
    by_cases h2 : M ≤ 3000
    · rw [sel_pos h2]
      by_cases h3 : a ≤ 3000
      · rw [sel_pos h3]
        by_cases h4 : ((xs.length : Nat) : Int) ≤ 3000
        · rw [sel_pos h4]
          congr 1
          rw [decide_eq_decide]; omega
        · rw [sel_neg h4, decide_eq_false (by omega)]
      · rw [sel_neg h3, decide_eq_false (by omega)]
    · rw [sel_neg h2, decide_eq_false (by omega)]
  · rw [sel_neg h1, decide_eq_false (by omega)]
theorem FanoTells_true (N M a b c : Int) (xs : List Nat) (hx : ∀ w ∈ xs, w < 2 ^ 64) (h : Int) (hs : List Nat) (hh : ∀ w ∈ hs, w < 2 ^ 64) (bit : Bool) (i : Int) (K : Bool → Option R) : haystacklaw09_FanoTells N M a b c (ci xs) h (ci hs) bit i K = K true := by
  rw [haystacklaw09_FanoTells_unf]; unfold haystacklaw09_FanoTells_B
  rw [small09_spec, ci_length, ci_length]
  by_cases hsm : N ≤ 3000 ∧ M ≤ 3000 ∧ a ≤ 3000 ∧ xs.length ≤ 3000 ∧ hs.length ≤ 3000
  · rw [decide_eq_true hsm, Bool.not_true, Ev.sel_false]
    have hxs : Ws xs := ⟨hx, by omega⟩
    have hhs : Ws hs := ⟨hh, by omega⟩
    have hxl : xs.length < 4000000000 := by omega
    by_cases hf : ∃ l : List Bool, l.length ≤ 3000 ∧ IsF N M a b c xs h hs l
    · obtain ⟨l, hl, f1, f2, f3, f4, f5, f6, f7, f8⟩ := hf
      subst f1 f2 f3 f4 f5 f6 f7 f8
      rw [fano_Access_yes l hl, haystacklaw09_FanoTells_j5_unf]; unfold haystacklaw09_FanoTells_j5_B
      rw [ref9_Access_yes l hl, fano_Rank_yes l hl, ref9_Rank_yes l hl, fano_Select_yes l hl, ref9_Select_yes l hl, beq_sel, sel_npos rfl, sel_npos rfl, sel_npos rfl, sel_npos rfl, sel_npos rfl, haystacklaw09_FanoTells_j12_unf]; unfold haystacklaw09_FanoTells_j12_B
      rw [fano_Check_yes l hl, ref9_Check_yes l hl, beq_self_eq_true, Ev.sel_true, fano_Size_yes l hl, ref9_Size_yes l hl, sel_pos rfl, fano_Bits_yes l hl, ref9_Bits_yes l hl, haystackref02_Same_spec _ _ _ _ (by rw [ci_length, wds_length]; omega), decide_eq_true ⟨rfl, rfl⟩, Ev.sel_true, heads09_spec]
    · have hno : ∀ l : List Bool, l.length ≤ 3000 → ¬ IsF N M a b c xs h hs l := fun l hl hy => hf ⟨l, hl, hy⟩
      have hN := hsm.1
      rw [fano_Access_no hN hxs hxl hhs hno, haystacklaw09_FanoTells_j5_unf]; unfold haystacklaw09_FanoTells_j5_B
      rw [ref9_Access_no hN hxs hxl hhs hno, fano_Rank_no hN hxs hxl hhs hno, ref9_Rank_no hN hxs hxl hhs hno, fano_Select_no hN hxs hxl hhs hno, ref9_Select_no hN hxs hxl hhs hno, beq_sel, sel_npos rfl, sel_npos rfl, sel_npos rfl, sel_npos rfl, sel_npos rfl, haystacklaw09_FanoTells_j12_unf]; unfold haystacklaw09_FanoTells_j12_B
      rw [fano_Check_no hN hxs hxl hhs hno, ref9_Check_no hN hxs hxl hhs hno, beq_self_eq_true, Ev.sel_true, fano_Size_no hN hxs hxl hhs hno, ref9_Size_no hN hxs hxl hhs hno, sel_pos rfl, fano_Bits_no hN hxs hxl hhs hno, ref9_Bits_no hN hxs hxl hhs hno, haystackref02_Same_spec _ _ _ _ (by simp), decide_eq_true ⟨rfl, rfl⟩, Ev.sel_true, heads09_spec]
  · rw [decide_eq_false hsm, Bool.not_false, Ev.sel_true, heads09_spec]
/-! ### the rows -/
abbrev fanoC : List Sh := [.int .i64, .int .i64, .int .i64, .int .i64, .int .i64, .ints .u64, .int .i64, .ints .u64]
theorem st_fano {v : AV} (h : Pa.has (.st fanoC) v) : ∃ (N M a b c : Int) (xs : List Nat) (h : Int) (hs : List Nat), v = .agg (.any [.int .i64 N, .int .i64 M, .int .i64 a, .int .i64 b, .int .i64 c, .fsl (.ints .u64 (ci xs)), .int .i64 h, .fsl (.ints .u64 (ci hs))]) ∧ (∀ x ∈ xs, x < 2 ^ 64) ∧ ∀ x ∈ hs, x < 2 ^ 64 := by
  obtain ⟨vs, rfl, _, _, rfl, ⟨N, rfl, _⟩, _, _, rfl, ⟨M, rfl, _⟩, _, _, rfl, ⟨a, rfl, _⟩, _, _, rfl, ⟨b, rfl, _⟩, _, _, rfl, ⟨c, rfl, _⟩, _, _, rfl, ⟨xs, rfl, _, hx⟩, _, _, rfl, ⟨h, rfl, _⟩, _, _, rfl, ⟨hs, rfl, _, hh⟩, rfl⟩ := h
  obtain ⟨xs, rfl, hx2⟩ := ci_of fun x h => has_u64 (hx x h)
  obtain ⟨hs, rfl, hh2⟩ := ci_of fun x h => has_u64 (hh x h)
  exact ⟨N, M, a, b, c, xs, h, hs, rfl, hx2, hh2⟩
abbrev FanoBuilds_pas : List Pa := [.st rowC]
theorem FanoBuilds_law : ∀ vs, pasHas FanoBuilds_pas vs → sp5 vs AV some = some (.bool true) := by
  rintro vs ⟨_, _, rfl, hr, rfl⟩
  obtain ⟨n, ws, rfl, _, hw⟩ := row_has hr
  exact FanoBuilds_true n ws hw _
abbrev FanoTells_pas : List Pa := [.st fanoC, .one .bool, .one (.int .i64)]
theorem FanoTells_law : ∀ vs, pasHas FanoTells_pas vs → sp6 vs AV some = some (.bool true) := by
  rintro vs ⟨_, _, rfl, hr, _, _, rfl, ⟨bit, rfl⟩, _, _, rfl, ⟨i, rfl, _⟩, rfl⟩
  obtain ⟨N, M, a, b, c, xs, h, hs, rfl, hx, hh⟩ := st_fano hr
  exact FanoTells_true N M a b c xs hx h hs hh bit i _
end
end Go.Proofs.YtdojekdcdoaccaaDoor
