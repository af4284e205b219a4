/- Layer 9: the document's answers: which ones may be. -/
import Derived.Test.YtdojekdcdoaccaaDoorFanoRef
namespace Go.Proofs.YtdojekdcdoaccaaDoor
open Go Go.Ev
section
variable {R : Type}
/-- places that may be: rising, and inside -/
def RiseN (N : Nat) (ps : List Nat) : Prop := ps.Pairwise (· < ·) ∧ ∀ p ∈ ps, p < N
instance (N : Nat) (ps : List Nat) : Decidable (RiseN N ps) := by unfold RiseN; infer_instance
/-- places by their parts -/
def plF (w : Nat) (low : List Nat) : Nat → List Nat → List Nat
  | _, [] => []
  | i, q :: qs => pF w low i q :: plF w low (i + 1) qs
theorem plF_length (w : Nat) (low : List Nat) : ∀ (qs : List Nat) (i : Nat), (plF w low i qs).length = qs.length
  | [], _ => rfl
  | q :: qs, i => by simp [plF, plF_length w low qs]
theorem plF_all {w n : Nat} {ps : List Nat} (hn : ∀ p ∈ ps, p ≤ n) : ∀ (f i : Nat), i + f = ps.length → plF w (lowL w ps) i ((hq w 0 ps).drop i) = ps.drop i
  | 0, i, h => by
    rw [List.drop_of_length_le (by rw [hq_length]; omega), List.drop_of_length_le (by omega)]; rfl
  | f + 1, i, h => by
    rw [drop_cons' (hq w 0 ps) (by rw [hq_length]; omega), drop_cons' ps (by omega)]
    simp only [plF]
    rw [pF_at (by omega) hn, plF_all hn f (i + 1) (by omega)]
theorem rise_last {ps : List Nat} (h : ps.Pairwise (· < ·)) : ∀ x ∈ ps, x ≤ ps.getD (ps.length - 1) 0 := fun x hx => by
  obtain ⟨i, hi, rfl⟩ := List.mem_iff_getElem.1 hx
  have e : ps.getD (ps.length - 1) 0 = ps[ps.length - 1]'(by omega) := by
    rw [List.getD_eq_getElem?_getD, List.getElem?_eq_getElem (by omega)]; rfl
  rw [e]
  by_cases h1 : i = ps.length - 1
  · subst h1; exact Nat.le_refl _
  · exact Nat.le_of_lt (List.pairwise_iff_getElem.1 h i (ps.length - 1) hi (by omega) (by omega))
theorem RiseN.snoc {N p : Nat} {out : List Nat} (h : RiseN N out) (h1 : p < N) (h2 : out ≠ [] → out.getD (out.length - 1) 0 < p) : RiseN N (out ++ [p]) := by
  refine ⟨List.pairwise_append.2 ⟨h.1, by simp, fun a ha b hb => ?_⟩, fun q hq => ?_⟩
  · rw [List.mem_singleton.1 hb]
    have := rise_last h.1 a ha
    have := h2 (by intro e; rw [e] at ha; simp at ha)
    omega
  · rcases List.mem_append.1 hq with hq | hq
    · exact h.2 q hq
    · rw [List.mem_singleton.1 hq]; exact h1
theorem RiseN.not_big {N p : Nat} {out qs : List Nat} (h : RiseN N (out ++ p :: qs)) : p < N := h.2 p (by simp)
theorem RiseN.not_low {N p : Nat} {out qs : List Nat} (h : RiseN N (out ++ p :: qs)) (h0 : out ≠ []) : out.getD (out.length - 1) 0 < p := by
  have h1 := (List.pairwise_append.1 h.1).2.2
  have hl : 0 < out.length := List.length_pos_iff.2 h0
  refine h1 _ ?_ p (by simp)
  rw [List.getD_eq_getElem?_getD, List.getElem?_eq_getElem (by omega)]
  exact List.getElem_mem _
/-! ### one place read -/
section
variable (w : Nat) (low qs : List Nat) (N : Nat) (M a b c : Int) (xs : List Int) (h : Int) (zs : List Int)
theorem ref9_j16 (i : Nat) (p : Nat) (out : List Nat) (hi2 : i < 2 ^ 21) (ho : out.length = i) (K0 : Bool → Option R) (K1 : Int → List Int → List Int → Nat → Int → Int → Int → Int → Int → Int → List Int → Int → List Int → List Int → Option R) :
    haystackref09_row_j16 (w : Int) (ci low) (ci qs) i (i : Int) (p : Int) (N : Int) M a b c xs h zs (ci out) K0 K1 =
    if N ≤ p ∨ (0 < i ∧ p ≤ out.getD (i - 1) 0) then K0 false else K1 (w : Int) (ci low) (ci qs) (i + 1) (i : Int) (N : Int) M a b c xs h zs (ci (out ++ [p])) := by
  have j18 : haystackref09_row_j18 (w : Int) (ci low) (ci qs) i (i : Int) (p : Int) (N : Int) M a b c xs h zs (ci out) K1 = K1 (w : Int) (ci low) (ci qs) (i + 1) (i : Int) (N : Int) M a b c xs h zs (ci (out ++ [p])) := by
    rw [haystackref09_row_j18_unf]; unfold haystackref09_row_j18_B
    rw [sel_pos (by rw [ci_length]; exact ho), sel_pos (by omega), letV_eq]
    unfold ci
    rw [List.map_append]; rfl
  rw [haystackref09_row_j16_unf]; unfold haystackref09_row_j16_B
  by_cases h1 : N ≤ p
  · rw [sel_pos (by omega), if_pos (.inl h1)]
  rw [sel_neg (by omega)]
  by_cases hi : 0 < i
  · rw [sel_pos (by omega), subW_i64 (by omega) (by omega), show (i : Int) - 1 = ((i - 1 : Nat) : Int) by omega, sel_pos (by omega), sel_pos (by omega), Int.toNat_natCast, ci_length, sel_pos (by omega), ci_getD]
    by_cases h2 : p ≤ out.getD (i - 1) 0
    · rw [sel_pos (by omega), if_pos (.inr ⟨hi, h2⟩)]
    · rw [sel_neg (by omega), if_neg (by omega), j18]
  · rw [sel_neg (by omega), if_neg (by omega), j18]
theorem ref9_part (i q : Nat) (hlow : ∀ u ∈ low, u < 2 ^ 64) (hw : w ≤ 20) (hq1 : i ≤ q) (hq2 : q < 2 ^ 21) :
    ((0 < w ∧ i < low.length) → addW .i64 (((q - i) * 2 ^ w : Nat) : Int) (cvtW .i64 ((low.getD i 0 % 2 ^ w : Nat) : Int)) = ((pF w low i q : Nat) : Int)) ∧ (¬ (0 < w ∧ i < low.length) → (q - i) * 2 ^ w = pF w low i q) := by
  have h1 := shl_low (a := q - i) (w := w) (by omega) hw
  unfold pF
  constructor
  · intro h0
    have hm : low.getD i 0 % 2 ^ w < 2 ^ w := Nat.mod_lt _ (Nat.two_pow_pos _)
    have hm2 : low.getD i 0 % 2 ^ w < 2 ^ 41 := Nat.lt_of_lt_of_le hm (Nat.pow_le_pow_right (by decide) (by omega))
    have hz := Int.natCast_nonneg (low.getD i 0 % 2 ^ w)
    have hz2 := Int.natCast_nonneg ((q - i) * 2 ^ w)
    rw [if_pos h0, or_add hm]
    generalize low.getD i 0 % 2 ^ w = r at *
    generalize (q - i) * 2 ^ w = s at *
    rw [cvtW_i64 (by omega) (by omega), addW_i64 (by omega) (by omega)]; omega
  · intro h0; rw [if_neg h0]
theorem ref9_row (hlow : ∀ u ∈ low, u < 2 ^ 64) (hw : w ≤ 20) (K0 : Bool → Option R) (K1 : Nat → List Int → Option R) : ∀ (F i : Nat) (out : List Nat), i ≤ qs.length → qs.length - i < F → out.length = i → qs.length < 2 ^ 21 → RiseN N out → Ge i (qs.drop i) →
    haystackref09_row_l11_L K0 K1 F (w : Int) (ci low) (ci qs) i (i : Int) (N : Int) M a b c xs h zs (ci out) = if RiseN N (out ++ plF w low i (qs.drop i)) then K1 (out ++ plF w low i (qs.drop i)).length (ci (out ++ plF w low i (qs.drop i))) else K0 false
  | 0, _, _, _, hF, _, _, _, _ => by omega
  | F + 1, i, out, h1, h2, h3, h5, h6, h7 => by
    simp only [haystackref09_row_l11_L, haystackref09_row_l11_T]
    rw [ci_length, ci_length]
    by_cases hi : i < qs.length
    · rw [drop_cons' qs hi] at h7 ⊢
      obtain ⟨g1, g2⟩ := h7.2 _ (List.mem_cons_self ..)
      have hsh := shl_low (a := qs.getD i 0 - i) (w := w) (by omega) hw
      obtain ⟨p1, p2⟩ := ref9_part w low i (qs.getD i 0) hlow hw g1 g2
      have key : ∀ (K1' : Int → List Int → List Int → Nat → Int → Int → Int → Int → Int → Int → List Int → Int → List Int → List Int → Option R),
          (K1' (w : Int) (ci low) (ci qs) (i + 1) (i : Int) (N : Int) M a b c xs h zs (ci (out ++ [pF w low i (qs.getD i 0)])) = haystackref09_row_l11_L K0 K1 F (w : Int) (ci low) (ci qs) (i + 1) ((i + 1 : Nat) : Int) (N : Int) M a b c xs h zs (ci (out ++ [pF w low i (qs.getD i 0)]))) →
          haystackref09_row_j16 (w : Int) (ci low) (ci qs) i (i : Int) ((pF w low i (qs.getD i 0) : Nat) : Int) (N : Int) M a b c xs h zs (ci out) K0 K1' =
          if RiseN N (out ++ plF w low i (qs.getD i 0 :: qs.drop (i + 1))) then K1 (out ++ plF w low i (qs.getD i 0 :: qs.drop (i + 1))).length (ci (out ++ plF w low i (qs.getD i 0 :: qs.drop (i + 1)))) else K0 false := fun K1' hK1' => by
        rw [ref9_j16 w low qs N M a b c xs h zs i _ out (by omega) h3]
        have hne : 0 < i → out ≠ [] := fun h e => by rw [e] at h3; simp at h3; omega
        split
        · rename_i hb
          refine (if_neg fun hr => ?_).symm
          have r1 := RiseN.not_big (p := pF w low i (qs.getD i 0)) (qs := plF w low (i + 1) (qs.drop (i + 1))) hr
          rcases hb with hb | ⟨hb0, hb⟩
          · omega
          · have r2 := RiseN.not_low (p := pF w low i (qs.getD i 0)) (qs := plF w low (i + 1) (qs.drop (i + 1))) hr (hne hb0)
            rw [h3] at r2
            omega
        · rename_i hb
          have ih := ref9_row hlow hw K0 K1 F (i + 1) (out ++ [pF w low i (qs.getD i 0)]) (by omega) (by omega) (by rw [List.length_append, h3]; rfl) h5 (h6.snoc (by omega) (fun hne => by have : 0 < out.length := List.length_pos_iff.2 hne; rw [h3]; omega)) h7.tail
          have e : (out ++ [pF w low i (qs.getD i 0)]) ++ plF w low (i + 1) (qs.drop (i + 1)) = out ++ plF w low i (qs.getD i 0 :: qs.drop (i + 1)) := by rw [List.append_assoc]; rfl
          simp only [e] at ih
          rw [hK1', ih]
      rw [sel_pos (by omega), sel_pos (by omega), sel_pos (by omega), cvtW_u64 (a := (w : Int)) (by omega) (by omega), sel_pos (by omega), Int.toNat_natCast, ci_getD, subW_i64 (by omega) (by omega), show ((qs.getD i 0 : Nat) : Int) - (i : Int) = ((qs.getD i 0 - i : Nat) : Int) by omega, shlW_i64 _ _ (by omega) (by omega)]
      by_cases h0 : 0 < w
      · rw [sel_pos (by omega), haystackref09_row_j15_unf]; unfold haystackref09_row_j15_B
        by_cases hl : i < low.length
        · rw [sel_pos (by omega), sel_pos (by omega), ci_length, sel_pos (by omega), cvtW_u64 (a := (w : Int)) (by omega) (by omega), sel_pos (by omega), sel_neg (shl_ne w hw), Int.toNat_natCast, ci_getD, low_rem _ _ hw, p1 ⟨h0, hl⟩]
          refine key _ ?_
          rw [addW_i64 (by omega) (by omega), show (i : Int) + 1 = ((i + 1 : Nat) : Int) by omega]
        · rw [sel_neg (by omega), p2 (by omega)]
          refine key _ ?_
          rw [addW_i64 (by omega) (by omega), show (i : Int) + 1 = ((i + 1 : Nat) : Int) by omega]
      · rw [sel_neg (by omega), haystackref09_row_j15_unf]; unfold haystackref09_row_j15_B
        rw [Ev.sel_false, p2 (by omega)]
        refine key _ ?_
        rw [addW_i64 (by omega) (by omega), show (i : Int) + 1 = ((i + 1 : Nat) : Int) by omega]
    · have : i = qs.length := by omega
      subst this
      rw [sel_neg (by omega), List.drop_of_length_le (Nat.le_refl _)]
      have e : out ++ plF w low qs.length [] = out := List.append_nil _
      simp only [e]
      rw [if_pos h6, h3]
end
end
end Go.Proofs.YtdojekdcdoaccaaDoor
