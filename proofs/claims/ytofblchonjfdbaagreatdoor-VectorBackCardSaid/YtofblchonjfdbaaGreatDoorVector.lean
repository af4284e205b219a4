/- Layer 10: a row in one of three dresses. -/
import Derived.Test.YtofblchonjfdbaaGreatDoorFanoE
import Derived.Test.YtofblchonjfdbaaGreatDoorRrrC
import Derived.Test.YtofblchonjfdbaaGreatDoorPlainB
namespace Go.Proofs.YtofblchonjfdbaaGreatDoor
open Go Go.Ev
section
variable {R : Type}
theorem vector_empty1 (n : Int) (w : List Int) (K : Bool → Option R) : vector_empty [n] [w] K = K (decide (n = 0) && decide (w = [])) := by
  obtain ⟨N, hN⟩ : ∃ N, NR = N + 3 := ⟨NR - 3, by have := NR_lt; omega⟩
  rw [vector_empty_unf]; unfold vector_empty_B
  rw [vector_empty_l3_unf]; unfold vector_empty_l3_B
  rw [hN]
  simp only [vector_empty_l3_L, vector_empty_l3_T, List.length_cons, List.length_nil, letV_eq]
  rw [sel_pos (by omega), sel_pos (by omega), sel_pos (by omega)]
  show sel (!decide (n = 0)) _ (sel (decide (0 < ((w.length : Nat) : Int))) _ _) = _
  by_cases h1 : n = 0
  · rw [sel_npos h1]
    cases w with
    | nil =>
      rw [sel_neg (by simp), addW_i64 (by omega) (by omega), sel_neg (by omega), h1]; rfl
    | cons a w => rw [sel_pos (by simp), h1]; rfl
  · rw [sel_nneg h1, decide_eq_false h1]; rfl
theorem vector_empty2 (n m : Int) (w u : List Int) (K : Bool → Option R) : vector_empty ([n] ++ [m]) ([w] ++ [u]) K = K ((decide (n = 0) && decide (w = [])) && (decide (m = 0) && decide (u = []))) := by
  obtain ⟨N, hN⟩ : ∃ N, NR = N + 3 := ⟨NR - 3, by have := NR_lt; omega⟩
  rw [vector_empty_unf]; unfold vector_empty_B
  rw [vector_empty_l3_unf]; unfold vector_empty_l3_B
  rw [hN]
  simp only [vector_empty_l3_L, vector_empty_l3_T, List.cons_append, List.nil_append, List.length_cons, List.length_nil, letV_eq]
  rw [sel_pos (by omega), sel_pos (by omega), sel_pos (by omega)]
  show sel (!decide (n = 0)) _ (sel (decide (0 < ((w.length : Nat) : Int))) _ _) = _
  by_cases h1 : n = 0
  · rw [sel_npos h1, decide_eq_true h1]
    cases w with
    | nil =>
      rw [sel_neg (by simp), addW_i64 (by omega) (by omega), sel_pos (by omega), sel_pos (by omega), sel_pos (by omega)]
      show sel (!decide (m = 0)) _ (sel (decide (0 < ((u.length : Nat) : Int))) _ _) = _
      by_cases h2 : m = 0
      · rw [sel_npos h2, decide_eq_true h2]
        cases u with
        | nil => rw [sel_neg (by simp), addW_i64 (by omega) (by omega), sel_neg (by omega)]; rfl
        | cons a u => rw [sel_pos (by simp)]; rfl
      · rw [sel_nneg h2, decide_eq_false h2]; rfl
    | cons a w => rw [sel_pos (by simp)]; rfl
  · rw [sel_nneg h1, decide_eq_false h1]; rfl
/-- which dresses must be empty -/
def spV (k : Int) (p r f : Bool) : Bool := if k = 1 then r && f else if k = 2 then p && f else p && r
theorem spare_j6 (p r f : Bool) (k x1 : Int) (x2 x3 x4 : List Int) (x5 x6 x7 x8 : Int) (x9 : List Int) (x10 : Int) (x11 x12 x13 : List Int) (x14 x15 x16 x17 x18 : Int) (x19 : List Int) (x20 : Int) (x21 : List Int) (K : Bool → Option R) :
    vector_spare_j6 p r f k x1 x2 x3 x4 x5 x6 x7 x8 x9 x10 x11 x12 x13 x14 x15 x16 x17 x18 x19 x20 x21 K = K (spV k p r f) := by
  rw [vector_spare_j6_unf]; unfold vector_spare_j6_B spV
  by_cases h1 : k = 1
  · rw [sel_pos h1, if_pos h1]; cases r <;> rfl
  by_cases h2 : k = 2
  · rw [sel_neg h1, sel_pos h2, if_neg h1, if_pos h2]; cases p <;> rfl
  rw [sel_neg h1, sel_neg h2, if_neg h1, if_neg h2]; cases p <;> rfl
def emF (a b c d : Int) (e : Int) (xs : List Int) (f : Int) (ys : List Int) : Bool := ((decide (e = 0) && decide (xs = [])) && (decide (f = 0) && decide (ys = []))) && (decide (a = 0) && (decide (b = 0) && (decide (c = 0) && decide (d = 0))))
def emR (a b c d : Int) (xs : List Int) (f : Int) (ys us vs : List Int) : Bool := ((decide (d = 0) && decide (xs = [])) && (decide (f = 0) && decide (ys = []))) && ((decide (us = []) && decide (vs = [])) && (decide (a = 0) && (decide (b = 0) && decide (c = 0))))
def emP (n : Int) (ws us vs : List Int) : Bool := (decide (n = 0) && decide (ws = [])) && (decide (us = []) && decide (vs = []))
theorem both_nil {us vs : List Int} (hu : us.length < 4000000000) (hv : vs.length < 4000000000) : decide (addW .i64 ((us.length : Nat) : Int) ((vs.length : Nat) : Int) = 0) = (decide (us = []) && decide (vs = [])) := by
  rw [addW_i64 (by omega) (by omega)]
  cases us <;> cases vs <;> simp <;> omega
theorem spare_j5 (p r : Bool) (k x1 : Int) (x2 x3 x4 : List Int) (x5 x6 x7 x8 : Int) (x9 : List Int) (x10 : Int) (x11 x12 x13 : List Int) (x14 x15 x16 x17 x18 : Int) (x19 : List Int) (x20 : Int) (x21 : List Int) (a b c d e : Int) (xs : List Int) (f : Int) (ys : List Int) (K : Bool → Option R) :
    vector_spare_j5 p r k x1 x2 x3 x4 x5 x6 x7 x8 x9 x10 x11 x12 x13 x14 x15 x16 x17 x18 x19 x20 x21 a b c d e xs f ys K = K (spV k p r (emF a b c d e xs f ys)) := by
  rw [vector_spare_j5_unf]; unfold vector_spare_j5_B
  rw [vector_empty2]
  simp only [letV_eq, spare_j6]
  unfold emF
  generalize (decide (e = 0) && decide (xs = []) && (decide (f = 0) && decide (ys = []))) = t
  cases t
  · rfl
  by_cases h1 : a = 0
  · rw [Ev.sel_true, sel_pos h1, decide_eq_true h1]
    by_cases h2 : b = 0
    · rw [sel_pos h2, decide_eq_true h2]
      by_cases h3 : c = 0
      · rw [sel_pos h3, decide_eq_true h3]; rfl
      · rw [sel_neg h3, decide_eq_false h3]; rfl
    · rw [sel_neg h2, decide_eq_false h2]; rfl
  · rw [Ev.sel_true, sel_neg h1, decide_eq_false h1]; rfl
theorem spare_j4 (p : Bool) (k x1 : Int) (x2 x3 x4 : List Int) (x5 x6 x7 x8 : Int) (x9 : List Int) (x10 : Int) (x11 x12 x13 : List Int) (x14 x15 x16 x17 x18 : Int) (x19 : List Int) (x20 : Int) (x21 : List Int)
    (a b c d : Int) (xs : List Int) (f : Int) (ys us vs : List Int) (hu : us.length < 4000000000) (hv : vs.length < 4000000000) (a' b' c' d' e' : Int) (xs' : List Int) (f' : Int) (ys' : List Int) (K : Bool → Option R) :
    vector_spare_j4 p k x1 x2 x3 x4 x5 x6 x7 x8 x9 x10 x11 x12 x13 x14 x15 x16 x17 x18 x19 x20 x21 a b c d xs f ys us vs a' b' c' d' e' xs' f' ys' K = K (spV k p (emR a b c d xs f ys us vs) (emF a' b' c' d' e' xs' f' ys')) := by
  rw [vector_spare_j4_unf]; unfold vector_spare_j4_B
  rw [vector_empty2]
  simp only [letV_eq, spare_j5, both_nil hu hv]
  unfold emR
  generalize (decide (d = 0) && decide (xs = []) && (decide (f = 0) && decide (ys = []))) = t
  generalize (decide (us = []) && decide (vs = [])) = t2
  cases t
  · rfl
  cases t2
  · rfl
  by_cases h1 : a = 0
  · rw [Ev.sel_true, Ev.sel_true, sel_pos h1, decide_eq_true h1]
    by_cases h2 : b = 0
    · rw [sel_pos h2, decide_eq_true h2]; rfl
    · rw [sel_neg h2, decide_eq_false h2]; rfl
  · rw [Ev.sel_true, Ev.sel_true, sel_neg h1, decide_eq_false h1]; rfl
theorem vector_spare_spec (k n : Int) (ws us vs : List Int) (hu : us.length < 4000000000) (hv : vs.length < 4000000000)
    (a b c d : Int) (xs : List Int) (f : Int) (ys us' vs' : List Int) (hu' : us'.length < 4000000000) (hv' : vs'.length < 4000000000) (a' b' c' d' e' : Int) (xs' : List Int) (f' : Int) (ys' : List Int) (K : Bool → Option R) :
    vector_spare k n ws us vs a b c d xs f ys us' vs' a' b' c' d' e' xs' f' ys' K = K (spV k (emP n ws us vs) (emR a b c d xs f ys us' vs') (emF a' b' c' d' e' xs' f' ys')) := by
  rw [vector_spare_unf]; unfold vector_spare_B
  rw [vector_empty1]
  simp only [letV_eq, spare_j4 _ _ _ _ _ _ _ _ _ _ _ _ _ _ _ _ _ _ _ _ _ _ _ _ _ _ _ _ _ _ _ _ hu' hv', both_nil hu hv]
  unfold emP
  cases (decide (n = 0) && decide (ws = [])) <;> rfl
/-! ### what Build makes -/
/-- a row, dressed -/
inductive IsV (l : List Bool) : Int → Int → List Int → List Int → List Int → Int → Int → Int → Int → List Int → Int → List Int → List Int → List Int → Int → Int → Int → Int → Int → List Int → Int → List Int → Prop
  | plain : IsV l 1 (l.length : Int) (ci (wds l)) (supF l) (subF l) 0 0 0 0 [] 0 [] [] [] 0 0 0 0 0 [] 0 []
  | rrr : IsV l 2 0 [] [] [] (l.length : Int) ((NB l : Nat) : Int) 4 ((NB l * 4 : Nat) : Int) (ci (wds (catI 4 (clsL l (NB l))))) ((offs l (NB l)).length : Int) (ci (wds (offs l (NB l)))) (onesL l (NG l)) (ptsL l (NG l)) 0 0 0 0 0 [] 0 []
  | fano : IsV l 3 0 [] [] [] 0 0 0 0 [] 0 [] [] [] (l.length : Int) ((FM l : Nat) : Int) ((FL l).length : Int) ((FV l : Nat) : Int) (((FL l).length * FV l : Nat) : Int) (ci (wds (catI (FV l) (FL l)))) ((FH l).length : Int) (ci (wds (FH l)))
theorem vector_Build_yes (k : Int) (hk : 1 ≤ k ∧ k ≤ 3) (l : List Bool) (hl : l.length ≤ 3000) (X : Option R) (K : Int → Int → List Int → List Int → List Int → Int → Int → Int → Int → List Int → Int → List Int → List Int → List Int → Int → Int → Int → Int → Int → List Int → Int → List Int → Int → Option R)
    (H : ∀ n ws us vs a b c d xs f ys us' vs' a' b' c' d' e' xs' f' ys', IsV l k n ws us vs a b c d xs f ys us' vs' a' b' c' d' e' xs' f' ys' → K k n ws us vs a b c d xs f ys us' vs' a' b' c' d' e' xs' f' ys' 0 = X) :
    vector_Build k (l.length : Int) (ci (wds l)) K = X := by
  have hl2 : l.length ≤ 1048576 := by omega
  rw [vector_Build_unf]; unfold vector_Build_B
  rcases (show k = 1 ∨ k = 2 ∨ k = 3 by omega) with rfl | rfl | rfl
  · rw [sel_pos rfl, plain_Build_spec _ _ (Ws_wds hl2), if_pos (okRow_of l hl2), rowB_wds, vector_Build_j10_unf]; unfold vector_Build_j10_B
    rw [sel_npos rfl]
    exact H _ _ _ _ _ _ _ _ _ _ _ _ _ _ _ _ _ _ _ _ _ .plain
  · rw [sel_neg (by decide), sel_pos rfl, rrr_Build_spec l hl2, vector_Build_j10_unf]; unfold vector_Build_j10_B
    rw [sel_npos rfl]
    exact H _ _ _ _ _ _ _ _ _ _ _ _ _ _ _ _ _ _ _ _ _ .rrr
  · rw [sel_neg (by decide), sel_neg (by decide), sel_pos rfl, fano_Build_spec l hl, vector_Build_j10_unf]; unfold vector_Build_j10_B
    rw [sel_npos rfl]
    exact H _ _ _ _ _ _ _ _ _ _ _ _ _ _ _ _ _ _ _ _ _ .fano
theorem vector_Build_bad2 (n : Int) (ws : List Nat) (hw : Ws ws) (h : okRow n ws = false) (K : Int → Int → List Int → List Int → List Int → Int → Int → Int → Int → List Int → Int → List Int → List Int → List Int → Int → Int → Int → Int → Int → List Int → Int → List Int → Int → Option R) :
    vector_Build 2 n (ci ws) K = K 0 0 [] [] [] 0 0 0 0 [] 0 [] [] [] 0 0 0 0 0 [] 0 [] 2 := by
  rw [vector_Build_unf]; unfold vector_Build_B
  rw [sel_neg (by decide), sel_pos rfl, rrr_Build_bad n ws hw h, vector_Build_j10_unf]; unfold vector_Build_j10_B
  rw [sel_nneg (by decide)]
section
variable {l : List Bool} (hl : l.length ≤ 3000) {k n : Int} {ws us vs : List Int} {a b c d : Int} {xs : List Int} {f : Int} {ys us' vs' : List Int} {a' b' c' d' e' : Int} {xs' : List Int} {f' : Int} {ys' : List Int}
  (r : IsV l k n ws us vs a b c d xs f ys us' vs' a' b' c' d' e' xs' f' ys')
include hl r
theorem vector_Check_yes (K : Bool → Option R) : vector_Check k n ws us vs a b c d xs f ys us' vs' a' b' c' d' e' xs' f' ys' K = K true := by
  have hl2 : l.length ≤ 1048576 := by omega
  rw [vector_Check_unf]; unfold vector_Check_B
  cases r with
  | plain =>
    rw [vector_spare_spec _ _ _ _ _ (by rw [supF_length]; omega) (by rw [subF_length]; omega) _ _ _ _ _ _ _ _ _ (by decide) (by decide)]
    rw [show spV 1 _ (emR 0 0 0 0 [] 0 [] [] []) (emF 0 0 0 0 0 [] 0 []) = true from rfl, Bool.not_true, Ev.sel_false, sel_pos rfl, plain_Check_spec _ _ (Ws_wds hl2) _ _ (by rw [supF_length]; omega) (by rw [subF_length]; omega), okP_wds l hl2]
  | rrr =>
    obtain ⟨_, _, s3, s4⟩ := IsR.short hl2
    rw [vector_spare_spec _ _ _ _ _ (by decide) (by decide) _ _ _ _ _ _ _ _ _ s3 s4]
    rw [show spV 2 (emP 0 [] [] []) _ (emF 0 0 0 0 0 [] 0 []) = true from rfl, Bool.not_true, Ev.sel_false, sel_neg (by decide), sel_pos rfl, rrr_Check_yes hl2 ⟨rfl, rfl, rfl, rfl, rfl, rfl, rfl, rfl, rfl⟩]
  | fano =>
    rw [vector_spare_spec _ _ _ _ _ (by decide) (by decide) _ _ _ _ _ _ _ _ _ (by decide) (by decide)]
    rw [show spV 3 (emP 0 [] [] []) (emR 0 0 0 0 [] 0 [] [] []) _ = true from rfl, Bool.not_true, Ev.sel_false, sel_neg (by decide), sel_neg (by decide), sel_pos rfl, fano_Check_yes l hl]
theorem vector_Access_yes (i : Int) (hi : -9223372036854775808 ≤ i) (hi2 : i ≤ 9223372036854775807) (K : Bool → Int → Option R) : vector_Access k n ws us vs a b c d xs f ys us' vs' a' b' c' d' e' xs' f' ys' i K = K (accB l i).1 (accB l i).2 := by
  have hl2 : l.length ≤ 1048576 := by omega
  have hc := vector_Check_yes (R := R) hl r
  rw [vector_Access_unf]; unfold vector_Access_B
  rw [hc, Bool.not_true, Ev.sel_false]
  cases r with
  | plain =>
    rw [sel_pos rfl, plain_Access_spec _ _ (Ws_wds hl2) _ _ (by rw [supF_length]; omega) (by rw [subF_length]; omega) _ hi hi2, if_pos (okP_wds l hl2)]
    have e : getS (l.length : Int) (wds l) i = accB l i := by
      unfold getS accB
      rw [if_pos (okRow_of l hl2)]
      split
      · rfl
      · rw [bitAt_wds]
    rw [e]
  | rrr => rw [sel_neg (by decide), sel_pos rfl, rrr_Access_yes hl2 ⟨rfl, rfl, rfl, rfl, rfl, rfl, rfl, rfl, rfl⟩]
  | fano => rw [sel_neg (by decide), sel_neg (by decide), fano_Access_yes l hl]; rfl
theorem vector_Rank_yes (bit : Bool) (i : Int) (K : Int → Int → Option R) : vector_Rank k n ws us vs a b c d xs f ys us' vs' a' b' c' d' e' xs' f' ys' bit i K = K (rnkB l bit i).1 (rnkB l bit i).2 := by
  have hl2 : l.length ≤ 1048576 := by omega
  have hc := vector_Check_yes (R := R) hl r
  rw [vector_Rank_unf]; unfold vector_Rank_B
  rw [hc, Bool.not_true, Ev.sel_false]
  cases r with
  | plain =>
    rw [sel_pos rfl, plain_Rank_spec _ _ (Ws_wds hl2) _ _ (by rw [supF_length]; omega) (by rw [subF_length]; omega)]
    have e : rankP (l.length : Int) (wds l) (supF l) (subF l) bit i = rnkB l bit i := by
      unfold rankP rnkB
      rw [if_pos (okP_wds l hl2), rowB_wds]
    rw [e]
  | rrr => rw [sel_neg (by decide), sel_pos rfl, rrr_Rank_yes hl2 ⟨rfl, rfl, rfl, rfl, rfl, rfl, rfl, rfl, rfl⟩]
  | fano => rw [sel_neg (by decide), sel_neg (by decide), fano_Rank_yes l hl]; rfl
theorem vector_Select_yes (bit : Bool) (i : Int) (K : Int → Int → Option R) : vector_Select k n ws us vs a b c d xs f ys us' vs' a' b' c' d' e' xs' f' ys' bit i K = K (selB l bit i).1 (selB l bit i).2 := by
  have hl2 : l.length ≤ 1048576 := by omega
  have hc := vector_Check_yes (R := R) hl r
  rw [vector_Select_unf]; unfold vector_Select_B
  rw [hc, Bool.not_true, Ev.sel_false]
  cases r with
  | plain =>
    rw [sel_pos rfl, plain_Select_spec _ _ (Ws_wds hl2) _ _ (by rw [supF_length]; omega) (by rw [subF_length]; omega)]
    have e : selP (l.length : Int) (wds l) (supF l) (subF l) bit i = selB l bit i := by
      unfold selP selB
      rw [if_pos (okP_wds l hl2), rowB_wds]
      split
      · rfl
      · cases placeB l bit i.toNat <;> rfl
    rw [e]
  | rrr => rw [sel_neg (by decide), sel_pos rfl, rrr_Select_yes hl2 ⟨rfl, rfl, rfl, rfl, rfl, rfl, rfl, rfl, rfl⟩]
  | fano => rw [sel_neg (by decide), sel_neg (by decide), fano_Select_yes l hl]; rfl
theorem vector_Bits_yes (K : Int → List Int → Option R) : vector_Bits k n ws us vs a b c d xs f ys us' vs' a' b' c' d' e' xs' f' ys' K = K (l.length : Int) (ci (wds l)) := by
  have hl2 : l.length ≤ 1048576 := by omega
  have hc := vector_Check_yes (R := R) hl r
  rw [vector_Bits_unf]; unfold vector_Bits_B
  rw [hc, Bool.not_true, Ev.sel_false]
  cases r with
  | plain => rw [sel_pos rfl, plain_Bits_spec _ _ (Ws_wds hl2) _ _ (by rw [supF_length]; omega) (by rw [subF_length]; omega), if_pos (okP_wds l hl2)]
  | rrr => rw [sel_neg (by decide), sel_pos rfl, rrr_Bits_yes hl2 ⟨rfl, rfl, rfl, rfl, rfl, rfl, rfl, rfl, rfl⟩]
  | fano => rw [sel_neg (by decide), sel_neg (by decide), fano_Bits_yes l hl]
theorem vector_Size_yes (K : Int → Option R) : ∃ z : Int, 0 < z ∧ vector_Size k n ws us vs a b c d xs f ys us' vs' a' b' c' d' e' xs' f' ys' K = K z := by
  have hl2 : l.length ≤ 1048576 := by omega
  have hc := vector_Check_yes (R := R) hl r
  rw [vector_Size_unf]; unfold vector_Size_B
  rw [hc, Bool.not_true, Ev.sel_false]
  cases r with
  | plain =>
    rw [sel_pos rfl, plain_Size_spec _ _ (Ws_wds hl2) _ _ (by rw [supF_length]; omega) (by rw [subF_length]; omega)]
    refine ⟨_, ?_, rfl⟩
    unfold sizeP
    rw [if_pos (okP_wds l hl2), supF_length]; omega
  | rrr =>
    rw [sel_neg (by decide), sel_pos rfl, rrr_Size_yes hl2 ⟨rfl, rfl, rfl, rfl, rfl, rfl, rfl, rfl, rfl⟩]
    exact ⟨_, by unfold sizR NG; omega, rfl⟩
  | fano =>
    rw [sel_neg (by decide), sel_neg (by decide), fano_Size_yes l hl]
    exact ⟨_, by omega, rfl⟩
end
end
end Go.Proofs.YtofblchonjfdbaaGreatDoor
