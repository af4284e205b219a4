/- Layer 2: the document's Bools, From and Join. -/
import Derived.Test.YtdojekdcdoaccaaDoorBitsRef
namespace Go.Proofs.YtdojekdcdoaccaaDoor
open Go Go.Ev
section
variable {R : Type}
theorem haystackref02_At_spec (n : Int) (ws : List Nat) (hw : ∀ w ∈ ws, w < 2 ^ 64) (i : Nat) (hi : i / 64 < ws.length) (hi2 : i < 4611686018427387904) (K : Bool → Option R) : haystackref02_At n (ci ws) (i : Int) K = K (bitAt ws i) := by
  rw [haystackref02_At_unf]; unfold haystackref02_At_B
  have hl := getD_lt hw (i / 64)
  rw [quo64 i hi2, rem64 i, ci_length, sel_pos (by omega), sel_pos (by omega), cvtW_u64 (by omega) (by omega), sel_pos (by omega), letV_eq, Int.toNat_natCast, ci_getD, shrW_u64 _ _ hl, show (2 : Int) = ((2 : Nat) : Int) from rfl, remW_nat]
  congr 1
  unfold bitAt
  rw [Bool.eq_iff_iff, decide_eq_true_iff, ← bit_mod]
  omega
theorem take_snoc (l : List Bool) {i : Nat} (h : i < l.length) : l.take i ++ [l.getD i false] = l.take (i + 1) := by
  rw [List.take_add_one, List.getD_eq_getElem?_getD, List.getElem?_eq_getElem h]; rfl
theorem haystackref02_New_r_spec (n : Int) (K0 : Int → Int → Option R) (K1 : Int → Nat → Int → List Int → Option R) : haystackref02_New_r n K0 K1 = if n < 0 ∨ 1048576 < n then K0 0 2 else K1 n ((n.toNat + 63) / 64) 0 (ci (List.replicate ((n.toNat + 63) / 64) 0)) := by
  have j3 : ∀ (b : Bool) (e : Int) (K0 K1 : Int → Int → Option R), haystackref02_New_j3 n b e K0 K1 = sel b (K0 2 0) (K1 n e) := fun b e K0 K1 => by
    rw [haystackref02_New_j3_unf]; unfold haystackref02_New_j3_B; rfl
  rw [haystackref02_New_r_unf]; unfold haystackref02_New_r_B
  by_cases h1 : n < 0
  · rw [sel_pos h1, j3, Ev.sel_true, if_pos (.inl h1)]
  rw [sel_neg h1, j3]
  by_cases h2 : 1048576 < n
  · rw [sel_pos h2, if_pos (.inr h2)]
  rw [sel_neg h2, if_neg (by omega), haystackref02_New_j4_unf]; unfold haystackref02_New_j4_B
  rw [haystackref02_Words_spec _ (by omega) (by omega), sel_pos (by omega), sel_pos (by omega), sel_pos (by omega), sel_pos (by omega), letV_eq, ci_zeros, show ((n + 63) / 64).toNat = (n.toNat + 63) / 64 by omega]
/-- a row half filled -/
structure Fill (l : List Bool) (j L : Nat) (W : List Nat) : Prop where
  len : W.length = L
  lt : ∀ w ∈ W, w < 2 ^ 64
  at_ : ∀ i, bitAt W i = (l.take j).getD i false
theorem Fill.zero (l : List Bool) (L : Nat) : Fill l 0 L (List.replicate L 0) := ⟨by simp, fun w hw => by rw [(List.mem_replicate.1 hw).2]; decide, fun i => by rw [bitAt_zeros]; simp⟩
theorem Fill.step {l : List Bool} {j L : Nat} {W : List Nat} (f : Fill l j L W) (hL : L = (l.length + 63) / 64) (hj : j < l.length) : Fill l (j + 1) L (putW W j (l.getD j false)) := by
  refine ⟨by rw [putW_length, f.len], putW_lt f.lt _ _, fun i => ?_⟩
  rw [bitAt_putW f.lt _ _ (by rw [f.len, hL]; omega), f.at_, getD_take, getD_take]
  by_cases h : i = j
  · subst h; simp
  · rw [if_neg h]
    by_cases h2 : i < j
    · have : i < j + 1 := by omega
      simp [h2, this]
    · have : ¬ i < j + 1 := by omega
      simp [h2, this]
theorem Fill.done {l : List Bool} {L : Nat} {W : List Nat} (f : Fill l l.length L W) (hL : L = (l.length + 63) / 64) : W = wds l :=
  wds_eq (by rw [f.len, hL]) f.lt fun i => by rw [f.at_, List.take_length]
theorem ref_From_loop (l : List Bool) (hl : l.length ≤ 1048576) (n1 n2 : Int) (L : Nat) (hL : L = (l.length + 63) / 64) (K : Int → Int → Int → Nat → List Int → Option R) : ∀ (N j : Nat) (W : List Nat), j ≤ l.length → l.length - j < N → Fill l j L W →
    haystackref02_From_l4_1_L K N l n1 (j : Int) n2 (l.length : Int) L (ci W) = K n1 n2 (l.length : Int) L (ci (wds l))
  | 0, _, _, _, h, _ => by omega
  | N + 1, j, W, h1, h2, f => by
    simp only [haystackref02_From_l4_1_L, haystackref02_From_l4_1_T]
    by_cases h : j < l.length
    · rw [sel_pos (by omega), sel_pos (by omega), sel_pos (by omega), Int.toNat_natCast, haystackref02_put_r_spec W f.lt L f.len.symm j (by rw [f.len]; omega) (by omega), addW_i64 (by omega) (by omega), show (j : Int) + 1 = ((j + 1 : Nat) : Int) by omega]
      exact ref_From_loop l hl n1 n2 L hL K N (j + 1) _ (by omega) (by omega) (f.step hL h)
    · have : j = l.length := by omega
      subst this
      rw [sel_neg (by omega), f.done hL]
theorem haystackref02_From_spec (l : List Bool) (hl : l.length ≤ 1048576) (K : Int → List Int → Int → Option R) : haystackref02_From l K = K (l.length : Int) (ci (wds l)) 0 := by
  rw [haystackref02_From_unf]; unfold haystackref02_From_B
  rw [haystackref02_New_r_spec, if_neg (by omega), haystackref02_From_l4_1_unf]; unfold haystackref02_From_l4_1_B
  rw [Int.toNat_natCast]
  refine (ref_From_loop l hl _ _ _ rfl _ NR 0 _ (by omega) (by have := NR_lt; omega) (Fill.zero l _)).trans ?_
  exact live_out (wds_length l).symm K
end
end Go.Proofs.YtdojekdcdoaccaaDoor
