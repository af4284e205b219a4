/- Layer 2: the document's Bools, From and Join. -/
import Derived.Test.YtdojekdcdoaccaaDoorBitsRef
namespace Go.Proofs.YtdojekdcdoaccaaDoor
open Go Go.Ev
section
variable {R : Type}
theorem haystackref02_At_spec (n : Int) (ws : List Nat) (hw : ∀ w ∈ ws, w < 2 ^ 64) (i : Nat) (hi : i / 64 < ws.length) (hi2 : i < 4611686018427387904) (K : Bool → Option R) : haystackref02_At n (ci ws) (i : Int) K = K (bitAt ws i) := by
  rw [haystackref02_At_unf]; unfold haystackref02_At_B
  have hl := getD_lt hw (i / 64)
  rw [quo64 i hi2, rem64 i, ci_length, sel_pos (by omega), sel_pos (by omega), cvtW_u64 (by omega) (by omega), sel_pos (by omega), letV_eq, Int.toNat_natCast, ci_getD, shrW_u64 _ _ hl, show (2 : Int) = ((2 : Nat) : Int) from rfl, remW_nat]
  congr 1
  unfold bitAt
  rw [Bool.eq_iff_iff, decide_eq_true_iff, ← bit_mod]
  omega
theorem take_snoc (l : List Bool) {i : Nat} (h : i < l.length) : l.take i ++ [l.getD i false] = l.take (i + 1) := by
  rw [List.take_add_one, List.getD_eq_getElem?_getD, List.getElem?_eq_getElem h]; rfl
/-- a row half filled -/
structure Fill (l : List Bool) (j L : Nat) (W : List Nat) : Prop where
  len : W.length = L
  lt : ∀ w ∈ W, w < 2 ^ 64
  at_ : ∀ i, bitAt W i = (l.take j).getD i false
theorem Fill.zero (l : List Bool) (L : Nat) : Fill l 0 L (List.replicate L 0) := ⟨by simp, fun w hw => by rw [(List.mem_replicate.1 hw).2]; decide, fun i => by rw [bitAt_zeros]; simp⟩
theorem Fill.step {l : List Bool} {j L : Nat} {W : List Nat} (f : Fill l j L W) (hL : L = (l.length + 63) / 64) (hj : j < l.length) : Fill l (j + 1) L (putW W j (l.getD j false)) := by
  refine ⟨by rw [putW_length, f.len], putW_lt f.lt _ _, fun i => ?_⟩
  rw [bitAt_putW f.lt _ _ (by rw [f.len, hL]; omega), f.at_, getD_take, getD_take]
  by_cases h : i = j
  · subst h; simp
  · rw [if_neg h]
    by_cases h2 : i < j
    · have : i < j + 1 := by omega
      simp [h2, this]
    · have : ¬ i < j + 1 := by omega
      simp [h2, this]
theorem Fill.done {l : List Bool} {L : Nat} {W : List Nat} (f : Fill l l.length L W) (hL : L = (l.length + 63) / 64) : W = wds l :=
  wds_eq (by rw [f.len, hL]) f.lt fun i => by rw [f.at_, List.take_length]
end
end Go.Proofs.YtdojekdcdoaccaaDoor
