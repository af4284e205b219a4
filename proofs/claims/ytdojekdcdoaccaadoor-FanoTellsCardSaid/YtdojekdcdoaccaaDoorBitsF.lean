/- Layer 7: From, its row left open. -/
import Derived.Test.YtdojekdcdoaccaaDoorBitsE
namespace Go.Proofs.YtdojekdcdoaccaaDoor
open Go Go.Ev
section
variable {R : Type}
theorem bits_FromV_loop (bs : List Bool) (hl : bs.length ≤ 1048576) (n n2 : Int) (L : Nat) (hL : L = (bs.length + 63) / 64) (K : Int → Int → Nat → List Int → Option R) : ∀ (N j : Nat) (W : List Nat), j ≤ bs.length → bs.length - j < N →
    W.length = L → (∀ w ∈ W, w < 2 ^ 64) → (∀ i, bitAt W i = (bs.take j).getD i false) →
    bits_From_l6_1_L K N bs (bs.length : Int) (j : Int) n n2 L (ci W) = K n n2 L (ci (wds bs))
  | 0, _, _, _, h, _, _, _ => by omega
  | N + 1, j, W, hj, hN, h1, h2, h3 => by
    simp only [bits_From_l6_1_L, bits_From_l6_1_T]
    by_cases h : j < bs.length
    · have hp : 2 ^ (j % 64) < 2 ^ 64 := Nat.pow_lt_pow_right (by decide) (Nat.mod_lt _ (by decide))
      have hjW : j / 64 < W.length := by omega
      rw [sel_pos (by omega), sel_pos (by omega), sel_pos (by omega), Int.toNat_natCast, addW_i64 (by omega) (by omega), show (j : Int) + 1 = ((j + 1 : Nat) : Int) by omega]
      cases hb : bs.getD j false with
      | true =>
        rw [Ev.sel_true, quo64 j (by omega), rem64 j, sel_pos (by omega), sel_pos (by omega), Int.toNat_natCast, ci_length, sel_pos hjW, sel_pos (by omega), sel_pos (by omega), sel_pos (by omega), sel_pos hjW, letV_eq, ci_getD,
          show (1 : Int) = ((1 : Nat) : Int) from rfl, shlW_u64 _ _ (by decide), Nat.one_mul, Nat.mod_eq_of_lt hp, orW_u64 _ _ (getD_lt h2 _) hp, ci_set]
        exact bits_FromV_loop bs hl n n2 L hL K N (j + 1) _ (by omega) (by omega) (by simpa using h1) (set_lt h2 (Nat.or_lt_two_pow (getD_lt h2 _) hp)) (take_set_bit bs W h2 j h hjW hb h3)
      | false =>
        rw [Ev.sel_false]
        refine bits_FromV_loop bs hl n n2 L hL K N (j + 1) W (by omega) (by omega) h1 h2 fun i => ?_
        rw [h3, getD_take, getD_take]
        by_cases a : i = j
        · subst a; simp only [hb]; simp
        · by_cases b : i < j
          · have c : i < j + 1 := by omega
            simp [b, c]
          · have c : ¬ i < j + 1 := by omega
            simp [b, c]
    · have : j = bs.length := by omega
      subst this
      rw [sel_neg (by omega)]
      congr 1
      apply congrArg
      apply wds_eq (by rw [h1, hL]) h2
      intro i
      rw [h3, List.take_length]
theorem bits_From_spec (bs : List Bool) (hl : bs.length ≤ 1048576) (K : Int → List Int → Int → Option R) :
    bits_From bs K = K bs.length (ci (wds bs)) 0 := by
  rw [bits_From_unf]; unfold bits_From_B
  rw [bits_New_r_spec, if_neg (by omega)]
  show bits_From_l6_1 _ _ _ _ _ _ _ _ = _
  rw [Int.toNat_natCast, bits_From_l6_1_unf]
  unfold bits_From_l6_1_B
  refine (bits_FromV_loop bs hl 0 _ _ rfl _ NR 0 _ (by omega) (by have := NR_lt; omega) (by simp) (fun w hw => by rw [(List.mem_replicate.1 hw).2]; decide) (fun i => by rw [bitAt_zeros]; simp)).trans ?_
  rw [sel_pos (by rw [ci_length, wds_length])]
end
end Go.Proofs.YtdojekdcdoaccaaDoor
