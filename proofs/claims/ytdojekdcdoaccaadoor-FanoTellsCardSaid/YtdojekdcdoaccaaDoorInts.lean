/- Layer 3: rows of numbers: what is made, told, put. -/
import Derived.Test.YtdojekdcdoaccaaDoorBitsD
import Derived.Test.YtdojekdcdoaccaaDoorWordC
import Derived.Test.YtdojekdcdoaccaaDoorW13
namespace Go.Proofs.YtdojekdcdoaccaaDoor
open Go Go.Ev
section
variable {R : Type}
theorem max2_nat (a b : Nat) : max2 (a : Int) (b : Int) = ((max a b : Nat) : Int) := by unfold max2; split <;> omega
theorem ints_width_loop (us : List Nat) (hu : ∀ u ∈ us, u < 2 ^ 64) (hl : us.length < 1000000000) (K0 : Int → Option R) : ∀ (N i : Nat), i ≤ us.length → us.length - i < N →
    ints_width_l4_L K0 N ((widT us i : Nat) : Int) (ci us) (us.length : Int) (i : Int) = K0 ((widL us : Nat) : Int)
  | 0, _, _, h => by omega
  | N + 1, i, h1, h2 => by
    simp only [ints_width_l4_L, ints_width_l4_T]
    by_cases h : i < us.length
    · rw [ci_length, sel_pos (by omega), sel_pos (by omega), sel_pos (by omega), Int.toNat_natCast, ci_getD, word_Len_spec _ (getD_lt hu i), max2_nat, addW_i64 (by omega) (by omega), show (i : Int) + 1 = ((i + 1 : Nat) : Int) by omega]
      exact ints_width_loop us hu hl K0 N (i + 1) (by omega) (by omega)
    · have : i = us.length := by omega
      subst this
      rw [sel_neg (by omega)]; rfl
theorem ints_width_spec (us : List Nat) (hu : ∀ u ∈ us, u < 2 ^ 64) (hl : us.length < 1000000000) (K : Int → Option R) : ints_width (ci us) K = K ((widL us : Nat) : Int) := by
  rw [ints_width_unf]; unfold ints_width_B
  rw [ints_width_l4_unf]; unfold ints_width_l4_B
  rw [ci_length]
  exact ints_width_loop us hu hl _ NR 0 (by omega) (by have := NR_lt; omega)
theorem catI_take (us : List Nat) (w : Nat) {i : Nat} (h : i < us.length) : catI w (us.take (i + 1)) = catI w (us.take i) ++ lowB (us.getD i 0) w := by
  rw [List.take_succ_eq_append_getElem h, catI_append, catI_one, List.getD_eq_getElem?_getD, List.getElem?_eq_getElem h]; rfl
/-- one number more -/
theorem append_num (us : List Nat) (w : Nat) (hw : w ≤ 64) (hm : us.length * w ≤ 1048576) {i : Nat} (h : i < us.length) : appendS ((i * w : Nat) : Int) (wds (catI w (us.take i))) (us.getD i 0) (w : Int) = ((((i + 1) * w : Nat) : Int), wds (catI w (us.take (i + 1))), 0) := by
  have hi : (i + 1) * w ≤ us.length * w := Nat.mul_le_mul_right _ (by omega)
  have hl : (catI w (us.take i)).length = i * w := by rw [catI_length, List.length_take, Nat.min_eq_left (by omega)]
  have e1 : (i + 1) * w = i * w + w := by rw [Nat.add_mul]; omega
  have hok := okRow_of (catI w (us.take i)) (by omega)
  rw [hl] at hok
  unfold appendS
  rw [if_pos ⟨hok, by omega, by omega⟩, ← hl, rowB_wds, Int.toNat_natCast, hl, catI_take us w h, e1]
  rfl
theorem Ws_cat (us : List Nat) (w : Nat) (h : us.length * w ≤ 1048576) (i : Nat) : Ws (wds (catI w (us.take i))) := by
  refine ⟨fun x hx => wds_lt hx, ?_⟩
  have : (us.take i).length * w ≤ us.length * w := Nat.mul_le_mul_right _ (by rw [List.length_take]; omega)
  rw [wds_length, catI_length]; omega
theorem ints_Make_loop (us : List Nat) (hu : ∀ u ∈ us, u < 2 ^ 64) (w : Nat) (hw : w ≤ 64) (hw1 : 1 ≤ w) (hm : us.length * w ≤ 1048576) (a b c : Int) (K0 : Int → List Int → Int → Int → Int → Int → List Int → Option R) : ∀ (N i : Nat), i ≤ us.length → us.length - i < N →
    ints_Make_l6_L K0 N (w : Int) (ci us) (ci us) (us.length : Int) (i : Int) a b c ((i * w : Nat) : Int) (ci (wds (catI w (us.take i)))) = K0 (w : Int) (ci us) a b c ((us.length * w : Nat) : Int) (ci (wds (catI w us)))
  | 0, _, _, h => by omega
  | N + 1, i, h1, h2 => by
    have hle : us.length ≤ us.length * w := Nat.le_mul_of_pos_right _ hw1
    simp only [ints_Make_l6_L, ints_Make_l6_T]
    by_cases h : i < us.length
    · rw [ci_length, sel_pos (by omega), sel_pos (by omega), sel_pos (by omega), Int.toNat_natCast, ci_getD, bits_Append_spec _ _ (Ws_cat us w hm i) _ (getD_lt hu i), append_num us w hw hm h, addW_i64 (by omega) (by omega), show (i : Int) + 1 = ((i + 1 : Nat) : Int) by omega]
      exact ints_Make_loop us hu w hw hw1 hm a b c K0 N (i + 1) (by omega) (by omega)
    · have : i = us.length := by omega
      subst this
      rw [sel_neg (by omega), List.take_length]
theorem quo_most {w n : Nat} (hw : 1 ≤ w) : ¬ quoW .i64 1048576 (w : Int) < (n : Int) ↔ n * w ≤ 1048576 := by
  rw [quoW_nat (by omega) (by omega) (by omega), show (1048576 : Int) / (w : Int) = ((1048576 / w : Nat) : Int) from (Int.natCast_ediv 1048576 w).symm]
  rw [show (¬ ((1048576 / w : Nat) : Int) < (n : Int)) ↔ n ≤ 1048576 / w by omega, Nat.le_div_iff_mul_le (by omega)]
theorem makeI_no {w : Int} {us : List Nat} (h : ¬ (1 ≤ w ∧ w ≤ 64 ∧ (us.length : Int) * w ≤ 1048576 ∧ (widL us : Int) ≤ w)) : makeI w us = (0, 0, 0, [], 2) := if_neg h
theorem makeI_yes {w : Nat} {us : List Nat} (h1 : 1 ≤ w) (h2 : w ≤ 64) (h3 : us.length * w ≤ 1048576) (h4 : widL us ≤ w) : makeI (w : Int) us = ((us.length : Int), (w : Int), ((us.length * w : Nat) : Int), wds (catI w us), 0) := by
  unfold makeI
  rw [if_pos ⟨by omega, by omega, by rw [← Int.natCast_mul]; omega, by omega⟩, Int.toNat_natCast, Int.natCast_mul]
theorem new0 : newS 0 = (0, [], 0) := by decide
theorem cat0 (w : Nat) (us : List Nat) : wds (catI w (us.take 0)) = [] := by simp [catI, wds]
theorem ints_Make_spec (w : Int) (us : List Nat) (hu : ∀ u ∈ us, u < 2 ^ 64) (hl : us.length < 1000000000) (K : Int → Int → Int → List Int → Int → Option R) :
    ints_Make w (ci us) K = K (makeI w us).1 (makeI w us).2.1 (makeI w us).2.2.1 (ci (makeI w us).2.2.2.1) (makeI w us).2.2.2.2 := by
  have bad : ∀ (K0 : Int → Int → Int → Int → Option R) (K1 : Int → List Int → Int → Int → Int → Option R), ints_Make_j3 w (ci us) true 0 0 0 K0 K1 = K0 2 0 0 0 := fun K0 K1 => by
    rw [ints_Make_j3_unf]; unfold ints_Make_j3_B; rfl
  rw [ints_Make_unf]; unfold ints_Make_B
  by_cases h1 : w < 1
  · rw [sel_pos h1, bad, makeI_no (by omega)]; rfl
  by_cases h2 : 64 < w
  · rw [sel_neg h1, sel_pos h2, bad, makeI_no (by omega)]; rfl
  obtain ⟨v, rfl⟩ : ∃ v : Nat, w = (v : Int) := ⟨w.toNat, by omega⟩
  have hq := quo_most (w := v) (n := us.length) (by omega)
  rw [sel_neg h1, sel_neg h2, sel_neg (by omega), ci_length]
  by_cases h3 : us.length * v ≤ 1048576
  · rw [sel_neg (hq.2 h3), ints_width_spec us hu hl]
    by_cases h4 : widL us ≤ v
    · rw [decide_eq_false (by omega), makeI_yes (by omega) (by omega) h3 h4, ints_Make_j3_unf]; unfold ints_Make_j3_B
      rw [Ev.sel_false]
      show ints_Make_j4 _ _ _ _ _ _ = _
      rw [ints_Make_j4_unf]; unfold ints_Make_j4_B
      rw [bits_New_spec, new0, ints_Make_l6_unf]; unfold ints_Make_l6_B
      rw [ci_length]
      have := ints_Make_loop us hu v (by omega) (by omega) h3 0 0 0 (fun (n473 : Int) (xs474 : List Int) (_ _ _ n478 : Int) (xs479 : List Int) => K ((xs474.length : Nat) : Int) n473 n478 xs479 0) NR 0 (by omega) (by have := NR_lt; omega)
      rw [Nat.zero_mul, cat0] at this
      refine Eq.trans (by exact this) ?_
      rw [ci_length]
    · rw [decide_eq_true (by omega), bad, makeI_no (by omega)]; rfl
  · rw [sel_pos (Decidable.not_not.1 fun h => h3 (hq.1 h)), bad, makeI_no (by rw [← Int.natCast_mul]; omega)]; rfl
/-! ### what rows tell -/
theorem ints_Check_spec (N w n : Int) (ws : List Nat) (hw : Ws ws) (K : Bool → Option R) : ints_Check N w n (ci ws) K = K (okI N w n ws) := by
  rw [ints_Check_unf]; unfold ints_Check_B okI
  by_cases h1 : 1 ≤ w
  · rw [sel_pos h1]
    by_cases h2 : w ≤ 64
    · rw [sel_pos h2]
      by_cases h3 : 0 ≤ N
      · rw [sel_pos h3]
        by_cases h4 : N ≤ 1048576
        · obtain ⟨a, rfl⟩ : ∃ a : Nat, N = (a : Int) := ⟨N.toNat, by omega⟩
          obtain ⟨b, rfl⟩ : ∃ b : Nat, w = (b : Int) := ⟨w.toNat, by omega⟩
          have hm : a * b ≤ 1048576 * 64 := Nat.mul_le_mul (by omega) (by omega)
          rw [sel_pos h4, bits_Check_spec n ws hw, decide_eq_true (show (1 : Int) ≤ (b : Int) ∧ (b : Int) ≤ 64 ∧ (0 : Int) ≤ (a : Int) ∧ (a : Int) ≤ 1048576 from ⟨h1, h2, h3, h4⟩), Bool.true_and, mulW_i64 (by rw [← Int.natCast_mul]; omega) (by rw [← Int.natCast_mul]; omega)]
          cases okRow n ws <;> rfl
        · rw [sel_neg h4, decide_eq_false (by omega)]; rfl
      · rw [sel_neg h3, decide_eq_false (by omega)]; rfl
    · rw [sel_neg h2, decide_eq_false (by omega)]; rfl
  · rw [sel_neg h1, decide_eq_false (by omega)]; rfl
theorem ints_has_spec (N w n : Int) (ws : List Nat) (hw : Ws ws) (i : Int) (K0 : Int → Option R) (K1 : Unit → Option R) : ints_has N w n (ci ws) i K0 K1 = if okI N w n ws = true then (if i < 0 ∨ N ≤ i then K0 3 else K1 ()) else K0 2 := by
  rw [ints_has_unf]; unfold ints_has_B
  rw [ints_Check_spec N w n ws hw]
  have j5 : ∀ (b : Bool) (K0 : Int → Option R) (K1 : Unit → Option R), ints_has_j5 b K0 K1 = if b = true then K0 3 else K1 () := fun b K0 K1 => by
    rw [ints_has_j5_unf]; unfold ints_has_j5_B; cases b <;> rfl
  cases okI N w n ws with
  | false => rfl
  | true =>
    rw [Bool.not_true, Ev.sel_false, if_pos rfl]
    by_cases h1 : i < 0
    · rw [sel_pos h1, j5, if_pos rfl, if_pos (.inl h1)]
    · rw [sel_neg h1, j5]
      by_cases h2 : N ≤ i
      · rw [if_pos (decide_eq_true h2), if_pos (.inr h2)]
      · rw [if_neg (by simpa using h2), if_neg (by omega)]
theorem okI_Ws {N w n : Int} {ws : List Nat} (h : okI N w n ws = true) (hw : Ws ws) {a b : Nat} (e1 : N = (a : Int)) (e2 : w = (b : Int)) : n = ((a * b : Nat) : Int) ∧ okRow n ws = true ∧ 1 ≤ b ∧ b ≤ 64 ∧ a ≤ 1048576 ∧ a * b ≤ 1048576 := by
  obtain ⟨a', b', l, f1, f2, f3, f4, f5, f6, f7, f8, f9⟩ := okI_is h hw.1
  have : a' = a := by omega
  have : b' = b := by omega
  subst_vars
  refine ⟨rfl, ?_, f6, f7, f8, f9⟩
  have := okRow_of l (by omega)
  rwa [f5] at this
theorem slice_num {a b : Nat} {n : Int} {ws : List Nat} (hn : n = ((a * b : Nat) : Int)) (hok : okRow n ws = true) (h1 : 1 ≤ b) (h2 : b ≤ 64) {i : Nat} (hi : i < a) : sliceS n ws ((i * b : Nat) : Int) (b : Int) = (((sliceN ws (i * b) b : Nat) : Int), 0) := by
  have : (i + 1) * b ≤ a * b := Nat.mul_le_mul_right _ (by omega)
  rw [Nat.add_mul] at this
  unfold sliceS
  rw [if_pos ⟨hok, by omega⟩, if_neg (by omega), Int.toNat_natCast, Int.toNat_natCast]
theorem ints_Get_spec (N w n : Int) (ws : List Nat) (hw : Ws ws) (i : Int) (K : Int → Int → Option R) : ints_Get N w n (ci ws) i K = K (getI N w n ws i).1 (getI N w n ws i).2 := by
  rw [ints_Get_unf]; unfold ints_Get_B getI
  rw [ints_has_spec N w n ws hw]
  cases hok : okI N w n ws with
  | false => rfl
  | true =>
    rw [if_pos rfl, if_pos rfl]
    by_cases h : i < 0 ∨ N ≤ i
    · rw [if_pos h, if_pos h]
    · rw [if_neg h, if_neg h]
      obtain ⟨a, b, l, rfl, rfl, rfl, rfl, hl, f6, f7, f8, f9⟩ := okI_is hok hw.1
      obtain ⟨k, rfl⟩ : ∃ k : Nat, i = (k : Int) := ⟨i.toNat, by omega⟩
      have hk : k < a := by omega
      have hm : k * b ≤ a * b := Nat.mul_le_mul_right _ (by omega)
      obtain ⟨_, g2, _⟩ := okI_Ws hok hw rfl rfl
      rw [mulW_i64 (by rw [← Int.natCast_mul]; omega) (by rw [← Int.natCast_mul]; omega), ← Int.natCast_mul, bits_Slice_spec _ _ hw _ _ (by omega) (by omega), slice_num rfl g2 f6 f7 hk, Int.toNat_natCast, Int.toNat_natCast]
theorem set_next (us : List Nat) (ws : List Nat) (b i n : Nat) (hi : i < n) : (numW ws b i ++ List.replicate (n - i) 0).set i (sliceN ws (i * b) b) = numW ws b (i + 1) ++ List.replicate (n - (i + 1)) 0 := by
  rw [List.set_append_right _ _ (by rw [numW_length]; omega), numW_length, Nat.sub_self, numW_succ, List.append_assoc, show n - i = (n - (i + 1)) + 1 by omega, List.replicate_succ, List.set_cons_zero]
  rfl
theorem ints_List_loop (a b : Nat) (n : Int) (ws : List Nat) (hw : Ws ws) (hn : n = ((a * b : Nat) : Int)) (hok : okRow n ws = true) (h1 : 1 ≤ b) (h2 : b ≤ 64) (h3 : a * b ≤ 1048576) (K0 : Nat → List Int → Option R) : ∀ (N i : Nat), i ≤ a → a - i < N →
    ints_List_l6_L K0 N a (a : Int) (i : Int) (a : Int) (b : Int) n (ci ws) (ci (numW ws b i ++ List.replicate (a - i) 0)) = K0 a (ci (numW ws b a))
  | 0, _, _, h => by omega
  | N + 1, i, g1, g2 => by
    have hle : a ≤ a * b := Nat.le_mul_of_pos_right _ h1
    simp only [ints_List_l6_L, ints_List_l6_T]
    by_cases h : i < a
    · have hm : i * b ≤ a * b := Nat.mul_le_mul_right _ (by omega)
      rw [sel_pos (by omega), mulW_i64 (by rw [← Int.natCast_mul]; omega) (by rw [← Int.natCast_mul]; omega), ← Int.natCast_mul, bits_Slice_spec _ _ hw _ _ (by omega) (by omega), slice_num hn hok h1 h2 h, sel_pos (by omega), sel_pos (by omega), ci_length, List.length_append, numW_length, List.length_replicate, sel_pos (by omega), letV_eq, Int.toNat_natCast, ci_set, set_next [] ws b i a h, addW_i64 (by omega) (by omega), show (i : Int) + 1 = ((i + 1 : Nat) : Int) by omega]
      exact ints_List_loop a b n ws hw hn hok h1 h2 h3 K0 N (i + 1) (by omega) (by omega)
    · have : i = a := by omega
      subst this
      rw [sel_neg (by omega), Nat.sub_self, List.replicate_zero, List.append_nil]
theorem ints_List_spec (N w n : Int) (ws : List Nat) (hw : Ws ws) (K : List Int → Option R) : ints_List N w n (ci ws) K = K (ci (listI N w n ws)) := by
  rw [ints_List_unf]; unfold ints_List_B listI
  rw [ints_Check_spec N w n ws hw]
  cases hok : okI N w n ws with
  | false => rfl
  | true =>
    obtain ⟨a, b, l, rfl, rfl, rfl, rfl, hl, f6, f7, f8, f9⟩ := okI_is hok hw.1
    obtain ⟨_, g2, _⟩ := okI_Ws hok hw rfl rfl
    rw [Bool.not_true, Ev.sel_false, sel_pos (by omega), sel_pos (by omega), sel_pos (by omega), sel_pos (by omega), letV_eq, Int.toNat_natCast, if_pos rfl, ints_List_l6_unf, ci_zeros]; unfold ints_List_l6_B
    refine (show _ = _ from ints_List_loop a b _ (wds l) hw rfl g2 f6 f7 f9 (fun (l399 : Nat) (xs400 : List Int) => sel (decide (l399 = List.length xs400)) (K xs400) none) NR 0 (by omega) (by have := NR_lt; omega)).trans ?_
    rw [sel_pos (by rw [ci_length, numW_length])]
    rfl
theorem Ws_num {ws : List Nat} {b : Nat} (hb : b ≤ 64) (n : Nat) : ∀ u ∈ numW ws b n, u < 2 ^ 64 := fun u h => Nat.lt_of_lt_of_le (numW_lt ws b n u h) (Nat.pow_le_pow_right (by decide) hb)
theorem mem_set {l : List Nat} {i v u : Nat} (h : u ∈ l.set i v) : u ∈ l ∨ u = v := by
  rcases List.mem_or_eq_of_mem_set h with h | h
  · exact .inl h
  · exact .inr h
end
end Go.Proofs.YtdojekdcdoaccaaDoor
