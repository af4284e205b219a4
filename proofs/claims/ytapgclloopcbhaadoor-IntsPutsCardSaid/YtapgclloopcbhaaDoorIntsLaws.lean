/- Layer 3: the laws are true, whatever the input. -/
import Derived.Test.YtapgclloopcbhaaDoorIntsRefB
import Derived.Test.YtapgclloopcbhaaDoorEvC
namespace Go.Proofs.YtapgclloopcbhaaDoor
open Go Go.Ev
section
variable {R : Type}
theorem ref03_Rows_r_loop (a b : List Int) (h : a.length = b.length) (ha : a.length < 4000000000) (K0 : Bool → List Int → Option R) (K1 : List Int → Option R) : ∀ (N j : Nat), j ≤ a.length → a.length - j < N →
    haystackref03_Rows_l5_L K0 K1 N a b.length (j : Int) b = if a.drop j = b.drop j then K1 b else K0 false b
  | 0, _, _, h => by omega
  | N + 1, j, hj, hN => by
    simp only [haystackref03_Rows_l5_L, haystackref03_Rows_l5_T]
    by_cases h1 : j < a.length
    · rw [sel_pos (by omega), sel_pos (by omega), sel_pos (by omega), sel_pos (by omega), sel_pos (by omega), Int.toNat_natCast, sel_pos (by omega), addW_i64 (by omega) (by omega), show (j : Int) + 1 = ((j + 1 : Nat) : Int) by omega]
      by_cases h2 : a.getD j 0 = b.getD j 0
      · rw [sel_npos h2, ref03_Rows_r_loop a b h ha K0 K1 N (j + 1) (by omega) (by omega)]
        simp only [drop_eq_iff a b h j h1, h2, true_and]
      · rw [sel_nneg h2]
        simp only [drop_eq_iff a b h j h1, h2, false_and, if_false]
    · rw [sel_neg (by omega), List.drop_of_length_le (by omega), List.drop_of_length_le (by omega), if_pos rfl]
theorem haystackref03_Rows_r_self (a : List Int) (ha : a.length < 4000000000) (l : Nat) (hl : l = a.length) (K : Bool → List Int → Option R) : haystackref03_Rows_r a l a K = K true a := by
  subst hl
  rw [haystackref03_Rows_r_unf]; unfold haystackref03_Rows_r_B
  rw [sel_npos rfl, haystackref03_Rows_l5_unf]
  unfold haystackref03_Rows_l5_B
  refine (ref03_Rows_r_loop a a rfl ha _ _ NR 0 (by omega) (by have := NR_lt; omega)).trans ?_
  rw [if_pos rfl]
theorem ints_Of_r_spec (us : List Nat) (hu : ∀ u ∈ us, u < 2 ^ 64) (hl : us.length < 1000000000) (l : Nat) (he : l = us.length) (K0 : Int → Int → Int → Int → List Int → Option R) (K1 : Int → Int → Int → List Int → Int → List Int → Option R) :
    ints_Of_r l (ci us) K0 K1 = ints_Make_r ((widL us : Nat) : Int) l (ci us) K0 K1 := by
  rw [ints_Of_r_unf]; unfold ints_Of_r_B
  rw [ints_width_r_spec us hu hl _ he]
theorem Ws_small {ws : List Nat} (h : ws.all (fun w => decide (w < 2 ^ 64)) = true) (hl : ws.length < 1000) : Ws ws := ⟨fun w hw => by simpa using List.all_eq_true.1 h w hw, by omega⟩
theorem heads03_spec (K : Bool → Option R) : haystacklaw03_heads K = K true := by
  have w51 : widL [5, 1] = 3 := by decide +kernel
  have c51 : wds (catI (Int.toNat ((3 : Nat) : Int)) [5, 1]) = [13] := by decide +kernel
  have p1 : putI 2 3 6 [13] 1 7 = (2, 3, 6, [61], 0) := by decide +kernel
  have p2 : putI 2 3 6 [13] 0 8 = (2, 3, 6, [13], 2) := by decide +kernel
  have g1 : getI 2 3 6 [61] 1 = (7, 0) := by decide +kernel
  have g2 : getI 2 3 6 [13] 2 = (0, 3) := by decide +kernel
  have m0 : makeI 0 [] = (0, 0, 0, [], 2) := by decide +kernel
  have k1 : okI 2 3 6 [61] = true := by decide +kernel
  have k2 : okI 0 0 0 [] = false := by decide +kernel
  have l1 : listI 2 3 6 [13] = [5, 1] := by decide +kernel
  have W13 : Ws [13] := Ws_small (by decide) (by decide)
  have W61 : Ws [61] := Ws_small (by decide) (by decide)
  have W0 : Ws [] := Ws_small (by decide) (by decide)
  rw [haystacklaw03_heads_unf]; unfold haystacklaw03_heads_B
  rw [show ([5, 1] : List Int) = ci [5, 1] from rfl, ints_Of_r_spec [5, 1] (by decide) (by decide) 2 rfl, w51, ints_Make_r_spec ((3 : Nat) : Int) [5, 1] (by decide) (by decide) 2 rfl, w51, if_pos (by decide), c51]
  rw [show (([5, 1] : List Nat).length : Int) = 2 from rfl, show (2 : Int) * ((3 : Nat) : Int) = 6 from rfl, show ((3 : Nat) : Int) = 3 from rfl, show (7 : Int) = ((7 : Nat) : Int) from rfl, ints_Put_spec 2 3 6 [13] W13 1 7 (by decide), p1]
  dsimp only
  rw [haystacklaw03_heads_j4_1_unf]; unfold haystacklaw03_heads_j4_1_B
  rw [ints_Get_spec 2 3 6 [61] W61, g1]
  dsimp only
  rw [show (8 : Int) = ((8 : Nat) : Int) from rfl, ints_Put_spec 2 3 6 [13] W13 0 8 (by decide), p2]
  dsimp only
  rw [ints_Get_spec 2 3 6 [13] W13, g2]
  dsimp only
  rw [show ([] : List Int) = ci [] from rfl, ints_Make_spec 0 [] (by simp) (by decide), m0]
  dsimp only
  rw [sel_pos (by decide), sel_pos (by decide), sel_pos (by decide), ci_length, sel_pos (by decide), sel_pos (by decide), show Int.toNat 0 = 0 from rfl, sel_pos (by decide), sel_pos (by decide), sel_pos (by decide), sel_pos (by decide), sel_pos (by decide), sel_pos (by decide), sel_pos (by decide), ints_Check_spec _ _ _ _ W61, k1, Ev.sel_true, ints_Check_spec _ _ _ _ W0, k2, Bool.not_false, Ev.sel_true, ints_List_spec _ _ _ _ W13, l1]
  exact haystackref03_Rows_r_self (ci [5, 1]) (by decide) 2 rfl _
theorem small03_spec (N w n : Int) (ws : List Int) (K : Bool → Option R) : haystacklaw03_small N w n ws K = K (decide (N ≤ 1000 ∧ n ≤ 9000 ∧ ws.length ≤ 1000)) := by
  rw [haystacklaw03_small_unf]; unfold haystacklaw03_small_B
  by_cases h1 : N ≤ 1000
  · rw [sel_pos h1]
    by_cases h2 : n ≤ 9000
    · rw [sel_pos h2]
      congr 1
      rw [decide_eq_decide]; omega
    · rw [sel_neg h2, decide_eq_false (by omega)]
  · rw [sel_neg h1, decide_eq_false (by omega)]
theorem same_refl (N w n : Int) (ws : List Int) (h : ws.length < 4000000000) (K : Bool → Option R) : haystackref03_Same N w n ws N w n ws K = K true := by
  rw [haystackref03_Same_spec _ _ _ _ _ _ _ _ h, decide_eq_true ⟨rfl, rfl, rfl, rfl⟩]
theorem catI_small {us : List Nat} {w : Nat} (h : us.length * w ≤ 1048576) : (ci (wds (catI w us))).length < 4000000000 := by rw [ci_length, wds_length, catI_length]; omega
theorem putI_len {N w n : Int} {ws : List Nat} (hw : Ws ws) (h : ws.length ≤ 1000) (i : Int) (v : Nat) : (ci (putI N w n ws i v).2.2.2.1).length < 4000000000 := by
  unfold putI
  rw [ci_length]
  split
  · rename_i hok
    obtain ⟨a, b, l, rfl, rfl, rfl, rfl, hl, f6, f7, f8, f9⟩ := okI_is hok hw.1
    split
    · show (wds l).length < _; omega
    · split
      · show (wds _).length < _
        rw [wds_length, catI_length, List.length_set, numW_length, Int.toNat_natCast, Int.toNat_natCast]; omega
      · show (wds l).length < _; omega
  · show ws.length < _; omega
theorem makeI_len (w : Int) {us : List Nat} (h : us.length ≤ 300) : (ci (makeI w us).2.2.2.1).length < 4000000000 := by
  unfold makeI
  rw [ci_length]
  split
  · rename_i hc
    obtain ⟨b, rfl⟩ : ∃ b : Nat, w = (b : Int) := ⟨w.toNat, by omega⟩
    show (wds _).length < _
    have h2 := hc.2.2.1
    rw [← Int.natCast_mul] at h2
    rw [wds_length, catI_length, Int.toNat_natCast]; omega
  · show ([] : List Nat).length < _; decide
/-! ### IntsTell -/
theorem IntsTell_true (N w n : Int) (ws : List Nat) (hws : ∀ x ∈ ws, x < 2 ^ 64) (i : Int) (v : Nat) (hv : v < 2 ^ 64) (width : Int) (us : List Nat) (hu : ∀ u ∈ us, u < 2 ^ 64) (K : Bool → Option R) : haystacklaw03_IntsTell N w n (ci ws) i (v : Int) width (ci us) K = K true := by
  rw [haystacklaw03_IntsTell_unf]; unfold haystacklaw03_IntsTell_B
  rw [small03_spec, ci_length, ci_length]
  by_cases h1 : ¬ (N ≤ 1000 ∧ n ≤ 9000 ∧ ws.length ≤ 1000)
  · rw [decide_eq_false h1, Bool.not_false, Ev.sel_true, heads03_spec]
  replace h1 := Decidable.not_not.1 h1
  have hW : Ws ws := ⟨hws, by omega⟩
  rw [decide_eq_true h1, Bool.not_true, Ev.sel_false]
  by_cases h2 : 300 < us.length
  · rw [sel_pos (by omega), heads03_spec]
  have hl : us.length < 1000000000 := by omega
  have hp := putI_len (N := N) (w := w) (n := n) hW h1.2.2 i v
  have hm := makeI_len width (us := us) (by omega)
  have ho := makeI_len ((widL us : Nat) : Int) (us := us) (by omega)
  rw [sel_neg (by omega), haystacklaw03_IntsTell_j4_unf]; unfold haystacklaw03_IntsTell_j4_B
  rw [ints_Get_spec N w n ws hW, haystackref03_Get_spec N w n ws hW, ints_Put_spec N w n ws hW i v hv, haystackref03_Put_spec N w n ws hW i v hv, haystacklaw03_IntsTell_j8_unf]; unfold haystacklaw03_IntsTell_j8_B
  rw [ints_Make_spec width us hu hl, haystackref03_Make_spec width us hu hl, ints_Of_spec us hu hl, haystackref03_Of_spec us hu hl, sel_npos rfl, sel_npos rfl, same_refl _ _ _ _ hp]
  rw [Bool.not_true, Ev.sel_false, sel_npos rfl, same_refl _ _ _ _ hm]
  rw [Bool.not_true, Ev.sel_false, sel_npos rfl, same_refl _ _ _ _ ho]
  rw [Bool.not_true, Ev.sel_false, sel_npos rfl, haystacklaw03_IntsTell_j14_unf]; unfold haystacklaw03_IntsTell_j14_B
  rw [ints_Check_spec N w n ws hW, haystackref03_Check_spec N w n ws hW]
  simp only [beq_self_eq_true, Ev.sel_true]
  have hll : (ci (listI N w n ws)).length < 4000000000 := by
    unfold listI
    split
    · rw [ci_length, numW_length]; omega
    · decide
  rw [ints_List_spec N w n ws hW, haystackref03_List_spec N w n ws hW, haystackref03_Rows_spec _ _ hll, decide_eq_true rfl, Ev.sel_true, heads03_spec]
/-! ### IntsBack -/
theorem make_back {us : List Nat} {w : Nat} (h1 : 1 ≤ w) (h2 : w ≤ 64) (h3 : us.length * w ≤ 1048576) (h4 : widL us ≤ w) : okI (us.length : Int) (w : Int) ((us.length * w : Nat) : Int) (wds (catI w us)) = true ∧ listI (us.length : Int) (w : Int) ((us.length * w : Nat) : Int) (wds (catI w us)) = us := by
  have hok := okI_of (l := catI w us) (catI_length w us) h1 h2 h3
  refine ⟨hok, ?_⟩
  unfold listI
  rw [if_pos hok, Int.toNat_natCast, Int.toNat_natCast, numW_catI ((widL_le h1).1 h4)]
theorem few {us : List Nat} (h : us.length ≤ 300) {w : Nat} (hw : w ≤ 64) : us.length * w ≤ 1048576 := Nat.le_trans (Nat.mul_le_mul h hw) (by decide)
theorem IntsBack_true (us : List Nat) (hu : ∀ u ∈ us, u < 2 ^ 64) (width : Int) (K : Bool → Option R) : haystacklaw03_IntsBack (ci us) width K = K true := by
  rw [haystacklaw03_IntsBack_unf]; unfold haystacklaw03_IntsBack_B
  rw [ci_length]
  by_cases h0 : 300 < us.length
  · rw [sel_pos (by omega), heads03_spec]
  have hl : us.length < 1000000000 := by omega
  have w1 : 1 ≤ widL us := widT_pos us us.length
  have w2 := widL_64 hu
  have hf := few (us := us) (by omega) w2
  obtain ⟨b1, b2⟩ := make_back (us := us) w1 w2 hf (Nat.le_refl _)
  have hW : Ws (wds (catI (widL us) us)) := Ws.wds (by rw [catI_length]; omega)
  rw [sel_neg (by omega), ints_Of_spec us hu hl, makeI_yes w1 w2 hf (Nat.le_refl _)]
  dsimp only
  rw [sel_npos rfl, ints_List_spec _ _ _ _ hW, b2, haystackref03_Rows_spec _ _ (by rw [ci_length]; omega), decide_eq_true rfl, Bool.not_true, Ev.sel_false, ints_Check_spec _ _ _ _ hW, b1, Bool.not_true, Ev.sel_false, sel_npos rfl, haystacklaw03_IntsBack_j7_unf]; unfold haystacklaw03_IntsBack_j7_B
  rw [ints_Make_spec width us hu hl]
  by_cases hc : 1 ≤ width ∧ width ≤ 64 ∧ (us.length : Int) * width ≤ 1048576 ∧ (widL us : Int) ≤ width
  · obtain ⟨v, rfl⟩ : ∃ v : Nat, width = (v : Int) := ⟨width.toNat, by omega⟩
    have hv := few (us := us) (by omega) (w := v) (by omega)
    obtain ⟨c1, c2⟩ := make_back (us := us) (w := v) (by omega) (by omega) hv (by omega)
    have hm : us.length * widL us ≤ us.length * v := Nat.mul_le_mul_left _ (by omega)
    rw [makeI_yes (by omega) (by omega) hv (by omega)]
    dsimp only
    rw [sel_npos rfl, ints_List_spec _ _ _ _ (Ws.wds (by rw [catI_length]; omega)), c2, haystackref03_Rows_spec _ _ (by rw [ci_length]; omega), decide_eq_true rfl, Ev.sel_true, sel_pos (by omega), heads03_spec]
  · rw [makeI_no hc]
    dsimp only
    rw [sel_nneg (by decide)]
    by_cases h5 : width < (widL us : Int)
    · rw [sel_pos h5, heads03_spec]
    by_cases h6 : 64 < width
    · rw [sel_neg h5, sel_pos h6, heads03_spec]
    exfalso
    obtain ⟨v, rfl⟩ : ∃ v : Nat, width = (v : Int) := ⟨width.toNat, by omega⟩
    have hv := few (us := us) (by omega) (w := v) (by omega)
    exact hc ⟨by omega, by omega, by rw [← Int.natCast_mul]; omega, by omega⟩
/-! ### IntsPuts -/
theorem IntsPuts_true (N w n : Int) (ws : List Nat) (hws : ∀ x ∈ ws, x < 2 ^ 64) (i : Int) (v : Nat) (hv : v < 2 ^ 64) (other : Int) (K : Bool → Option R) : haystacklaw03_IntsPuts N w n (ci ws) i (v : Int) other K = K true := by
  rw [haystacklaw03_IntsPuts_unf]; unfold haystacklaw03_IntsPuts_B
  rw [small03_spec, ci_length]
  by_cases h1 : ¬ (N ≤ 1000 ∧ n ≤ 9000 ∧ ws.length ≤ 1000)
  · rw [decide_eq_false h1, Bool.not_false, Ev.sel_true, heads03_spec]
  replace h1 := Decidable.not_not.1 h1
  have hW : Ws ws := ⟨hws, by omega⟩
  rw [decide_eq_true h1, Bool.not_true, Ev.sel_false, ints_Check_spec N w n ws hW]
  cases hok : okI N w n ws with
  | false => rw [Bool.not_false, Ev.sel_true, heads03_spec]
  | true =>
    rw [Bool.not_true, Ev.sel_false, haystacklaw03_IntsPuts_j4_unf]; unfold haystacklaw03_IntsPuts_j4_B
    rw [ints_Put_spec N w n ws hW i v hv]
    by_cases h2 : i < 0 ∨ N ≤ i
    · have e : putI N w n ws i v = (N, w, n, ws, 3) := by unfold putI; rw [if_pos hok, if_pos h2]
      rw [e]
      dsimp only
      rw [sel_nneg (by decide), same_refl _ _ _ _ (by rw [ci_length]; omega), Ev.sel_true, heads03_spec]
    obtain ⟨a, b, l, rfl, rfl, rfl, rfl, hl, f6, f7, f8, f9⟩ := okI_is hok hws
    obtain ⟨k, rfl⟩ : ∃ k : Nat, i = (k : Int) := ⟨i.toNat, by omega⟩
    have hk : k < a := by omega
    by_cases h5 : v < 2 ^ b
    · have hlt : ∀ u ∈ (numW (wds l) b a).set k v, u < 2 ^ b := fun u hu => by
        rcases mem_set hu with hu | rfl
        · exact numW_lt _ _ _ u hu
        · exact h5
      have hLen : ((numW (wds l) b a).set k v).length = a := by rw [List.length_set, numW_length]
      have hok2 : okI (a : Int) (b : Int) ((a * b : Nat) : Int) (wds (catI b ((numW (wds l) b a).set k v))) = true := okI_of (by rw [catI_length, hLen]) f6 f7 f9
      have hW2 : Ws (wds (catI b ((numW (wds l) b a).set k v))) := Ws.wds (by rw [catI_length, hLen]; omega)
      have e : putI (a : Int) (b : Int) ((a * b : Nat) : Int) (wds l) (k : Int) v = ((a : Int), (b : Int), ((a * b : Nat) : Int), wds (catI b ((numW (wds l) b a).set k v)), 0) := by
        unfold putI; rw [if_pos hok, if_neg h2, if_pos (by rw [Int.toNat_natCast]; exact h5), Int.toNat_natCast, Int.toNat_natCast, Int.toNat_natCast]
      have gk : ∀ j : Nat, j < a → getI (a : Int) (b : Int) ((a * b : Nat) : Int) (wds (catI b ((numW (wds l) b a).set k v))) (j : Int) = (((((numW (wds l) b a).set k v).getD j 0 : Nat) : Int), 0) := fun j hj => by
        have hg : ((numW (wds l) b a).set k v).getD j 0 < 2 ^ b := by
          rw [List.getD_eq_getElem?_getD, List.getElem?_eq_getElem (by rw [hLen]; exact hj)]; exact hlt _ (List.getElem_mem _)
        rw [getI_yes hok2 (by omega), Int.toNat_natCast, catI_slice (by rw [hLen]; exact hj) hg]
      have same : ∀ K' : Bool → Option R, (ints_Check (a : Int) (b : Int) ((a * b : Nat) : Int) (ci (wds (catI b ((numW (wds l) b a).set k v)))) fun b1625 => sel b1625 (sel (decide ((a : Int) = (a : Int))) (haystacklaw03_heads fun b1626 => K b1626) (K false)) (K false)) = K true := fun _ => by
        rw [ints_Check_spec _ _ _ _ hW2, hok2, Ev.sel_true, sel_pos rfl, heads03_spec]
      rw [e]
      dsimp only
      rw [sel_npos rfl, ints_Get_spec _ _ _ _ hW2, ints_Get_spec _ _ _ _ hW, ints_Get_spec _ _ _ _ hW2, gk k hk]
      have ek : ((numW (wds l) b a).set k v).getD k 0 = v := by
        rw [List.getD_eq_getElem?_getD, List.getElem?_set_self (by rw [numW_length]; exact hk)]; rfl
      rw [ek]
      dsimp only
      rw [sel_pos rfl, sel_pos rfl]
      by_cases h6 : other = (k : Int)
      · rw [sel_pos h6]; exact same K
      rw [sel_neg h6]
      have eo : getI (a : Int) (b : Int) ((a * b : Nat) : Int) (wds l) other = getI (a : Int) (b : Int) ((a * b : Nat) : Int) (wds (catI b ((numW (wds l) b a).set k v))) other := by
        by_cases h7 : other < 0 ∨ (a : Int) ≤ other
        · unfold getI; rw [if_pos hok, if_pos hok2, if_pos h7, if_pos h7]
        · obtain ⟨j, rfl⟩ : ∃ j : Nat, other = (j : Int) := ⟨other.toNat, by omega⟩
          rw [gk j (by omega), getI_yes hok (by omega), Int.toNat_natCast, List.getD_eq_getElem?_getD, List.getElem?_set_ne (by omega), ← List.getD_eq_getElem?_getD, numW_get _ _ (by omega)]
      rw [eo, sel_pos rfl, sel_pos rfl]
      exact same K
    · have e : putI (a : Int) (b : Int) ((a * b : Nat) : Int) (wds l) (k : Int) v = ((a : Int), (b : Int), ((a * b : Nat) : Int), wds l, 2) := by
        unfold putI; rw [if_pos hok, if_neg h2, if_neg (by rw [Int.toNat_natCast]; exact h5)]
      rw [e]
      dsimp only
      rw [sel_nneg (by decide), same_refl _ _ _ _ (by rw [ci_length]; omega), Ev.sel_true, heads03_spec]
/-! ### IntsLeast -/
def needT (us : List Nat) (w : Nat) : Nat → Bool
  | 0 => decide ((w : Int) = 1)
  | i + 1 => needT us w i || !decide (((us.getD i 0 / 2 ^ (w - 1) : Nat) : Int) = 0)
theorem needT_keep (us : List Nat) (w : Nat) : ∀ d i, needT us w i = true → needT us w (i + d) = true
  | 0, _, h => h
  | d + 1, i, h => by
    rw [← Nat.add_assoc]
    simp only [needT, needT_keep us w d i h, Bool.true_or]
theorem needT_is (us : List Nat) : needT us (widL us) us.length = true := by
  rcases widT_is us us.length with e | ⟨j, h1, h2⟩
  · have := needT_keep us (widL us) us.length 0 (by unfold widL; rw [e]; rfl)
    rwa [Nat.zero_add] at this
  · have hx : us.getD j 0 ≠ 0 := by
      intro e0
      rw [e0, bitLen_zero] at h2
      have := widT_pos us us.length
      omega
    have hb := (bitLen_spec (us.getD j 0)).2 hx
    rw [h2] at hb
    have hd := Nat.div_pos hb (Nat.two_pow_pos _)
    have hj : needT us (widL us) (j + 1) = true := by
      simp only [needT]
      have : ¬ (((us.getD j 0 / 2 ^ (widL us - 1) : Nat) : Int) = 0) := by unfold widL; omega
      rw [decide_eq_false this]; simp
    have := needT_keep us (widL us) (us.length - (j + 1)) (j + 1) hj
    rwa [show j + 1 + (us.length - (j + 1)) = us.length by omega] at this
theorem IntsLeast_loop (us : List Nat) (hu : ∀ u ∈ us, u < 2 ^ 64) (hl : us.length ≤ 300) (w : Nat) (w1 : 1 ≤ w) (w2 : w ≤ 64) (hf : ∀ u ∈ us, u < 2 ^ w) (a n : Int) (xs : List Int) (K0 : Bool → Option R) (K1 : Bool → Int → Int → Int → List Int → Option R) : ∀ (N i : Nat), i ≤ us.length → us.length - i < N →
    haystacklaw03_IntsLeast_l9_L K0 K1 N (ci us) (needT us w i) (i : Int) a (w : Int) n xs = K1 (needT us w us.length) a (w : Int) n xs
  | 0, _, _, h => by omega
  | N + 1, i, h1, h2 => by
    simp only [haystacklaw03_IntsLeast_l9_L, haystacklaw03_IntsLeast_l9_T]
    by_cases h : i < us.length
    · have ih := IntsLeast_loop us hu hl w w1 w2 hf a n xs K0 K1 N (i + 1) (by omega) (by omega)
      have hg := getD_lt hu i
      have hgw : us.getD i 0 < 2 ^ w := by
        rw [List.getD_eq_getElem?_getD, List.getElem?_eq_getElem h]; exact hf _ (List.getElem_mem h)
      have hd := Nat.div_eq_of_lt hgw
      have j13 : ∀ (K : List Int → Bool → Int → Int → Int → Int → List Int → Option R), haystacklaw03_IntsLeast_j13 (ci us) (needT us w i) (i : Int) a (w : Int) n xs K = K (ci us) (needT us w (i + 1)) (i : Int) a (w : Int) n xs := fun K => by
        rw [haystacklaw03_IntsLeast_j13_unf]; unfold haystacklaw03_IntsLeast_j13_B
        simp only [needT]
        cases needT us w i with
        | true => rw [Ev.sel_true, Bool.true_or]
        | false =>
          rw [Ev.sel_false, ci_length, sel_pos (by omega), sel_pos (by omega), subW_i64 (by omega) (by omega), cvtW_u64 (by omega) (by omega), sel_pos (by omega), letV_eq, Int.toNat_natCast, ci_getD, show (w : Int) - 1 = ((w - 1 : Nat) : Int) by omega, shrW_u64 _ _ hg, Bool.false_or]
      have e1 : addW .i64 (i : Int) 1 = ((i + 1 : Nat) : Int) := by rw [addW_i64 (by omega) (by omega)]; omega
      rw [ci_length, sel_pos (by omega)]
      by_cases h64 : (w : Int) < 64
      · rw [sel_pos h64, sel_pos (by omega), sel_pos (by omega), cvtW_u64 (by omega) (by omega), sel_pos (by omega), Int.toNat_natCast, ci_getD, shrW_u64 _ _ hg, hd, sel_npos (by rfl), j13, e1]
        exact ih
      · rw [sel_neg h64, j13, e1]
        exact ih
    · have : i = us.length := by omega
      subst this
      rw [ci_length, sel_neg (by omega)]
theorem IntsLeast_true (us : List Nat) (hu : ∀ u ∈ us, u < 2 ^ 64) (K : Bool → Option R) : haystacklaw03_IntsLeast (ci us) K = K true := by
  rw [haystacklaw03_IntsLeast_unf]; unfold haystacklaw03_IntsLeast_B
  rw [ci_length]
  by_cases h0 : 300 < us.length
  · rw [sel_pos (by omega), heads03_spec]
  have hl : us.length < 1000000000 := by omega
  have w1 : 1 ≤ widL us := widT_pos us us.length
  have w2 := widL_64 hu
  have hf := few (us := us) (by omega) w2
  obtain ⟨b1, b2⟩ := make_back (us := us) w1 w2 hf (Nat.le_refl _)
  have hW : Ws (wds (catI (widL us) us)) := Ws.wds (by rw [catI_length]; omega)
  have w1' : 1 ≤ widL us := w1
  rw [sel_neg (by omega), ints_Of_spec us hu hl, makeI_yes w1 w2 hf (Nat.le_refl _)]
  dsimp only
  rw [sel_npos rfl, sel_neg (by omega), sel_neg (by omega), haystacklaw03_IntsLeast_j7_unf]; unfold haystacklaw03_IntsLeast_j7_B
  rw [haystacklaw03_IntsLeast_l9_unf]; unfold haystacklaw03_IntsLeast_l9_B
  refine Eq.trans (IntsLeast_loop us hu (by omega) (widL us) w1 w2 ((widL_le w1).1 (Nat.le_refl _)) _ _ _ _ _ NR 0 (by omega) (by have := NR_lt; omega)) ?_
  dsimp only
  rw [needT_is, ints_List_spec _ _ _ _ hW, b2, ints_Make_spec _ us hu hl, makeI_yes w1 w2 hf (Nat.le_refl _)]
  dsimp only
  rw [Ev.sel_true, sel_pos rfl, same_refl _ _ _ _ (catI_small hf), Ev.sel_true, heads03_spec]
/-! ### the rows -/
theorem st_ints {v : AV} (h : Pa.has (.st [.int .i64, .int .i64, .int .i64, .ints .u64]) v) : ∃ (N w n : Int) (ws : List Nat), v = .agg (.any [.int .i64 N, .int .i64 w, .int .i64 n, .fsl (.ints .u64 (ci ws))]) ∧ ∀ x ∈ ws, x < 2 ^ 64 := by
  obtain ⟨vs, rfl, _, _, rfl, ⟨N, rfl, _⟩, _, _, rfl, ⟨w, rfl, _⟩, _, _, rfl, ⟨n, rfl, _⟩, _, _, rfl, ⟨xs, rfl, _, hx⟩, rfl⟩ := h
  obtain ⟨ws, rfl, hw⟩ := ci_of fun x h => has_u64 (hx x h)
  exact ⟨N, w, n, ws, rfl, hw⟩
abbrev intsC : List Sh := [.int .i64, .int .i64, .int .i64, .ints .u64]
abbrev IntsTell_pas : List Pa := [.st intsC, .one (.int .i64), .one (.int .u64), .one (.int .i64), .one (.ints .u64)]
theorem IntsTell_law : ∀ vs, pasHas IntsTell_pas vs → sp8 vs AV some = some (.bool true) := by
  rintro vs ⟨_, _, rfl, h, _, _, rfl, ⟨i, rfl, _⟩, _, _, rfl, ⟨v, rfl, hv⟩, _, _, rfl, ⟨width, rfl, _⟩, _, _, rfl, ⟨xs, rfl, _, hx⟩, rfl⟩
  obtain ⟨N, w, n, ws, rfl, hw⟩ := st_ints h
  obtain ⟨v, rfl, hv2⟩ := nat_u64 hv
  obtain ⟨us, rfl, hu⟩ := ci_of fun x h => has_u64 (hx x h)
  exact IntsTell_true N w n ws hw i v hv2 width us hu _
abbrev IntsBack_pas : List Pa := [.one (.ints .u64), .one (.int .i64)]
theorem IntsBack_law : ∀ vs, pasHas IntsBack_pas vs → sp9 vs AV some = some (.bool true) := by
  rintro vs ⟨_, _, rfl, ⟨xs, rfl, _, hx⟩, _, _, rfl, ⟨width, rfl, _⟩, rfl⟩
  obtain ⟨us, rfl, hu⟩ := ci_of fun x h => has_u64 (hx x h)
  exact IntsBack_true us hu width _
abbrev IntsPuts_pas : List Pa := [.st intsC, .one (.int .i64), .one (.int .u64), .one (.int .i64)]
theorem IntsPuts_law : ∀ vs, pasHas IntsPuts_pas vs → sp10 vs AV some = some (.bool true) := by
  rintro vs ⟨_, _, rfl, h, _, _, rfl, ⟨i, rfl, _⟩, _, _, rfl, ⟨v, rfl, hv⟩, _, _, rfl, ⟨other, rfl, _⟩, rfl⟩
  obtain ⟨N, w, n, ws, rfl, hw⟩ := st_ints h
  obtain ⟨v, rfl, hv2⟩ := nat_u64 hv
  exact IntsPuts_true N w n ws hw i v hv2 other _
abbrev IntsLeast_pas : List Pa := [.one (.ints .u64)]
theorem IntsLeast_law : ∀ vs, pasHas IntsLeast_pas vs → sp7 vs AV some = some (.bool true) := by
  rintro vs ⟨_, _, rfl, ⟨xs, rfl, _, hx⟩, rfl⟩
  obtain ⟨us, rfl, hu⟩ := ci_of fun x h => has_u64 (hx x h)
  exact IntsLeast_true us hu _
end
end Go.Proofs.YtapgclloopcbhaaDoor
