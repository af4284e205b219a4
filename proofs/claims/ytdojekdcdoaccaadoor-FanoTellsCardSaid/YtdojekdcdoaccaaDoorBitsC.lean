/- Layer 2: what rows of bits become, and their counts. -/
import Derived.Test.YtdojekdcdoaccaaDoorBitsB
namespace Go.Proofs.YtdojekdcdoaccaaDoor
open Go Go.Ev
section
variable {R : Type}
theorem live_out {n e : Int} {l : Nat} {ws : List Nat} (h : l = ws.length) (K : Int → List Int → Int → Option R) {Y : Option R} : sel (decide (l = List.length (ci ws))) (K n (ci ws) e) Y = K n (ci ws) e := by
  rw [sel_pos (by rw [ci_length]; exact h)]

theorem bits_Append_spec (n : Int) (ws : List Nat) (hw : Ws ws) (x : Nat) (hx : x < 2 ^ 64) (k : Int) (K : Int → List Int → Int → Option R) :
    bits_Append n (ci ws) (x : Int) k K = K (appendS n ws x k).1 (ci (appendS n ws x k).2.1) (appendS n ws x k).2.2 := by
  have bad : ∀ (K0 : Int → Int → List Int → Option R) (K1 : Int → Int → Int → List Int → Int → Option R), bits_Append_j3 (x : Int) k true n (ci ws) 0 K0 K1 = K0 2 n (ci ws) := fun K0 K1 => by
    rw [bits_Append_j3_unf]; unfold bits_Append_j3_B; rfl
  rw [bits_Append_unf]; unfold bits_Append_B
  rw [bits_Check_spec n ws hw]
  cases hok : okRow n ws with
  | false => rw [Bool.not_false, Ev.sel_true, bad]; simp [appendS, hok]
  | true =>
    obtain ⟨l, rfl, rfl, hl⟩ := okRow_wds hok hw.1
    rw [Bool.not_true, Ev.sel_false]
    by_cases h1 : k < 0
    · rw [sel_pos h1, bad]; simp [appendS, h1]
    rw [sel_neg h1]
    by_cases h2 : 64 < k
    · rw [sel_pos h2, bad]; simp [appendS, h2]
    rw [sel_neg h2, subW_i64 (by omega) (by omega)]
    by_cases h3 : 1048576 - (l.length : Int) < k
    · rw [decide_eq_true h3, bad]; simp [appendS, h3]
    rw [decide_eq_false h3, bits_Append_j3_unf]; unfold bits_Append_j3_B
    rw [Ev.sel_false]
    show bits_Append_j4 _ _ _ _ _ _ = _
    obtain ⟨c, rfl⟩ : ∃ c : Nat, k = (c : Int) := ⟨k.toNat, by omega⟩
    have ea : appendS (l.length : Int) (wds l) x (c : Int) = ((l.length : Int) + (c : Int), wds (l ++ lowB x c), 0) := by
      unfold appendS
      rw [if_pos ⟨hok, by omega, h3⟩, rowB_wds, Int.toNat_natCast]
    rw [ea, bits_Append_j4_unf]; unfold bits_Append_j4_B
    rw [addW_i64 (by omega) (by omega), ← Int.natCast_add, bits_own_spec _ _ _ (by omega) (by rw [wds_length]; omega), word_Mask_spec _ (by omega) (by omega), andW_u64 _ _ hx (maskN_lt _), and_maskN, show min (c : Int).toNat 64 = c by omega]
    have hWs : Ws (wds l ++ List.replicate ((l.length + c + 63) / 64 - (wds l).length) 0) := by
      refine ⟨fun w hw => ?_, by simp [wds_length]; omega⟩
      rcases List.mem_append.1 hw with hw | hw
      · exact wds_lt hw
      · rw [(List.mem_replicate.1 hw).2]; decide
    rw [bits_fill_spec _ _ _ (by simp [wds_length]; omega) l.length (x % 2 ^ c) hWs (Nat.lt_of_le_of_lt (Nat.mod_le _ _) hx) (by omega), wds_fill hx (by omega)]
    exact live_out (by rw [wds_length, List.length_append, lowB_length]) K

theorem bits_Ones_loop (ws : List Nat) (hw : Ws ws) (q : Nat) (hq : q ≤ ws.length) (hq2 : q ≤ 16384) (a n : Int) (xs : List Int) (K : Int → Int → Int → List Int → Option R) : ∀ (N j : Nat), j ≤ q → q - j < N →
    bits_Ones_l7_L K N a ((pcb ws (64 * j) : Nat) : Int) (ci (ws.take q)) (q : Int) (j : Int) n xs = K a ((pcb ws (64 * q) : Nat) : Int) n xs
  | 0, _, _, h => by omega
  | N + 1, j, hj, hN => by
    simp only [bits_Ones_l7_L, bits_Ones_l7_T]
    by_cases h : j < q
    · have hp := pcb_le ws (64 * j)
      have hp2 := pc_le (ws.getD j 0) 64
      rw [sel_pos (by omega), sel_pos (by omega), sel_pos (by rw [ci_length, List.length_take]; omega), Int.toNat_natCast, ci_getD_take _ _ _ h, word_Pop_spec _ (getD_lt hw.1 _), addW_i64 (by omega) (by omega), addW_i64 (by omega) (by omega), ← Int.natCast_add, ← pcb_words, show (j : Int) + 1 = ((j + 1 : Nat) : Int) by omega]
      exact bits_Ones_loop ws hw q hq hq2 a n xs K N (j + 1) (by omega) (by omega)
    · have : j = q := by omega
      subst this
      rw [sel_neg (by omega)]
theorem bits_Ones_spec (n : Int) (ws : List Nat) (hw : Ws ws) (k : Int) (K : Int → Option R) : bits_Ones n (ci ws) k K = K (onesS n ws k) := by
  rw [bits_Ones_unf]; unfold bits_Ones_B
  rw [bits_Check_spec n ws hw]
  cases hok : okRow n ws with
  | false => rw [Bool.not_false, Ev.sel_true]; simp [onesS, hok]
  | true =>
    obtain ⟨a1, a2, a3⟩ := okRow_len hok
    rw [Bool.not_true, Ev.sel_false]
    have e : max2 0 (min2 k n) = (((max 0 (min k n)).toNat : Nat) : Int) := by unfold max2 min2; split <;> split <;> omega
    have hs : onesS n ws k = ((pcb ws (max 0 (min k n)).toNat : Nat) : Int) := by simp [onesS, hok]
    rw [e, hs]
    generalize hm : (max 0 (min k n)).toNat = m
    have hmn : m ≤ n.toNat := by omega
    rw [quo64 m (by omega), sel_pos (by omega), ci_length, sel_pos (by omega), letV_eq, Int.toNat_natCast, ci_take, show (0 : Int).toNat = 0 from rfl, List.drop_zero, bits_Ones_l7_unf, ci_length, List.length_take, show min (m / 64) ws.length = m / 64 by omega]
    unfold bits_Ones_l7_B
    rw [show (0 : Int) = ((pcb ws (64 * 0) : Nat) : Int) from rfl, show ((pcb ws (64 * 0) : Nat) : Int) = ((0 : Nat) : Int) from rfl]
    have hl := bits_Ones_loop (R := R) ws hw (m / 64) (by omega) (by omega) (m : Int) n (ci ws) (fun n405 n406 n407 xs408 => sel (decide (0 < remW n405 64)) (sel (decide (0 ≤ quoW .i64 n405 64)) (sel (decide (quoW .i64 n405 64 < ((List.length xs408 : Nat) : Int))) (word_Rank (List.getD xs408 (Int.toNat (quoW .i64 n405 64)) 0) (remW n405 64) fun n413 => K (addW .i64 n406 n413)) none) none) (K n406)) NR 0 (Nat.zero_le _) (by have := NR_lt; omega)
    refine Eq.trans hl ?_
    rw [rem64 m, quo64 m (by omega)]
    have hp := pcb_le ws (64 * (m / 64))
    have hw2 := pcb_word ws (m / 64) (m % 64) (by omega)
    rw [show 64 * (m / 64) + m % 64 = m by omega] at hw2
    by_cases h : 0 < m % 64
    · have hp2 := pc_le (ws.getD (m / 64) 0) (m % 64)
      rw [sel_pos (by omega), sel_pos (by omega), ci_length, sel_pos (by omega), Int.toNat_natCast, ci_getD, word_Rank_spec _ (getD_lt hw.1 _) _ (by omega) (by omega)]
      have er : rankN (ws.getD (m / 64) 0) ((m % 64 : Nat) : Int) = pc (ws.getD (m / 64) 0) (m % 64) := by unfold rankN; congr 1; omega
      rw [er, addW_i64 (by omega) (by omega)]
      congr 1; omega
    · rw [sel_neg (by omega)]
      congr 1
      have : m % 64 = 0 := by omega
      rw [this] at hw2
      simp only [pc, Nat.add_zero] at hw2
      rw [hw2]
end
end Go.Proofs.YtdojekdcdoaccaaDoor
