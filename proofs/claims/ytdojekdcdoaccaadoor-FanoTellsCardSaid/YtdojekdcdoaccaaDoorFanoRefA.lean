/- Layer 2, by the document: Get, Ones. -/
import Derived.Test.YtdojekdcdoaccaaDoorBitsRefD
import Derived.Test.YtdojekdcdoaccaaDoorBitsRefC
import Derived.Test.YtdojekdcdoaccaaDoorBitsE
namespace Go.Proofs.YtdojekdcdoaccaaDoor
open Go Go.Ev
section
variable {R : Type}
theorem haystackref02_Get_spec (n : Int) (ws : List Nat) (hw : Ws ws) (i : Int) (K : Bool → Int → Option R) : haystackref02_Get n (ci ws) i K = K (getS n ws i).1 (getS n ws i).2 := by
  rw [haystackref02_Get_unf]; unfold haystackref02_Get_B
  rw [haystackref02_Check_spec n ws hw]
  cases hok : okRow n ws with
  | false => simp [getS, hok, sel]
  | true =>
    obtain ⟨a1, a2, a3⟩ := okRow_len hok
    rw [Bool.not_true, Ev.sel_false]
    by_cases h3 : i < 0
    · rw [sel_pos h3]; simp [getS, hok, h3]
    rw [sel_neg h3]
    by_cases h4 : n ≤ i
    · rw [sel_pos h4]; simp [getS, hok, h4]
    rw [sel_neg h4, haystackref02_Get_j6_unf]; unfold haystackref02_Get_j6_B
    obtain ⟨q, rfl⟩ : ∃ q : Nat, i = (q : Int) := ⟨i.toNat, by omega⟩
    rw [haystackref02_At_spec n ws hw.1 q (by omega) (by omega)]
    have : getS n ws (q : Int) = (bitAt ws q, 0) := by
      have h5 : ¬ ((q : Int) < 0 ∨ n ≤ (q : Int)) := by omega
      simp only [getS, hok, if_true, h5, if_false, Int.toNat_natCast]
    rw [this]
theorem ref_Ones_loop (l : List Bool) (hl : l.length ≤ 1048576) (k : Nat) (hk : k ≤ l.length) (K : Int → Option R) : ∀ (N i : Nat), i ≤ k → k - i < N →
    haystackref02_Ones_l4_L K N (k : Int) ((cntOf l true i : Nat) : Int) (i : Int) (l.length : Int) (ci (wds l)) = K ((cntOf l true k : Nat) : Int)
  | 0, _, _, h => by omega
  | N + 1, i, h1, h2 => by
    simp only [haystackref02_Ones_l4_L, haystackref02_Ones_l4_T]
    by_cases h : i < k
    · have hc : cntOf l true (i + 1) = cntOf l true i + (l.getD i false == true).toNat := rfl
      have hle := cntOf_le l true i
      have ih := ref_Ones_loop l hl k hk K N (i + 1) (by omega) (by omega)
      rw [sel_pos (by omega), sel_pos (by omega), haystackref02_Check_spec _ _ (Ws.wds hl), okRow_of l hl, Ev.sel_true, haystackref02_Ones_j6_unf]
      unfold haystackref02_Ones_j6_B
      rw [haystackref02_At_spec _ _ (fun w hw => wds_lt hw) i (by rw [wds_length]; omega) (by omega), bitAt_wds]
      cases hb : l.getD i false with
      | true =>
        rw [hb] at hc
        rw [Ev.sel_true]
        try dsimp only
        rw [addW_i64 (by omega) (by omega), addW_i64 (by omega) (by omega), show (i : Int) + 1 = ((i + 1 : Nat) : Int) by omega, show ((cntOf l true i : Nat) : Int) + 1 = ((cntOf l true (i + 1) : Nat) : Int) by rw [hc]; rfl]
        exact ih
      | false =>
        rw [hb] at hc
        rw [Ev.sel_false]
        try dsimp only
        rw [addW_i64 (by omega) (by omega), show (i : Int) + 1 = ((i + 1 : Nat) : Int) by omega, show cntOf l true i = cntOf l true (i + 1) by rw [hc]; rfl]
        exact ih
    · have : i = k := by omega
      subst this
      rw [sel_neg (by omega)]
theorem haystackref02_Ones_in (l : List Bool) (hl : l.length ≤ 1048576) (k : Nat) (hk : k ≤ l.length) (K : Int → Option R) : haystackref02_Ones (l.length : Int) (ci (wds l)) (k : Int) K = K ((cntOf l true k : Nat) : Int) := by
  rw [haystackref02_Ones_unf]; unfold haystackref02_Ones_B
  rw [haystackref02_Ones_l4_unf]; unfold haystackref02_Ones_l4_B
  exact ref_Ones_loop l hl k hk _ NR 0 (Nat.zero_le _) (by have := NR_lt; omega)
end
end Go.Proofs.YtdojekdcdoaccaaDoor
