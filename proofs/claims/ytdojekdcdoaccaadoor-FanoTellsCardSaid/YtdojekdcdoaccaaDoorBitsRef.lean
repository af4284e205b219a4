/- Layer 2: the document's answer: what its functions come to. -/
import Derived.Test.YtdojekdcdoaccaaDoorBitsE
import Derived.Test.YtdojekdcdoaccaaDoorWordRefA
namespace Go.Proofs.YtdojekdcdoaccaaDoor
open Go Go.Ev
section
variable {R : Type}
theorem haystackref02_Words_spec (n : Int) (h1 : 0 ≤ n) (h2 : n ≤ 4611686018427387904) (K : Int → Option R) : haystackref02_Words n K = K ((n + 63) / 64) := by
  rw [haystackref02_Words_unf]; unfold haystackref02_Words_B
  rw [addW_i64 (by omega) (by omega), quoW_nat (by omega) (by omega) (by omega)]
theorem haystackref02_Check_spec (n : Int) (ws : List Nat) (hw : Ws ws) (K : Bool → Option R) : haystackref02_Check n (ci ws) K = K (okRow n ws) := by
  rw [haystackref02_Check_unf]; unfold haystackref02_Check_B
  have hlen := hw.2
  by_cases h1 : n < 0
  · rw [sel_pos h1]
    congr 1
    have : ¬ (0 ≤ n ∧ n ≤ 1048576 ∧ ws.length = (n.toNat + 63) / 64) := by omega
    simp [okRow, this]
  rw [sel_neg h1]
  by_cases h2 : 1048576 < n
  · rw [sel_pos h2]
    congr 1
    have : ¬ (0 ≤ n ∧ n ≤ 1048576 ∧ ws.length = (n.toNat + 63) / 64) := by omega
    simp [okRow, this]
  rw [sel_neg h2, haystackref02_Words_spec n (by omega) (by omega), ci_length]
  by_cases h3 : ((ws.length : Nat) : Int) = (n + 63) / 64
  · rw [decide_eq_true h3, Bool.not_true, Ev.sel_false]
    show haystackref02_Check_j4 _ _ _ = _
    rw [haystackref02_Check_j4_unf]; unfold haystackref02_Check_j4_B
    rw [remW_nat' (by omega)]
    have h4 : 0 ≤ n ∧ n ≤ 1048576 ∧ ws.length = (n.toNat + 63) / 64 := by omega
    by_cases h5 : n % 64 = 0
    · rw [sel_pos h5]
      congr 1
      have : n.toNat % 64 = 0 := by omega
      simp [okRow, h4, this]
    · rw [sel_neg h5, ci_length, subW_i64 (by omega) (by omega), sel_pos (by omega), sel_pos (by omega), haystackref01_Mask_spec _ (by omega), letV_eq, show (((ws.length : Nat) : Int) - 1).toNat = ws.length - 1 by omega, ci_getD, andNotW_u64 _ _ (getD_lt hw.1 _) (maskN_lt _)]
      congr 1
      have e : n % 64 = ((n.toNat % 64 : Nat) : Int) := by omega
      have h6 := last_ok (ws.getD (ws.length - 1) 0) (n.toNat % 64) (Nat.mod_lt _ (by decide))
      rw [e]
      have h7 : ¬ n.toNat % 64 = 0 := by omega
      simp only [okRow, h4, h7, decide_false, Bool.false_or, and_self, decide_true, Bool.true_and]
      rw [h4.2.2] at h6
      rw [decide_eq_decide, ← h6]
      omega
  · rw [decide_eq_false h3, Bool.not_false, Ev.sel_true]
    congr 1
    have : ¬ (0 ≤ n ∧ n ≤ 1048576 ∧ ws.length = (n.toNat + 63) / 64) := by omega
    simp [okRow, this]

/-- a bit of one's own words -/
def putV (x r : Nat) (b : Bool) : Nat := if b then (x - (x &&& 2 ^ r)) ||| 2 ^ r else x - (x &&& 2 ^ r)
def putW (ws : List Nat) (i : Nat) (b : Bool) : List Nat := ws.set (i / 64) (putV (ws.getD (i / 64) 0) (i % 64) b)
theorem clr_bit (x r i : Nat) (hx : x < 2 ^ 64) (hr : r < 64) : (x - (x &&& 2 ^ r)).testBit i = (decide (i ≠ r) && x.testBit i) := by
  have hp : 2 ^ r < 2 ^ 64 := Nat.pow_lt_pow_right (by decide) hr
  rw [← and_not x (2 ^ r) hx hp, Nat.testBit_and]
  by_cases hi : i < 64
  · have : (2 ^ 64 - 1 - 2 ^ r).testBit i = decide (i ≠ r) := by
      have e : 2 ^ 64 - 1 - 2 ^ r = 2 ^ 64 - (2 ^ r + 1) := by omega
      rw [e, Nat.testBit_two_pow_sub_succ hp, Nat.testBit_two_pow]
      by_cases h : r = i
      · subst h; simp
      · have : ¬ i = r := fun h' => h h'.symm
        simp [hi, h, this]
    rw [this, Bool.and_comm]
  · rw [bit_lt hx (by omega)]; simp
theorem putV_lt {x r : Nat} (hx : x < 2 ^ 64) (hr : r < 64) (b : Bool) : putV x r b < 2 ^ 64 := by
  have hp : 2 ^ r < 2 ^ 64 := Nat.pow_lt_pow_right (by decide) hr
  unfold putV
  split
  · exact Nat.or_lt_two_pow (by omega) hp
  · omega
theorem putV_bit (x r i : Nat) (hx : x < 2 ^ 64) (hr : r < 64) (b : Bool) : (putV x r b).testBit i = if i = r then b else x.testBit i := by
  unfold putV
  cases b with
  | true =>
    rw [if_pos rfl, Nat.testBit_or, clr_bit x r i hx hr, Nat.testBit_two_pow]
    by_cases h : i = r
    · subst h; simp
    · have : ¬ r = i := fun h' => h h'.symm
      simp [h, this]
  | false =>
    rw [if_neg (by decide), clr_bit x r i hx hr]
    by_cases h : i = r
    · subst h; simp
    · simp [h]
theorem bitAt_putW {ws : List Nat} (hw : ∀ w ∈ ws, w < 2 ^ 64) (i : Nat) (b : Bool) (hi : i / 64 < ws.length) (q : Nat) : bitAt (putW ws i b) q = if q = i then b else bitAt ws q := by
  unfold putW
  rw [bitAt_set _ _ hi]
  by_cases h : q / 64 = i / 64
  · rw [if_pos h, putV_bit _ _ _ (getD_lt hw _) (Nat.mod_lt _ (by decide))]
    by_cases h2 : q = i
    · subst h2; rw [if_pos rfl, if_pos rfl]
    · rw [if_neg (by omega), if_neg h2]
      unfold bitAt; rw [h]
  · rw [if_neg h, if_neg (by rintro rfl; exact h rfl)]
theorem putW_lt {ws : List Nat} (hw : ∀ w ∈ ws, w < 2 ^ 64) (i : Nat) (b : Bool) : ∀ w ∈ putW ws i b, w < 2 ^ 64 := set_lt hw (putV_lt (getD_lt hw _) (Nat.mod_lt _ (by decide)) b)
theorem putW_length (ws : List Nat) (i : Nat) (b : Bool) : (putW ws i b).length = ws.length := by simp [putW]
theorem haystackref02_put_r_spec (ws : List Nat) (hw : ∀ w ∈ ws, w < 2 ^ 64) (l : Nat) (hl : l = ws.length) (i : Nat) (hi : i / 64 < ws.length) (hi2 : i < 4611686018427387904) (b : Bool) (K : List Int → Option R) :
    haystackref02_put_r l (i : Int) b (ci ws) K = K (ci (putW ws i b)) := by
  subst hl
  have hp : 2 ^ (i % 64) < 2 ^ 64 := Nat.pow_lt_pow_right (by decide) (Nat.mod_lt _ (by decide))
  have hg := getD_lt hw (i / 64)
  rw [haystackref02_put_r_unf]; unfold haystackref02_put_r_B
  rw [quo64 i hi2, rem64 i, cvtW_u64 (by omega) (by omega), Int.toNat_natCast, ci_length]
  rw [sel_pos (by omega), sel_pos (by omega), sel_pos hi, sel_pos (by omega), sel_pos (by omega), sel_pos (by omega), sel_pos hi, letV_eq, ci_getD, show (1 : Int) = ((1 : Nat) : Int) from rfl, shlW_u64 _ _ (by decide), Nat.one_mul, Nat.mod_eq_of_lt hp, andNotW_u64 _ _ hg hp, ci_set]
  cases b with
  | false => rw [Ev.sel_false]; simp [putW, putV]
  | true =>
    rw [Ev.sel_true, ci_length, List.length_set, sel_pos (by omega), sel_pos (by omega), sel_pos hi, sel_pos (by omega), sel_pos (by omega), sel_pos (by omega), sel_pos hi, letV_eq, ci_getD]
    have e : (ws.set (i / 64) (ws.getD (i / 64) 0 - (ws.getD (i / 64) 0 &&& 2 ^ (i % 64)))).getD (i / 64) 0 = ws.getD (i / 64) 0 - (ws.getD (i / 64) 0 &&& 2 ^ (i % 64)) := by
      rw [List.getD_eq_getElem?_getD, List.getElem?_set_self hi]; rfl
    rw [e, orW_u64 _ _ (by omega) hp, ci_set, List.set_set]
    simp [putW, putV]
theorem putW_wds {l : List Bool} {i : Nat} (hi : i < l.length) (b : Bool) : putW (wds l) i b = wds (l.set i b) := by
  apply wds_eq
  · rw [putW_length, wds_length, List.length_set]
  · exact putW_lt (fun w hw => wds_lt hw) i b
  · intro q
    rw [bitAt_putW (fun w hw => wds_lt hw) i b (by rw [wds_length]; omega), bitAt_wds, getD_set l i b hi]
end
end Go.Proofs.YtdojekdcdoaccaaDoor
