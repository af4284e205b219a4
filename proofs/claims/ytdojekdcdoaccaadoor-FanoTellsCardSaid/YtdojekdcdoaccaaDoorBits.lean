/- Layer 2: what the functions of the package of rows of bits come to. -/
import Derived.Test.YtdojekdcdoaccaaDoorWordA
import Derived.Test.YtdojekdcdoaccaaDoorWA
namespace Go.Proofs.YtdojekdcdoaccaaDoor
open Go Go.Ev
section
variable {R : Type}
/-- words of which each is one, and not too many -/
def Ws (ws : List Nat) : Prop := (∀ w ∈ ws, w < 2 ^ 64) ∧ ws.length < 4611686018427387904
theorem Ws.wds {l : List Bool} (h : l.length ≤ 1048576) : Ws (wds l) := ⟨fun _ hw => wds_lt hw, by rw [wds_length]; omega⟩
theorem Ws.nil : Ws [] := ⟨by simp, by simp⟩

theorem bits_words_spec (n : Int) (h1 : 0 ≤ n) (h2 : n ≤ 4611686018427387904) (K : Int → Option R) : bits_words n K = K ((n + 63) / 64) := by
  rw [bits_words_unf]; unfold bits_words_B
  rw [addW_i64 (by omega) (by omega), subW_i64 (by omega) (by omega), quoW_nat (by omega) (by omega) (by omega)]
  congr 1; omega

theorem last_ok (x r : Nat) (hr : r < 64) : (x - (x &&& maskN (r : Int)) = 0) ↔ x < 2 ^ r := by
  rw [and_maskN, show min (r : Int).toNat 64 = r by omega]
  have hp : 0 < 2 ^ r := Nat.two_pow_pos r
  have h1 := Nat.mod_lt x hp
  constructor
  · intro h
    have := Nat.mod_le x (2 ^ r)
    omega
  · intro h
    rw [Nat.mod_eq_of_lt h]; omega

theorem bits_Check_spec (n : Int) (ws : List Nat) (hw : Ws ws) (K : Bool → Option R) : bits_Check n (ci ws) K = K (okRow n ws) := by
  rw [bits_Check_unf]; unfold bits_Check_B
  rw [ci_length]
  have hlen := hw.2
  by_cases h1 : n < 0
  · rw [sel_pos h1]
    congr 1
    have : ¬ (0 ≤ n ∧ n ≤ 1048576 ∧ ws.length = (n.toNat + 63) / 64) := by omega
    simp [okRow, this]
  rw [sel_neg h1]
  by_cases h2 : 1048576 < n
  · rw [sel_pos h2]
    congr 1
    have : ¬ (0 ≤ n ∧ n ≤ 1048576 ∧ ws.length = (n.toNat + 63) / 64) := by omega
    simp [okRow, this]
  rw [sel_neg h2, bits_words_spec n (by omega) (by omega)]
  by_cases h3 : ((ws.length : Nat) : Int) = (n + 63) / 64
  · rw [decide_eq_true h3]
    show bits_Check_j4 _ _ _ = _
    rw [bits_Check_j4_unf]; unfold bits_Check_j4_B
    rw [remW_nat' (by omega)]
    have h4 : 0 ≤ n ∧ n ≤ 1048576 ∧ ws.length = (n.toNat + 63) / 64 := by omega
    by_cases h5 : n % 64 = 0
    · rw [sel_pos h5]
      congr 1
      have : n.toNat % 64 = 0 := by omega
      simp [okRow, h4, this]
    · rw [sel_neg h5, ci_length, subW_i64 (by omega) (by omega), sel_pos (by omega), sel_pos (by omega), word_Mask_spec _ (by omega) (by omega), letV_eq, show (((ws.length : Nat) : Int) - 1).toNat = ws.length - 1 by omega, ci_getD, andNotW_u64 _ _ (getD_lt hw.1 _) (maskN_lt _)]
      congr 1
      have e : n % 64 = ((n.toNat % 64 : Nat) : Int) := by omega
      have h6 := last_ok (ws.getD (ws.length - 1) 0) (n.toNat % 64) (Nat.mod_lt _ (by decide))
      rw [e]
      have h7 : ¬ n.toNat % 64 = 0 := by omega
      simp only [okRow, h4, h7, decide_false, Bool.false_or, and_self, decide_true, Bool.true_and]
      rw [h4.2.2] at h6
      rw [decide_eq_decide, ← h6]
      omega
  · rw [decide_eq_false h3]
    show K false = _
    congr 1
    have : ¬ (0 ≤ n ∧ n ≤ 1048576 ∧ ws.length = (n.toNat + 63) / 64) := by omega
    simp [okRow, this]

/-- what a row tells of a place -/
def getS (n : Int) (ws : List Nat) (i : Int) : Bool × Int := if okRow n ws = true then (if i < 0 ∨ n ≤ i then (false, 3) else (bitAt ws i.toNat, 0)) else (false, 2)
theorem okRow_len {n : Int} {ws : List Nat} (h : okRow n ws = true) : 0 ≤ n ∧ n ≤ 1048576 ∧ ws.length = (n.toNat + 63) / 64 := by
  simp only [okRow, Bool.and_eq_true, decide_eq_true_eq] at h
  exact h.1
theorem bit_word (ws : List Nat) (hw : ∀ w ∈ ws, w < 2 ^ 64) (j i : Nat) : (andW .u64 (shrW .u64 ((ws.getD j 0 : Nat) : Int) (i : Int)) 1 = 1) ↔ (ws.getD j 0).testBit i = true := by
  have hl := getD_lt hw j
  rw [shrW_u64 _ _ hl, show (1 : Int) = ((1 : Nat) : Int) from rfl, andW_u64 _ _ (Nat.lt_of_le_of_lt (Nat.div_le_self _ _) hl) (by decide), Nat.and_one_is_mod, ← bit_mod]
  omega

/-- what a row tells of bits as a number -/
def sliceS (n : Int) (ws : List Nat) (a k : Int) : Int × Int :=
  if okRow n ws = true ∧ ¬ (k < 0 ∨ 64 < k) then (if a < 0 ∨ n < a ∨ n - a < k then (0, 3) else (((sliceN ws a.toNat k.toNat : Nat) : Int), 0)) else (0, 2)
theorem slice_one (ws : List Nat) (a k : Nat) (h : a % 64 + k ≤ 64) : (ws.getD (a / 64) 0 / 2 ^ (a % 64)) &&& maskN (k : Int) = sliceN ws a k := by
  apply Nat.eq_of_testBit_eq
  intro i
  rw [sliceN_bit, and_maskN, Nat.testBit_mod_two_pow, ← Nat.shiftRight_eq_div_pow, Nat.testBit_shiftRight, show min (k : Int).toNat 64 = k by omega]
  by_cases hi : i < k
  · simp only [hi, decide_true, Bool.true_and]
    unfold bitAt
    rw [show (a + i) / 64 = a / 64 by omega, show (a + i) % 64 = a % 64 + i by omega]
  · simp [hi]
theorem slice_two {ws : List Nat} (hw : ∀ w ∈ ws, w < 2 ^ 64) (a k : Nat) (h : 64 < a % 64 + k) (hk : k ≤ 64) : ((ws.getD (a / 64) 0 / 2 ^ (a % 64)) ||| (ws.getD (a / 64 + 1) 0 * 2 ^ (64 - a % 64) % 2 ^ 64)) &&& maskN (k : Int) = sliceN ws a k := by
  apply Nat.eq_of_testBit_eq
  intro i
  rw [sliceN_bit, and_maskN, Nat.testBit_mod_two_pow, Nat.testBit_or, ← Nat.shiftRight_eq_div_pow, Nat.testBit_shiftRight, Nat.testBit_mod_two_pow, Nat.testBit_mul_two_pow, show min (k : Int).toNat 64 = k by omega]
  by_cases hi : i < k
  · simp only [hi, decide_true, Bool.true_and]
    have h64 : i < 64 := by omega
    simp only [h64, decide_true, Bool.true_and]
    unfold bitAt
    by_cases hlow : a % 64 + i < 64
    · have : ¬ 64 - a % 64 ≤ i := by omega
      rw [show (a + i) / 64 = a / 64 by omega, show (a + i) % 64 = a % 64 + i by omega]
      simp [this]
    · have : 64 - a % 64 ≤ i := by omega
      rw [show (a + i) / 64 = a / 64 + 1 by omega, show (a + i) % 64 = i - (64 - a % 64) by omega, bit_lt (getD_lt hw _) (show 64 ≤ a % 64 + i by omega)]
      simp [this]
  · simp [hi]

theorem bits_Slice_spec (n : Int) (ws : List Nat) (hw : Ws ws) (a k : Int) (h1 : -9223372036854775808 ≤ a) (h2 : a ≤ 9223372036854775807) (K : Int → Int → Option R) : bits_Slice n (ci ws) a k K = K (sliceS n ws a k).1 (sliceS n ws a k).2 := by
  have bad : ∀ (K1 : Int → Int → Int → List Int → Option R) (K : Int → Int → Option R), bits_Slice_j3 a k true n (ci ws) K K1 = K 0 2 := fun K1 K => by
    rw [bits_Slice_j3_unf]; unfold bits_Slice_j3_B; rfl
  have far : ∀ (K1 : Int → Int → Int → List Int → Option R) (K : Int → Int → Option R), bits_Slice_j5 a k true n (ci ws) K K1 = K 0 3 := fun K1 K => by
    rw [bits_Slice_j5_unf]; unfold bits_Slice_j5_B; rfl
  rw [bits_Slice_unf]; unfold bits_Slice_B
  rw [bits_Check_spec n ws hw]
  cases hok : okRow n ws with
  | false =>
    rw [Bool.not_false, Ev.sel_true, bad]; simp [sliceS, hok]
  | true =>
    obtain ⟨a1, a2, a3⟩ := okRow_len hok
    rw [Bool.not_true, Ev.sel_false]
    by_cases h3 : k < 0
    · rw [sel_pos h3, bad]; simp [sliceS, h3]
    rw [sel_neg h3]
    by_cases h4 : 64 < k
    · rw [decide_eq_true h4, bad]; simp [sliceS, h4]
    rw [decide_eq_false h4, bits_Slice_j3_unf]; unfold bits_Slice_j3_B
    rw [Ev.sel_false]
    have hs : sliceS n ws a k = if a < 0 ∨ n < a ∨ n - a < k then (0, 3) else (((sliceN ws a.toNat k.toNat : Nat) : Int), 0) := by
      have : ¬ (k < 0 ∨ 64 < k) := by omega
      simp only [sliceS, hok, this, not_false_eq_true, and_self, if_true]
    rw [hs]
    by_cases h5 : a < 0
    · rw [sel_pos h5, far, if_pos (.inl h5)]
    rw [sel_neg h5]
    by_cases h6 : n < a
    · rw [sel_pos h6, far, if_pos (.inr (.inl h6))]
    rw [sel_neg h6, subW_i64 (by omega) (by omega)]
    by_cases h7 : n - a < k
    · rw [decide_eq_true h7, far, if_pos (.inr (.inr h7))]
    rw [decide_eq_false h7, bits_Slice_j5_unf, if_neg (by omega)]; unfold bits_Slice_j5_B
    rw [Ev.sel_false]
    obtain ⟨p, rfl⟩ : ∃ p : Nat, a = (p : Int) := ⟨a.toNat, by omega⟩
    obtain ⟨c, rfl⟩ : ∃ c : Nat, k = (c : Int) := ⟨k.toNat, by omega⟩
    simp only [Int.toNat_natCast]
    by_cases h8 : c = 0
    · subst h8
      rw [sel_pos (by rfl)]
      rfl
    rw [sel_neg (by omega)]
    show bits_Slice_j8 _ _ _ _ _ = _
    rw [bits_Slice_j8_unf]; unfold bits_Slice_j8_B
    have e1 : quoW .i64 (p : Int) 64 = ((p / 64 : Nat) : Int) := by rw [quoW_nat (by omega) (by omega) (by omega)]; omega
    have e2 : remW (p : Int) 64 = ((p % 64 : Nat) : Int) := by rw [remW_nat' (by omega)]; omega
    have hl := getD_lt hw.1 (p / 64)
    have hd : ws.getD (p / 64) 0 / 2 ^ (p % 64) < 2 ^ 64 := Nat.lt_of_le_of_lt (Nat.div_le_self _ _) hl
    rw [e1, e2, ci_length, sel_pos (by omega), sel_pos (by omega), sel_pos (by omega), addW_i64 (by omega) (by omega), Int.toNat_natCast, ci_getD, shrW_u64 _ _ hl]
    by_cases h9 : 64 < p % 64 + c
    · rw [sel_pos (by omega), addW_i64 (by omega) (by omega), sel_pos (by omega), sel_pos (by omega), subW_i64 (by omega) (by omega), sel_pos (by omega), show (((p / 64 : Nat) : Int) + 1).toNat = p / 64 + 1 by omega, ci_getD, show (64 : Int) - ((p % 64 : Nat) : Int) = ((64 - p % 64 : Nat) : Int) by omega, shlW_u64 _ _ (getD_lt hw.1 _), orW_u64 _ _ hd (Nat.mod_lt _ (by decide)), letV_eq, bits_Slice_j12_unf]
      unfold bits_Slice_j12_B
      rw [word_Mask_spec _ (by omega) (by omega), andW_u64 _ _ (Nat.or_lt_two_pow hd (Nat.mod_lt _ (by decide))) (maskN_lt _), slice_two hw.1 p c h9 (by omega)]
    · rw [sel_neg (by omega), bits_Slice_j12_unf]
      unfold bits_Slice_j12_B
      rw [word_Mask_spec _ (by omega) (by omega), andW_u64 _ _ hd (maskN_lt _), slice_one ws p c (by omega)]
end
end Go.Proofs.YtdojekdcdoaccaaDoor
