/- Layer 6: ways, places among words, words by places. -/
import Derived.Test.YtofblchonjfdbaaGreatDoorWordC
import Derived.Test.YtofblchonjfdbaaGreatDoorW12
namespace Go.Proofs.YtofblchonjfdbaaGreatDoor
open Go Go.Ev
section
variable {R : Type}
theorem binom_next_loop (i : Nat) (hi : i + 1 ≤ 62) (K : List Int → Option R) : ∀ (N k : Nat), k ≤ i + 1 → k < N → binom_row_next_l2_L K N (k : Int) (tab (mixR i k) 63) = K (tab (ch (i + 1)) 63)
  | 0, _, _, h => by omega
  | N + 1, k, h1, h2 => by
    simp only [binom_row_next_l2_L, binom_row_next_l2_T]
    cases k with
    | zero => rw [sel_neg (by omega), mixR_last]
    | succ k =>
      have e0 : subW .i64 ((k + 1 : Nat) : Int) 1 = (k : Int) := by rw [subW_i64 (by omega) (by omega)]; omega
      have a1 := ch_lt (n := i + 1) (k := k + 1) (by omega)
      have e1 : mixR i (k + 1) (k + 1) + mixR i (k + 1) k = ch (i + 1) (k + 1) := by
        unfold mixR
        rw [if_neg (by omega), if_neg (by omega), ch]; omega
      have ea : addW .u64 ((tab (mixR i (k + 1)) 63).getD (Int.toNat ((k + 1 : Nat) : Int)) 0) ((tab (mixR i (k + 1)) 63).getD (Int.toNat (k : Int)) 0) = ((mixR i (k + 1) (k + 1) + mixR i (k + 1) k : Nat) : Int) := by
        rw [Int.toNat_natCast, Int.toNat_natCast, tab_get _ (by omega), tab_get _ (by omega), addW_u64 (by omega) (by omega)]; omega
      rw [tab_length, e0, ea, sel_pos (by omega), sel_pos (by omega), sel_pos (by omega), sel_pos (by omega), sel_pos (by omega), sel_pos (by omega), sel_pos (by omega), sel_pos (by omega), sel_pos (by omega), sel_pos (by omega), letV_eq, Int.toNat_natCast, mixR_step i k 63 (by omega)]
      exact binom_next_loop i hi K N k (by omega) (by omega)
theorem binom_next_spec (i : Nat) (hi : i + 1 ≤ 62) (K : List Int → Option R) : binom_row_next_r (i : Int) (tab (ch i) 63) K = K (tab (ch (i + 1)) 63) := by
  rw [binom_row_next_r_unf]; unfold binom_row_next_r_B
  rw [binom_row_next_l2_unf]; unfold binom_row_next_l2_B
  rw [addW_i64 (by omega) (by omega), show (i : Int) + 1 = ((i + 1 : Nat) : Int) by omega, ← mixR_first i 63]
  exact binom_next_loop i hi _ NR (i + 1) (by omega) (by have := NR_lt; omega)
def chI (n k : Int) : Nat := if 0 ≤ n ∧ n ≤ 62 ∧ 0 ≤ k ∧ k ≤ n then ch n.toNat k.toNat else 0
theorem chI_nat (n k : Nat) (h1 : n ≤ 62) (h2 : k ≤ n) : chI (n : Int) (k : Int) = ch n k := by
  unfold chI
  rw [if_pos ⟨by omega, by omega, by omega, by omega⟩, Int.toNat_natCast, Int.toNat_natCast]
theorem chI_nat' (n k : Nat) (h1 : n ≤ 62) : chI (n : Int) (k : Int) = ch n k := by
  by_cases h : k ≤ n
  · exact chI_nat n k h1 h
  · unfold chI; rw [if_neg (by omega), ch_more n k (by omega)]
theorem chI_lt (n k : Int) : chI n k ≤ 4611686018427387904 := by
  unfold chI
  split
  · exact ch_lt (by omega)
  · omega
theorem binom_Choose_loop (n k : Nat) (hn : n ≤ 62) (K : Int → List Int → Option R) : ∀ (N i : Nat), i ≤ n → n - i < N → binom_Choose_l6_L K N (k : Int) (n : Int) (i : Int) (tab (ch i) 63) = K (k : Int) (tab (ch n) 63)
  | 0, _, _, h => by omega
  | N + 1, i, h1, h2 => by
    simp only [binom_Choose_l6_L, binom_Choose_l6_T]
    by_cases h : i < n
    · rw [sel_pos (by omega), binom_next_spec i (by omega), addW_i64 (by omega) (by omega), show (i : Int) + 1 = ((i + 1 : Nat) : Int) by omega]
      exact binom_Choose_loop n k hn K N (i + 1) (by omega) (by omega)
    · have : i = n := by omega
      subst this
      rw [sel_neg (by omega)]
theorem binom_Choose_go (n k : Nat) (hn : n ≤ 62) (l : List Int) (h : l = tab (ch 0) 63) (K : Int → List Int → Option R) : binom_Choose_l6 (k : Int) (n : Int) 0 l K = K (k : Int) (tab (ch n) 63) := by
  subst h
  rw [binom_Choose_l6_unf]; unfold binom_Choose_l6_B
  exact binom_Choose_loop n k hn _ NR 0 (by omega) (by have := NR_lt; omega)
theorem binom_Choose_spec (n k : Int) (K : Int → Option R) : binom_Choose n k K = K ((chI n k : Nat) : Int) := by
  rw [binom_Choose_unf]; unfold binom_Choose_B chI
  by_cases h1 : n < 0
  · rw [sel_pos h1, if_neg (by omega)]; rfl
  by_cases h2 : 62 < n
  · rw [sel_neg h1, sel_pos h2, if_neg (by omega)]; rfl
  by_cases h3 : k < 0
  · rw [sel_neg h1, sel_neg h2, sel_pos h3, if_neg (by omega)]; rfl
  by_cases h4 : n < k
  · rw [sel_neg h1, sel_neg h2, sel_neg h3, sel_pos h4, if_neg (by omega)]; rfl
  obtain ⟨a, rfl⟩ : ∃ a : Nat, n = (a : Int) := ⟨n.toNat, by omega⟩
  obtain ⟨b, rfl⟩ : ∃ b : Nat, k = (b : Int) := ⟨k.toNat, by omega⟩
  rw [sel_neg h1, sel_neg h2, sel_neg h3, sel_neg h4, if_pos ⟨by omega, by omega, by omega, by omega⟩, binom_Choose_j4_unf]; unfold binom_Choose_j4_B
  refine (binom_Choose_go a b (by omega) _ ?_ _).trans ?_
  · decide +kernel
  rw [tab_length, Int.toNat_natCast, Int.toNat_natCast, sel_pos (by omega), sel_pos (by omega), sel_pos (by omega), tab_get _ (by omega)]
/-! ### the triangle -/
def tri (n : Nat) : List (List Int) := (List.range (n + 1)).map fun j => tab (ch j) (j + 1)
theorem tri_length (n : Nat) : (tri n).length = n + 1 := by simp [tri]
theorem tri_get {n i : Nat} (h : i ≤ n) : (tri n).getD i [] = tab (ch i) (i + 1) := by
  unfold tri
  rw [List.getD_eq_getElem?_getD, List.getElem?_map, List.getElem?_range (by omega)]; rfl
theorem tri_succ (n : Nat) : tri n ++ [tab (ch (n + 1)) (n + 2)] = tri (n + 1) := by
  unfold tri
  rw [List.range_succ (n := n + 1), List.map_append]; rfl
theorem tri_zero : [[(1 : Int)]] = tri 0 := by decide +kernel
theorem binom_rows_loop (n : Nat) (hn : n ≤ 62) (K : Nat → List (List Int) → Option R) : ∀ (N i : Nat), i ≤ n → n - i < N → binom_rows_l5_L K N (i + 1) (n : Int) (i : Int) (tab (ch i) 63) (tri i) = K (n + 1) (tri n)
  | 0, _, _, h => by omega
  | N + 1, i, h1, h2 => by
    simp only [binom_rows_l5_L, binom_rows_l5_T]
    by_cases h : i < n
    · have e1 : addW .i64 (i : Int) 2 = ((i + 2 : Nat) : Int) := by rw [addW_i64 (by omega) (by omega)]; omega
      have e2 : addW .i64 (i : Int) 1 = ((i + 1 : Nat) : Int) := by rw [addW_i64 (by omega) (by omega)]; omega
      have ih := binom_rows_loop n hn K N (i + 1) (by omega) (by omega)
      rw [sel_pos (by omega), binom_next_spec i (by omega)]
      rw [e1, e2, tab_length, tri_length, Int.toNat_natCast, show Int.toNat 0 = 0 from rfl, Nat.sub_zero, sel_pos (by omega), sel_pos (by omega), sel_pos (by omega)]
      by_cases h3 : i + 2 = 63
      · rw [sel_pos h3, sel_pos (by omega), sel_pos rfl, sel_pos (by omega), sel_pos h3, sel_pos h3, letV_eq, ← h3, tri_succ]
        rw [← h3] at ih
        exact ih
      · rw [sel_neg h3, sel_pos (by show 0 + (i + 2 - 0) ≤ 63; omega), sel_pos (by omega), letV_eq, List.drop_zero, show Nat.sub (i + 2) 0 = i + 2 from rfl, tab_take _ (by omega), tab_length, sel_pos rfl, sel_pos (by omega), sel_pos rfl, sel_pos rfl, letV_eq, tri_succ]
        exact ih
    · have : i = n := by omega
      subst this
      rw [sel_neg (by omega)]
theorem binom_rows_go (n : Nat) (hn : n ≤ 62) (l : List Int) (h : l = tab (ch 0) 63) (K : Nat → List (List Int) → Option R) : binom_rows_l5 1 (n : Int) 0 l [[1]] K = K (n + 1) (tri n) := by
  subst h
  rw [tri_zero, binom_rows_l5_unf]; unfold binom_rows_l5_B
  exact binom_rows_loop n hn _ NR 0 (by omega) (by have := NR_lt; omega)
theorem binom_rows_spec (n : Nat) (hn : n ≤ 62) (K : List (List Int) → Option R) : binom_rows (n : Int) K = K (tri n) := by
  rw [binom_rows_unf]; unfold binom_rows_B
  refine (binom_rows_go n hn _ ?_ _).trans ?_
  · decide +kernel
  rw [sel_pos (by show n + 1 = (tri n).length; rw [tri_length])]
/-! ### places -/
theorem binom_Offset_j14_spec (y t : Nat) (ht : t ≤ 62) (hy : y < 2 ^ 64) (c : Int) (xss : List (List Int)) (o l : Int) (K0 : Int → Int → List (List Int) → Int → Int → Option R) : binom_Offset_j14 (y : Int) c xss o l (t : Int) K0 = K0 ((y - (y &&& 2 ^ t) : Nat) : Int) c xss o l := by
  have hp : 2 ^ t ≤ 2 ^ 62 := Nat.pow_le_pow_right (by decide) ht
  rw [binom_Offset_j14_unf]; unfold binom_Offset_j14_B
  rw [sel_pos (by omega), show (1 : Int) = ((1 : Nat) : Int) from rfl, shlW_u64 _ _ (by omega), Nat.one_mul, Nat.mod_eq_of_lt (by omega), andNotW_u64 _ _ hy (by omega)]
theorem and_top {y t : Nat} (h1 : 2 ^ t ≤ y) (h2 : y < 2 ^ (t + 1)) : y &&& 2 ^ t = 2 ^ t := by
  have e : y = 2 ^ t * 1 + (y - 2 ^ t) := by omega
  have h := and_split t (y - 2 ^ t) 1 0 1 (by rw [Nat.pow_succ] at h2; omega) (Nat.two_pow_pos t)
  rw [← e, Nat.mul_one, Nat.add_zero, Nat.and_zero, Nat.and_self] at h
  omega
theorem binom_Offset_loop (n : Nat) (hn : n ≤ 62) (c : Int) (K0 : Int → Int → Option R) : ∀ (N y o : Nat), y < 2 ^ n → bitLen y < N → o + offN y n ≤ 4611686018427387904 → binom_Offset_l9_L K0 N (y : Int) c (tri n) (o : Int) ((pc y 64 : Nat) : Int) = K0 c ((o + offN y n : Nat) : Int)
  | 0, _, _, _, h, _ => by omega
  | N + 1, y, o, h1, h2, h3 => by
    have hp : 2 ^ n ≤ 2 ^ 62 := Nat.pow_le_pow_right (by decide) hn
    simp only [binom_Offset_l9_L, binom_Offset_l9_T]
    by_cases h0 : y = 0
    · subst h0
      have : offN 0 n = 0 := by
        have := (offN_top (x := 0) (n := 0) (by decide) n).1
        rwa [Nat.zero_add] at this
      rw [sel_neg (by omega), this]; rfl
    · obtain ⟨b1, b2⟩ := bitLen_spec y
      have hb := bitLen_pos h0
      have b2 := b2 h0
      obtain ⟨t, ht⟩ : ∃ t, bitLen y = t + 1 := ⟨bitLen y - 1, by omega⟩
      rw [ht] at b1 b2 h2
      rw [Nat.add_sub_cancel] at b2
      have htn : t < n := by
        apply Nat.lt_of_not_le
        intro hle
        have := Nat.pow_le_pow_right (n := 2) (by decide) hle
        omega
      have hr : y - 2 ^ t < 2 ^ t := by rw [Nat.pow_succ] at b1; omega
      have em : y % 2 ^ t = y - 2 ^ t := by rw [Nat.mod_eq_sub_mod b2, Nat.mod_eq_of_lt hr]
      have hbit : y.testBit t = true := by have := bitLen_top h0; rwa [ht, Nat.add_sub_cancel] at this
      -- what is told of the rest
      obtain ⟨d, hd⟩ : ∃ d, n = t + 1 + d := ⟨n - (t + 1), by omega⟩
      obtain ⟨d', hd'⟩ : ∃ d', 64 = t + 1 + d' := ⟨64 - (t + 1), by omega⟩
      have o1 := (offN_top (x := y) (n := t + 1) b1 d).1
      have o2 := (offN_top (x := y) (n := t + 1) b1 d').2
      have o3 := (offN_top (x := y - 2 ^ t) (n := t) hr (1 + d)).1
      have o4 := (offN_top (x := y - 2 ^ t) (n := t) hr (1 + d')).2
      have o5 := offN_mod y t t (Nat.le_refl _)
      rw [em] at o5
      rw [← hd] at o1; rw [← hd'] at o2
      rw [← Nat.add_assoc, ← hd] at o3; rw [← Nat.add_assoc, ← hd'] at o4
      have es : offN y (t + 1) = offN y t + ch t (pc y (t + 1)) := by simp only [offN]; rw [if_pos hbit]
      have ep : pc y (t + 1) = pc y t + 1 := by rw [pc_succ, if_pos hbit]
      have hpl := pc_le y t
      have eO : offN y n = offN (y - 2 ^ t) n + ch t (pc y 64) := by rw [o1, es, o3, o5.2, o2]
      have eP : pc y 64 = pc (y - 2 ^ t) 64 + 1 := by rw [o2, ep, o4, o5.1]
      have ea : y - (y &&& 2 ^ t) = y - 2 ^ t := by rw [and_top b2 b1]
      have hbl : bitLen (y - 2 ^ t) < N := by have := bitLen_le hr; omega
      have hcl := ch_lt (n := t) (k := pc y 64) (by omega)
      have ih := binom_Offset_loop n hn c K0 N (y - 2 ^ t) (o + ch t (pc y 64)) (by omega) hbl (by omega)
      have et : subW .i64 ((bitLen y : Nat) : Int) 1 = (t : Int) := by rw [ht, subW_i64 (by omega) (by omega)]; omega
      have el : subW .i64 ((pc y 64 : Nat) : Int) 1 = ((pc (y - 2 ^ t) 64 : Nat) : Int) := by rw [eP, subW_i64 (by omega) (by omega)]; omega
      rw [sel_pos (by omega), word_Len_spec y (by omega)]
      rw [et]
      rw [show o + offN y n = o + ch t (pc y 64) + offN (y - 2 ^ t) n by omega, ← ih]
      by_cases hle : pc y 64 ≤ t
      · rw [sel_pos (by omega), sel_pos (by omega), tri_length, sel_pos (by omega), letV_eq, Int.toNat_natCast, tri_get (by omega), tab_length, sel_pos (by omega), sel_pos (by omega), Int.toNat_natCast, tab_get _ (by omega), addW_u64 (by omega) (by omega), binom_Offset_j14_spec y t (by omega) (by omega), el, ea, Int.natCast_add]
      · rw [sel_neg (by omega), binom_Offset_j14_spec y t (by omega) (by omega), el, ea, ch_more t _ (by omega)]; rfl
theorem binom_Offset_spec (x : Nat) (hx : x < 2 ^ 64) (n : Nat) (hn : n ≤ 62) (K : Int → Int → Option R) : binom_Offset (x : Int) (n : Int) K = K ((pc x n : Nat) : Int) ((offN x n : Nat) : Int) := by
  rw [binom_Offset_unf]; unfold binom_Offset_B
  rw [sel_neg (by omega), sel_neg (by omega), binom_Offset_j4_unf]; unfold binom_Offset_j4_B
  have hp : 2 ^ n ≤ 2 ^ 62 := Nat.pow_le_pow_right (by decide) hn
  have hl := Nat.mod_lt x (Nat.two_pow_pos n)
  have em : x &&& maskN (n : Int) = x % 2 ^ n := by rw [and_maskN]; congr 2; omega
  obtain ⟨m1, m2⟩ := offN_mod x n n (Nat.le_refl _)
  obtain ⟨d, hd⟩ : ∃ d, 64 = n + d := ⟨64 - n, by omega⟩
  have m3 := (offN_top hl d).2
  rw [← hd] at m3
  have hlt := offN_lt (x % 2 ^ n) n
  have hcl := ch_lt (n := n) (k := pc (x % 2 ^ n) n) hn
  rw [word_Mask_spec _ (by omega) (by omega), andW_u64 _ _ hx (maskN_lt _), em, word_Pop_spec _ (by omega), binom_rows_spec n hn, binom_Offset_l9_unf]; unfold binom_Offset_l9_B
  have hb := bitLen_le hl
  refine (binom_Offset_loop n hn _ _ NR (x % 2 ^ n) 0 hl (by have := NR_lt; omega) (by omega)).trans ?_
  rw [m3, m1, m2, Nat.zero_add]
theorem binom_Offset_none (x n : Int) (h : n < 0 ∨ 62 < n) (K : Int → Int → Option R) : binom_Offset x n K = K 0 0 := by
  rw [binom_Offset_unf]; unfold binom_Offset_B
  by_cases h1 : n < 0
  · rw [sel_pos h1]
  · rw [sel_neg h1, sel_pos (by omega)]
/-! ### words -/
theorem or_bit {x m : Nat} (h : x % 2 ^ (m + 1) = 0) : x ||| 2 ^ m = x + 2 ^ m := by
  refine (and_add_or x (2 ^ m) ?_).symm
  apply Nat.eq_of_testBit_eq
  intro i
  rw [Nat.testBit_and, Nat.zero_testBit, Nat.testBit_two_pow]
  by_cases e : m = i
  · subst e
    have : (x % 2 ^ (m + 1)).testBit m = x.testBit m := by rw [Nat.testBit_mod_two_pow, decide_eq_true (by omega), Bool.true_and]
    rw [← this, h, Nat.zero_testBit, Bool.false_and]
  · rw [decide_eq_false e, Bool.and_false]
theorem mod_down {x m : Nat} (h : x % 2 ^ (m + 1) = 0) : x % 2 ^ m = 0 := by
  have : x % 2 ^ m = x % 2 ^ (m + 1) % 2 ^ m := by rw [Nat.mod_mod_of_dvd _ (Nat.pow_dvd_pow 2 (by omega))]
  rw [this, h, Nat.zero_mod]
theorem binom_Block_loop (n : Nat) (hn : n ≤ 62) (K0 : Int → Option R) : ∀ (N m k off x : Nat), m ≤ n → m < N → k ≤ 62 → off < 2 ^ 64 → x % 2 ^ m = 0 → x + 2 ^ m ≤ 2 ^ n → binom_Block_l7_L K0 N (k : Int) (off : Int) (tri n) (x : Int) ((m : Int) - 1) = K0 ((x + blkN m k off : Nat) : Int)
  | 0, _, _, _, _, _, h, _, _, _, _ => by omega
  | N + 1, m, k, off, x, h1, h2, hk, ho, hx, hx2 => by
    have hp : 2 ^ n ≤ 2 ^ 62 := Nat.pow_le_pow_right (by decide) hn
    simp only [binom_Block_l7_L, binom_Block_l7_T]
    cases m with
    | zero => rw [sel_neg (by omega)]; rfl
    | succ m =>
      have e0 : ((m + 1 : Nat) : Int) - 1 = (m : Int) := by omega
      have e1 : subW .i64 (m : Int) 1 = (m : Int) - 1 := subW_i64 (by omega) (by omega)
      rw [e0, sel_pos (by omega)]
      simp only [blkN]
      by_cases h0 : k = 0
      · subst h0; rw [sel_pos (by omega), if_pos rfl]; rfl
      · have hpm : 2 ^ (m + 1) = 2 ^ m * 2 := Nat.pow_succ 2 m
        have hcl := ch_lt (n := m) (k := k) (by omega)
        have hxm := mod_down hx
        have j13 : ∀ (K : Int → Int → List (List Int) → Int → Int → Option R), binom_Block_j13 (k : Int) (off : Int) (tri n) (x : Int) (m : Int) ((ch m k : Nat) : Int) K = if ch m k ≤ off then K ((k - 1 : Nat) : Int) ((off - ch m k : Nat) : Int) (tri n) ((x + 2 ^ m : Nat) : Int) (m : Int) else K (k : Int) (off : Int) (tri n) (x : Int) (m : Int) := fun K => by
          rw [binom_Block_j13_unf]; unfold binom_Block_j13_B
          by_cases h : ch m k ≤ off
          · rw [sel_pos (by omega), if_pos h, sel_pos (by omega), subW_i64 (by omega) (by omega), subW_u64 (by omega) (by omega), show (1 : Int) = ((1 : Nat) : Int) from rfl, shlW_u64 _ _ (by omega), Nat.one_mul, Nat.mod_eq_of_lt (by omega), orW_u64 _ _ (by omega) (by omega), or_bit hx]
            congr 1 <;> omega
          · rw [sel_neg (by omega), if_neg h]
        have ih1 := fun h : ch m k ≤ off => binom_Block_loop n hn K0 N m (k - 1) (off - ch m k) (x + 2 ^ m) (by omega) (by omega) (by omega) (by omega) (by rw [Nat.add_mod_right]; exact hxm) (by omega)
        have ih2 := binom_Block_loop n hn K0 N m k off x (by omega) (by omega) hk ho hxm (by omega)
        have fin : ∀ (F : Int → Int → List (List Int) → Int → Int → Option R), (∀ a b t c, F a b t c (m : Int) = binom_Block_l7_L K0 N a b t c ((m : Int) - 1)) → (if ch m k ≤ off then F ((k - 1 : Nat) : Int) ((off - ch m k : Nat) : Int) (tri n) ((x + 2 ^ m : Nat) : Int) (m : Int) else F (k : Int) (off : Int) (tri n) (x : Int) (m : Int)) = K0 ((x + (if k = 0 then 0 else if ch m k ≤ off then 2 ^ m + blkN m (k - 1) (off - ch m k) else blkN m k off) : Nat) : Int) := fun F hF => by
          rw [if_neg h0]
          by_cases h : ch m k ≤ off
          · rw [if_pos h, if_pos h, hF, ih1 h, Nat.add_assoc]
          · rw [if_neg h, if_neg h, hF, ih2]
        rw [sel_neg (by omega)]
        by_cases hle : k ≤ m
        · rw [sel_pos (by omega), sel_pos (by omega), tri_length, sel_pos (by omega), letV_eq, Int.toNat_natCast, tri_get (by omega), tab_length, sel_pos (by omega), sel_pos (by omega), Int.toNat_natCast, tab_get _ (by omega), j13]
          exact fin (fun a b t c d => binom_Block_l7_L K0 N a b t c (subW .i64 d 1)) fun a b t c => by rw [e1]
        · rw [sel_neg (by omega)]
          have ez : (0 : Int) = ((ch m k : Nat) : Int) := by rw [ch_more m k (by omega)]; rfl
          have j := j13 fun a b t c d => binom_Block_l7_L K0 N a b t c (subW .i64 d 1)
          rw [← ez] at j
          rw [j]
          exact fin (fun a b t c d => binom_Block_l7_L K0 N a b t c (subW .i64 d 1)) fun a b t c => by rw [e1]
theorem binom_Block_spec (n k : Int) (off : Nat) (ho : off < 2 ^ 64) (K : Int → Bool → Option R) : binom_Block n k (off : Int) K = if chI n k ≤ off then K 0 false else K ((blkN n.toNat k.toNat off : Nat) : Int) true := by
  rw [binom_Block_unf]; unfold binom_Block_B
  rw [binom_Choose_spec]
  by_cases h : chI n k ≤ off
  · rw [sel_pos (by omega), if_pos h]
  · rw [sel_neg (by omega), if_neg h]
    have hc : 0 ≤ n ∧ n ≤ 62 ∧ 0 ≤ k ∧ k ≤ n := by
      apply Decidable.byContradiction
      intro hc
      have : chI n k = 0 := if_neg hc
      omega
    obtain ⟨a, rfl⟩ : ∃ a : Nat, n = (a : Int) := ⟨n.toNat, by omega⟩
    obtain ⟨b, rfl⟩ : ∃ b : Nat, k = (b : Int) := ⟨k.toNat, by omega⟩
    rw [binom_rows_spec a (by omega), binom_Block_l7_unf, subW_i64 (by omega) (by omega)]; unfold binom_Block_l7_B
    refine (binom_Block_loop a (by omega) _ NR a b off 0 (Nat.le_refl _) (by have := NR_lt; omega) (by omega) ho (Nat.zero_mod _) (by omega)).trans ?_
    rw [Nat.zero_add, Int.toNat_natCast, Int.toNat_natCast]
/-- how many bits places need -/
def widI (n k : Int) : Nat := if chI n k = 0 then 0 else bitLen (chI n k - 1)
theorem binom_Width_spec (n k : Int) (K : Int → Option R) : binom_Width n k K = K ((widI n k : Nat) : Int) := by
  rw [binom_Width_unf]; unfold binom_Width_B widI
  rw [binom_Choose_spec]
  have hl := chI_lt n k
  by_cases h : chI n k = 0
  · rw [h, sel_pos (by omega), if_pos rfl]; rfl
  · rw [sel_neg (by omega), if_neg h, subW_u64 (by omega) (by omega), show ((chI n k : Nat) : Int) - 1 = ((chI n k - 1 : Nat) : Int) by omega, word_Len_spec _ (by omega)]
end
end Go.Proofs.YtofblchonjfdbaaGreatDoor
