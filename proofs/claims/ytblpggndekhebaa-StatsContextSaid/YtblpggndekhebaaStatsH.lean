/- Layer 19: what symbols need by the one ahead. -/
import Derived.Test.YtblpggndekhebaaStatsG
import Derived.Test.YtblpggndekhebaaStatsF
import Derived.Test.YtblpggndekhebaaWA
namespace Go.Proofs.Ytblpggndekhebaa
open Go Go.Ev
section
variable {R : Type}
theorem second6_T (rec : List Int → Int → Int → List Int → Option R) (t : List Int) (m i : Int) (xs : List Int) (K0 : List Int → Option R) (a b : Nat) (e1 : Int.toNat (t.getD i.toNat 0) = a) (e2 : Int.toNat (t.getD (Int.toNat (addW .i64 i 1)) 0) = b)
    (h1 : i < m) (h2 : 0 ≤ i) (h3 : i < (t.length : Int)) (h4 : 0 ≤ addW .i64 i 1) (h5 : addW .i64 i 1 < (t.length : Int)) (h6 : 0 ≤ t.getD i.toNat 0) (h7 : t.getD i.toNat 0 < 256) (h8 : 0 ≤ t.getD (Int.toNat (addW .i64 i 1)) 0) (h9 : t.getD (Int.toNat (addW .i64 i 1)) 0 < 256) (h10 : 256 * a + b < xs.length) :
    stats_Second_l6_1_T rec t m i xs K0 = rec t m (addW .i64 i 1) (xs.set (256 * a + b) (addW .i64 (xs.getD (256 * a + b) 0) 1)) := by
  unfold stats_Second_l6_1_T
  rw [e1, e2]
  have ez : Nat.add (Nat.mul a 255) a = 256 * a := by show a * 255 + a = 256 * a; omega
  rw [ez]
  rw [sel_pos h1, sel_pos h2, sel_pos h3, sel_pos h4, sel_pos h5, sel_pos h6, sel_pos h7, sel_pos h8, sel_pos h9]
  generalize 256 * a = z at *
  cases z with
  | zero =>
    rw [Nat.zero_add] at h10 ⊢
    rw [sel_pos h10, sel_pos h6, sel_pos h7, sel_pos h8, sel_pos h9, sel_pos h10]
    rfl
  | succ z =>
    rw [sel_pos h10, sel_pos h6, sel_pos h7, sel_pos h8, sel_pos h9, sel_pos h10]
    rfl
theorem stats_Second_tab (t : List Nat) (hb : ∀ b ∈ t, b < 256) (hl : t.length < 1000000000) (K : List Int → Option R) (m : Nat) (hm : m = 0 ∨ m + 1 ≤ t.length) : ∀ (N i : Nat), i ≤ m → m - i < N →
    stats_Second_l6_1_L K N (ci t) (m : Int) (i : Int) (tabB t i) = K (tabB t m)
  | 0, _, _, h => by omega
  | N + 1, i, h1, h2 => by
    simp only [stats_Second_l6_1_L]
    by_cases h : i < m
    · have ha := byte_at hb i
      have hb2 := byte_at hb (i + 1)
      have e0 : addW .i64 (i : Int) 1 = ((i + 1 : Nat) : Int) := by rw [addW_i64 (by omega) (by omega)]; omega
      have hn := nxt_len t (t.getD i 0) i
      have hc : (nxt t (t.getD i 0) i).count (t.getD (i + 1) 0) ≤ (nxt t (t.getD i 0) i).length := List.count_le_length
      have eg : (tabB t i).getD (256 * t.getD i 0 + t.getD (i + 1) 0) 0 = (((nxt t (t.getD i 0) i).count (t.getD (i + 1) 0) : Nat) : Int) := by
        rw [tabB_get t i (by omega), show (256 * t.getD i 0 + t.getD (i + 1) 0) / 256 = t.getD i 0 by omega, show (256 * t.getD i 0 + t.getD (i + 1) 0) % 256 = t.getD (i + 1) 0 by omega]
      have ea : addW .i64 ((tabB t i).getD (256 * t.getD i 0 + t.getD (i + 1) 0) 0) 1 = (tabB t i).getD (256 * t.getD i 0 + t.getD (i + 1) 0) 0 + 1 := by
        rw [eg]; exact addW_i64 (by omega) (by omega)
      rw [second6_T _ _ _ _ _ _ (t.getD i 0) (t.getD (i + 1) 0) (by rw [Int.toNat_natCast, ci_getD, Int.toNat_natCast]) (by rw [e0, Int.toNat_natCast, ci_getD, Int.toNat_natCast])
        (by omega) (by omega) (by rw [ci_length]; omega) (by omega) (by rw [ci_length]; omega) (by rw [Int.toNat_natCast, ci_getD]; omega) (by rw [Int.toNat_natCast, ci_getD]; omega) (by rw [e0, Int.toNat_natCast, ci_getD]; omega) (by rw [e0, Int.toNat_natCast, ci_getD]; omega) (by rw [tabB_length]; omega), ea, tabB_step t i ha hb2, e0]
      exact stats_Second_tab t hb hl K m hm N (i + 1) (by omega) (by omega)
    · have : i = m := by omega
      subst this
      unfold stats_Second_l6_1_T
      rw [sel_neg (by omega)]
theorem entG_congr {g g' : Nat → Int} (h : ∀ i, i < 256 → g i = g' i) : entG g = entG g' := by
  unfold entG allG
  rw [accG_congr (f := id) 256 h, accG_congr 256 h]
  have e : OkG g 256 ↔ OkG g' 256 := ⟨fun k i hi => by rw [← h i hi]; exact k i hi, fun k i hi => by rw [h i hi]; exact k i hi⟩
  by_cases k : OkG g 256
  · rw [if_pos k, if_pos (e.1 k)]
  · rw [if_neg k, if_neg fun k' => k (e.2 k')]
theorem entG_bound (g : Nat → Int) : 0 ≤ entG g ∧ entG g ≤ 1073741824 := by
  unfold entG
  split
  · rename_i k
    have := accG_need_bound (allG g) k
    omega
  · omega
/-- all of them, of the first bytes -/
def secG (t : List Nat) (m : Nat) : Nat → Int
  | 0 => 0
  | c + 1 => secG t m c + entS (cnts (nxt t c m))
theorem entS_cnts (l : List Nat) : entS (cnts l) = entG fun i => (cnts l).getD i 0 := by unfold entS; rw [if_pos (cnts_length l)]
theorem secG_bound (t : List Nat) (m : Nat) : ∀ c, 0 ≤ secG t m c ∧ secG t m c ≤ 1073741824 * c
  | 0 => by simp [secG]
  | c + 1 => by
    have h := secG_bound t m c
    have h2 := entG_bound fun i => (cnts (nxt t c m)).getD i 0
    simp only [secG, entS_cnts]
    omega
theorem second12_T (rec : Int → Int → List Int → Option R) (n : Int) (c : Nat) (xs : List Int) (K0 : Int → Option R) (hc : c < 256) (hx : xs.length = 65536) :
    stats_Second_l12_1_T rec n (c : Int) xs K0 = stats_Entropy_r (256 * c) 256 xs fun e ys => rec (addW .i64 n e) (addW .i64 (c : Int) 1) ys := by
  unfold stats_Second_l12_1_T
  rw [Int.toNat_natCast, show Nat.add (Nat.mul c 255) c = 256 * c by show c * 255 + c = 256 * c; omega, sel_pos (by omega), sel_pos (by omega), sel_pos (by omega), sel_pos (by omega)]
  generalize 256 * c = z
  cases z <;> rfl
theorem stats_Second_rows (t : List Nat) (m : Nat) (K : Int → Option R) : ∀ (N c : Nat), c ≤ 256 → 256 - c < N → stats_Second_l12_1_L K N (secG t m c) (c : Int) (tabB t m) = K (secG t m 256)
  | 0, _, _, h => by omega
  | N + 1, c, h1, h2 => by
    simp only [stats_Second_l12_1_L]
    by_cases h : c < 256
    · have hs := secG_bound t m c
      have he := entG_bound fun i => (tabB t m).getD (256 * c + i) 0
      have e1 : entG (fun i => (tabB t m).getD (256 * c + i) 0) = entS (cnts (nxt t c m)) := by
        rw [entS_cnts]
        exact entG_congr fun i hi => by rw [tabB_get t m (by omega), cnts_get _ hi, show (256 * c + i) / 256 = c by omega, show (256 * c + i) % 256 = i by omega]
      rw [second12_T _ _ _ _ _ h (tabB_length t m), stats_Entropy_r_spec _ _ (by rw [tabB_length]; omega), addW_i64 (by omega) (by omega), addW_i64 (by omega) (by omega), show (c : Int) + 1 = ((c + 1 : Nat) : Int) by omega, e1]
      exact stats_Second_rows t m K N (c + 1) (by omega) (by omega)
    · have : c = 256 := by omega
      subst this
      unfold stats_Second_l12_1_T
      rw [sel_neg (by omega)]
def secS (t : List Nat) : Int := if 8192 < t.length then 0 else secG t (t.length - 1) 256
theorem stats_Second_spec (t : List Nat) (hb : ∀ b ∈ t, b < 256) (hl : t.length < 1000000000) (K : Int → Option R) : stats_Second (ci t) K = K (secS t) := by
  rw [stats_Second_unf]; unfold stats_Second_B secS
  rw [ci_length]
  by_cases h : 8192 < t.length
  · rw [sel_pos (by omega), if_pos h]
  · have em : max2 0 (subW .i64 ((t.length : Nat) : Int) 1) = ((t.length - 1 : Nat) : Int) := by
      rw [subW_i64 (by omega) (by omega)]; unfold max2; split <;> omega
    rw [sel_neg (by omega), if_neg h, em, stats_Second_l6_1_unf]; unfold stats_Second_l6_1_B
    rw [← tabB_nil t]
    refine (stats_Second_tab t hb hl _ (t.length - 1) (by omega) NR 0 (by omega) (by have := NR_lt; omega)).trans ?_
    rw [stats_Second_l12_1_unf]; unfold stats_Second_l12_1_B
    exact stats_Second_rows t _ _ NR 0 (by omega) (by have := NR_lt; omega)
end
end Go.Proofs.Ytblpggndekhebaa
