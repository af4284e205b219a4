/- Layer 19: what symbols need, of counts that are a part of a table. -/
import Derived.Test.YtblpggndekhebaaStatsD
namespace Go.Proofs.Ytblpggndekhebaa
open Go Go.Ev
section
variable {R : Type}
theorem ent6_T (rec : Nat → Nat → Int → Nat → Nat → Int → Int → List Int → Option R) (a b : Nat) (n : Int) (off l : Nat) (m i : Int) (xs : List Int) (K0 : Int → List Int → Option R) (K1 : Nat → Nat → Int → List Int → Option R) :
    stats_Entropy_l6_1_T rec a b n off l m i xs K0 K1 = sel (decide (i < m)) (sel (decide (0 ≤ i)) (sel (decide (i < (l : Int))) (sel (decide (off + i.toNat < xs.length)) (sel (decide (xs.getD (off + i.toNat) 0 < 0)) (K0 0 xs) (sel (decide (65536 < xs.getD (off + i.toNat) 0)) (K0 0 xs)
      (stats_Entropy_j10_1 a b n (xs.getD (off + i.toNat) 0) off l m i xs fun a b n off l m i xs => rec a b n off l m (addW .i64 i 1) xs))) none) none) none) (K1 a b n xs) := by
  unfold stats_Entropy_l6_1_T
  cases off with
  | zero => simp only [Nat.zero_add]; rfl
  | succ k => rfl
theorem ent14_T (rec : Int → Int → Nat → Nat → Int → Int → List Int → Option R) (all s : Int) (off l : Nat) (m i : Int) (xs : List Int) (K0 : Int → List Int → Option R) :
    stats_Entropy_l14_1_T rec all s off l m i xs K0 = sel (decide (i < m)) (sel (decide (0 ≤ i)) (sel (decide (i < (l : Int))) (sel (decide (off + i.toNat < xs.length)) (stats_Log all fun a => stats_Log (xs.getD (off + i.toNat) 0) fun b =>
      rec all (addW .i64 s (mulW .i64 (xs.getD (off + i.toNat) 0) (max2 0 (subW .i64 a b)))) off l m (addW .i64 i 1) xs) none) none) none) (K0 s xs) := by
  unfold stats_Entropy_l14_1_T
  cases off with
  | zero => simp only [Nat.zero_add]
  | succ k => rfl
theorem stats_Entropy_r_sum (xs : List Int) (off : Nat) (hl : off + 256 ≤ xs.length) (K0 : Int → List Int → Option R) (K1 : Nat → Nat → Int → List Int → Option R) : ∀ (N i : Nat), i ≤ 256 → 256 - i < N → OkG (fun i => xs.getD (off + i) 0) i →
    stats_Entropy_l6_1_L K0 K1 N off 256 (accG id (fun i => xs.getD (off + i) 0) i) off 256 256 (i : Int) xs = if OkG (fun i => xs.getD (off + i) 0) 256 then K1 off 256 (allG fun i => xs.getD (off + i) 0) xs else K0 0 xs
  | 0, _, _, h, _ => by omega
  | N + 1, i, h1, h2, hk => by
    simp only [stats_Entropy_l6_1_L]
    rw [ent6_T]
    by_cases h : i < 256
    · have hb := accG_id_bound hk
      have ih := fun hk => stats_Entropy_r_sum xs off hl K0 K1 N (i + 1) (by omega) (by omega) hk
      rw [show accG id (fun i => xs.getD (off + i) 0) (i + 1) = accG id (fun i => xs.getD (off + i) 0) i + xs.getD (off + i) 0 from rfl] at ih
      rw [sel_pos (by omega), sel_pos (by omega), sel_pos (by omega), Int.toNat_natCast, sel_pos (by omega)]
      by_cases c1 : xs.getD (off + i) 0 < 0
      · rw [sel_pos c1, if_neg (fun hk => by have : 0 ≤ xs.getD (off + i) 0 := (hk i h).1; omega)]
      rw [sel_neg c1]
      by_cases c2 : 65536 < xs.getD (off + i) 0
      · rw [sel_pos c2, if_neg (fun hk => by have : xs.getD (off + i) 0 ≤ 65536 := (hk i h).2; omega)]
      rw [sel_neg c2, stats_Entropy_j10_1_unf]; unfold stats_Entropy_j10_1_B
      rw [addW_i64 (by omega) (by omega)]
      dsimp only
      rw [addW_i64 (by omega) (by omega), show (i : Int) + 1 = ((i + 1 : Nat) : Int) by omega]
      exact ih (hk.succ ⟨by omega, by omega⟩)
    · have : i = 256 := by omega
      subst this
      rw [sel_neg (by omega), if_pos hk]
      rfl
theorem stats_Entropy_r_need (xs : List Int) (off : Nat) (hl : off + 256 ≤ xs.length) (all : Int) (hk : OkG (fun i => xs.getD (off + i) 0) 256) (K0 : Int → List Int → Option R) : ∀ (N i : Nat), i ≤ 256 → 256 - i < N →
    stats_Entropy_l14_1_L K0 N all (65535 + accG (needI all) (fun i => xs.getD (off + i) 0) i) off 256 256 (i : Int) xs = K0 (65535 + accG (needI all) (fun i => xs.getD (off + i) 0) 256) xs
  | 0, _, _, h => by omega
  | N + 1, i, h1, h2 => by
    simp only [stats_Entropy_l14_1_L]
    rw [ent14_T]
    by_cases h : i < 256
    · have hb := accG_need_bound all (n := i) (g := fun i => xs.getD (off + i) 0) fun j hj => hk j (by omega)
      have hn : 0 ≤ needI all (xs.getD (off + i) 0) ∧ needI all (xs.getD (off + i) 0) ≤ 137438953472 := needI_bound (hk i h).1 (hk i h).2
      have a := logS_bound all
      have b := logS_bound (xs.getD (off + i) 0)
      have ih := stats_Entropy_r_need xs off hl all hk K0 N (i + 1) (by omega) (by omega)
      rw [show accG (needI all) (fun i => xs.getD (off + i) 0) (i + 1) = accG (needI all) (fun i => xs.getD (off + i) 0) i + needI all (xs.getD (off + i) 0) from rfl] at ih
      have em : mulW .i64 (xs.getD (off + i) 0) (max2 0 (logS all - logS (xs.getD (off + i) 0))) = needI all (xs.getD (off + i) 0) := mulW_i64 (by show _ ≤ needI all (xs.getD (off + i) 0); omega) (by show needI all (xs.getD (off + i) 0) ≤ _; omega)
      rw [sel_pos (by omega), sel_pos (by omega), sel_pos (by omega), Int.toNat_natCast, sel_pos (by omega), stats_Log_spec, stats_Log_spec, subW_i64 (by omega) (by omega), em, addW_i64 (by omega) (by omega), addW_i64 (by omega) (by omega), show (i : Int) + 1 = ((i + 1 : Nat) : Int) by omega, Int.add_assoc]
      exact ih
    · have : i = 256 := by omega
      subst this
      rw [sel_neg (by omega)]
theorem stats_Entropy_r_spec (xs : List Int) (off : Nat) (h : off + 256 ≤ xs.length) (K : Int → List Int → Option R) : stats_Entropy_r off 256 xs K = K (entG fun i => xs.getD (off + i) 0) xs := by
  rw [stats_Entropy_r_unf]; unfold stats_Entropy_r_B
  rw [sel_npos (by decide), stats_Entropy_l6_1_unf]; unfold stats_Entropy_l6_1_B
  refine (stats_Entropy_r_sum xs off h _ _ NR 0 (by omega) (by have := NR_lt; omega) (fun i hi => by omega)).trans ?_
  unfold entG
  by_cases hk : OkG (fun i => xs.getD (off + i) 0) 256
  · rw [if_pos hk, if_pos hk, stats_Entropy_l14_1_unf]; unfold stats_Entropy_l14_1_B
    have hb := accG_need_bound (allG fun i => xs.getD (off + i) 0) hk
    refine (stats_Entropy_r_need xs off h _ hk _ NR 0 (by omega) (by have := NR_lt; omega)).trans ?_
    obtain ⟨m, hm⟩ : ∃ m : Nat, 65535 + accG (needI (allG fun i => xs.getD (off + i) 0)) (fun i => xs.getD (off + i) 0) 256 = (m : Int) := ⟨(65535 + accG (needI (allG fun i => xs.getD (off + i) 0)) (fun i => xs.getD (off + i) 0) 256).toNat, by omega⟩
    rw [hm, shrW_i64_16]
    rfl
  · rw [if_neg hk, if_neg hk]
end
end Go.Proofs.Ytblpggndekhebaa
