/- Layer 19: what symbols need. -/
import Derived.Test.YtblpggndekhebaaStatsC
namespace Go.Proofs.Ytblpggndekhebaa
open Go Go.Ev
section
variable {R : Type}
theorem lgGo_lt : ∀ k n m, lgGo k n m < (n + 1) * 2 ^ k
  | 0, n, m => by simp [lgGo]
  | k + 1, n, m => by
    have h := lgGo_lt k (2 * n + lgB m) (lgM m)
    have hb := lgB_le m
    simp only [lgGo]
    refine Nat.lt_of_lt_of_le h ?_
    rw [Nat.pow_succ, Nat.mul_comm (2 ^ k) 2, ← Nat.mul_assoc]
    exact Nat.mul_le_mul_right _ (by omega)
theorem logS_bound (x : Int) : 0 ≤ logS x ∧ logS x ≤ 2097152 := by
  unfold logS
  split
  · omega
  · rename_i h
    obtain ⟨b1, b2, _⟩ := lg_start (x := x.toNat) (by omega) (by omega)
    have h1 := lgGo_lt 16 (bitLen x.toNat - 1) (x.toNat * 2 ^ (31 - (bitLen x.toNat - 1)))
    have h2 : (bitLen x.toNat - 1 + 1) * 2 ^ 16 ≤ 31 * 2 ^ 16 := Nat.mul_le_mul_right _ (by omega)
    unfold lgN
    omega
/-- may these be counts? -/
def OkG (g : Nat → Int) (n : Nat) : Prop := ∀ i, i < n → 0 ≤ g i ∧ g i ≤ 65536
instance (g : Nat → Int) (n : Nat) : Decidable (OkG g n) := by unfold OkG; exact Nat.decidableBallLT n fun i _ => 0 ≤ g i ∧ g i ≤ 65536
/-- what a symbol needs, all in all -/
def needI (all k : Int) : Int := k * max2 0 (logS all - logS k)
theorem needI_bound {all k : Int} (h1 : 0 ≤ k) (h2 : k ≤ 65536) : 0 ≤ needI all k ∧ needI all k ≤ 137438953472 := by
  have a := logS_bound all
  have b := logS_bound k
  have hm : 0 ≤ max2 0 (logS all - logS k) ∧ max2 0 (logS all - logS k) ≤ 2097152 := by unfold max2; split <;> omega
  unfold needI
  exact ⟨Int.mul_nonneg h1 hm.1, Int.le_trans (Int.mul_le_mul h2 hm.2 hm.1 (by decide)) (by decide)⟩
def allG (g : Nat → Int) : Int := accG id g 256
def entG (g : Nat → Int) : Int := if OkG g 256 then (65535 + accG (needI (allG g)) g 256) / 65536 else 0
def entS (xs : List Int) : Int := if xs.length = 256 then entG (fun i => xs.getD i 0) else 0
theorem OkG.succ {g : Nat → Int} {n : Nat} (h : OkG g n) (h2 : 0 ≤ g n ∧ g n ≤ 65536) : OkG g (n + 1) := fun i hi => by
  by_cases e : i = n
  · subst e; exact h2
  · exact h i (by omega)
theorem accG_id_bound {g : Nat → Int} {n : Nat} (h : OkG g n) : 0 ≤ accG id g n ∧ accG id g n ≤ 65536 * n := accG_bound n h
theorem accG_need_bound {g : Nat → Int} {n : Nat} (all : Int) (h : OkG g n) : 0 ≤ accG (needI all) g n ∧ accG (needI all) g n ≤ 137438953472 * n := accG_bound n fun i hi => needI_bound (h i hi).1 (h i hi).2
theorem stats_Entropy_sum (xs : List Int) (hl : xs.length = 256) (K0 : Int → Option R) (K1 : List Int → Int → Option R) : ∀ (N i : Nat), i ≤ 256 → 256 - i < N → OkG (fun i => xs.getD i 0) i →
    stats_Entropy_l6_L K0 K1 N xs (accG id (fun i => xs.getD i 0) i) xs 256 (i : Int) = if OkG (fun i => xs.getD i 0) 256 then K1 xs (allG fun i => xs.getD i 0) else K0 0
  | 0, _, _, h, _ => by omega
  | N + 1, i, h1, h2, hk => by
    simp only [stats_Entropy_l6_L, stats_Entropy_l6_T]
    by_cases h : i < 256
    · have hb := accG_id_bound hk
      have ih := fun hk => stats_Entropy_sum xs hl K0 K1 N (i + 1) (by omega) (by omega) hk
      rw [show accG id (fun i => xs.getD i 0) (i + 1) = accG id (fun i => xs.getD i 0) i + xs.getD i 0 from rfl] at ih
      rw [sel_pos (by omega), sel_pos (by omega), sel_pos (by omega), Int.toNat_natCast]
      by_cases c1 : xs.getD i 0 < 0
      · rw [sel_pos c1, if_neg (fun hk => by have : 0 ≤ xs.getD i 0 := (hk i h).1; omega)]
      rw [sel_neg c1]
      by_cases c2 : 65536 < xs.getD i 0
      · rw [sel_pos c2, if_neg (fun hk => by have : xs.getD i 0 ≤ 65536 := (hk i h).2; omega)]
      rw [sel_neg c2, stats_Entropy_j10_unf]; unfold stats_Entropy_j10_B
      rw [addW_i64 (by omega) (by omega)]
      dsimp only
      rw [addW_i64 (by omega) (by omega), show (i : Int) + 1 = ((i + 1 : Nat) : Int) by omega]
      exact ih (hk.succ ⟨by omega, by omega⟩)
    · have : i = 256 := by omega
      subst this
      rw [sel_neg (by omega), if_pos hk]
      rfl
theorem stats_Entropy_need (xs : List Int) (hl : xs.length = 256) (all : Int) (hk : OkG (fun i => xs.getD i 0) 256) (K0 : Int → Option R) : ∀ (N i : Nat), i ≤ 256 → 256 - i < N →
    stats_Entropy_l14_L K0 N all (65535 + accG (needI all) (fun i => xs.getD i 0) i) xs 256 (i : Int) = K0 (65535 + accG (needI all) (fun i => xs.getD i 0) 256)
  | 0, _, _, h => by omega
  | N + 1, i, h1, h2 => by
    simp only [stats_Entropy_l14_L, stats_Entropy_l14_T]
    by_cases h : i < 256
    · have hb := accG_need_bound all (n := i) (g := fun i => xs.getD i 0) fun j hj => hk j (by omega)
      have hn : 0 ≤ needI all (xs.getD i 0) ∧ needI all (xs.getD i 0) ≤ 137438953472 := needI_bound (hk i h).1 (hk i h).2
      have a := logS_bound all
      have b := logS_bound (xs.getD i 0)
      have ih := stats_Entropy_need xs hl all hk K0 N (i + 1) (by omega) (by omega)
      rw [show accG (needI all) (fun i => xs.getD i 0) (i + 1) = accG (needI all) (fun i => xs.getD i 0) i + needI all (xs.getD i 0) from rfl] at ih
      have em : mulW .i64 (xs.getD i 0) (max2 0 (logS all - logS (xs.getD i 0))) = needI all (xs.getD i 0) := mulW_i64 (by show _ ≤ needI all (xs.getD i 0); omega) (by show needI all (xs.getD i 0) ≤ _; omega)
      rw [sel_pos (by omega), sel_pos (by omega), sel_pos (by omega), stats_Log_spec, Int.toNat_natCast, stats_Log_spec, subW_i64 (by omega) (by omega), em, addW_i64 (by omega) (by omega), addW_i64 (by omega) (by omega), show (i : Int) + 1 = ((i + 1 : Nat) : Int) by omega, Int.add_assoc]
      exact ih
    · have : i = 256 := by omega
      subst this
      rw [sel_neg (by omega)]
theorem stats_Entropy_spec (xs : List Int) (K : Int → Option R) : stats_Entropy xs K = K (entS xs) := by
  rw [stats_Entropy_unf]; unfold stats_Entropy_B entS
  by_cases h : xs.length = 256
  · rw [sel_npos (by omega), if_pos h, h, stats_Entropy_l6_unf]; unfold stats_Entropy_l6_B
    refine (stats_Entropy_sum xs h _ _ NR 0 (by omega) (by have := NR_lt; omega) (fun i hi => by omega)).trans ?_
    unfold entG
    by_cases hk : OkG (fun i => xs.getD i 0) 256
    · rw [if_pos hk, if_pos hk, h, stats_Entropy_l14_unf]; unfold stats_Entropy_l14_B
      have hb := accG_need_bound (allG fun i => xs.getD i 0) hk
      refine (stats_Entropy_need xs h _ hk _ NR 0 (by omega) (by have := NR_lt; omega)).trans ?_
      obtain ⟨m, hm⟩ : ∃ m : Nat, 65535 + accG (needI (allG fun i => xs.getD i 0)) (fun i => xs.getD i 0) 256 = (m : Int) := ⟨(65535 + accG (needI (allG fun i => xs.getD i 0)) (fun i => xs.getD i 0) 256).toNat, by omega⟩
      rw [hm, shrW_i64_16]
      rfl
    · rw [if_neg hk, if_neg hk]
  · rw [sel_nneg (by omega), if_neg h]
end
end Go.Proofs.Ytblpggndekhebaa
