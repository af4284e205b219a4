/- Layer 19: how many symbols there are; what they need. -/
import Derived.Test.YtblpggndekhebaaStatsB
namespace Go.Proofs.Ytblpggndekhebaa
open Go Go.Ev
section
variable {R : Type}
/-- a sum over the first ones -/
def accG (f : Int → Int) (g : Nat → Int) : Nat → Int
  | 0 => 0
  | n + 1 => accG f g n + f (g n)
theorem accG_bound {f : Int → Int} {g : Nat → Int} {B : Int} : ∀ n, (∀ i, i < n → 0 ≤ f (g i) ∧ f (g i) ≤ B) → 0 ≤ accG f g n ∧ accG f g n ≤ B * n
  | 0, _ => by simp [accG]
  | n + 1, h => by
    obtain ⟨h1, h2⟩ := accG_bound n fun i hi => h i (by omega)
    obtain ⟨h3, h4⟩ := h n (by omega)
    simp only [accG]
    rw [Int.natCast_add, Int.mul_add, show B * ((1 : Nat) : Int) = B from Int.mul_one B]
    omega
theorem accG_congr {f : Int → Int} {g g' : Nat → Int} : ∀ n, (∀ i, i < n → g i = g' i) → accG f g n = accG f g' n
  | 0, _ => rfl
  | n + 1, h => by simp only [accG, accG_congr n fun i hi => h i (by omega), h n (by omega)]
def posI (k : Int) : Int := if 0 < k then 1 else 0
theorem posI_le (k : Int) : 0 ≤ posI k ∧ posI k ≤ 1 := by unfold posI; split <;> omega
theorem posI_eq (k : Int) : min2 1 (max2 0 k) = posI k := by unfold min2 max2 posI; split <;> split <;> omega
def distS (xs : List Int) : Int := if xs.length = 256 then accG posI (fun i => xs.getD i 0) 256 else 0
theorem stats_Distinct_loop (xs : List Int) (hl : xs.length < 1000000000) (K : Int → Option R) : ∀ (N i : Nat), i ≤ xs.length → xs.length - i < N →
    stats_Distinct_l5_L K N (accG posI (fun i => xs.getD i 0) i) xs (xs.length : Int) (i : Int) = K (accG posI (fun i => xs.getD i 0) xs.length)
  | 0, _, _, h => by omega
  | N + 1, i, h1, h2 => by
    simp only [stats_Distinct_l5_L, stats_Distinct_l5_T]
    by_cases h : i < xs.length
    · have hb := accG_bound (f := posI) (g := fun i => xs.getD i 0) (B := 1) i fun i _ => posI_le _
      have hp := posI_le (xs.getD i 0)
      rw [sel_pos (by omega), sel_pos (by omega), sel_pos (by omega), Int.toNat_natCast, posI_eq, addW_i64 (by omega) (by omega), addW_i64 (by omega) (by omega), show (i : Int) + 1 = ((i + 1 : Nat) : Int) by omega]
      exact stats_Distinct_loop xs hl K N (i + 1) (by omega) (by omega)
    · have : i = xs.length := by omega
      subst this
      rw [sel_neg (by omega)]
theorem stats_Distinct_spec (xs : List Int) (hl : xs.length < 1000000000) (K : Int → Option R) : stats_Distinct xs K = K (distS xs) := by
  rw [stats_Distinct_unf]; unfold stats_Distinct_B distS
  by_cases h : xs.length = 256
  · rw [sel_pos (by omega), if_pos h, stats_Distinct_l5_unf]; unfold stats_Distinct_l5_B
    refine (stats_Distinct_loop xs hl _ NR 0 (by omega) (by have := NR_lt; omega)).trans ?_
    rw [h]
  · rw [sel_neg (by omega), if_neg h]
theorem ref19_Distinct_loop (xs : List Int) (hl : xs.length = 256) (K : Int → Option R) : ∀ (N i : Nat), i ≤ 256 → 256 - i < N →
    haystackref19_Distinct_l4_L K N xs (accG posI (fun i => xs.getD i 0) i) (i : Int) = K (accG posI (fun i => xs.getD i 0) 256)
  | 0, _, _, h => by omega
  | N + 1, i, h1, h2 => by
    simp only [haystackref19_Distinct_l4_L, haystackref19_Distinct_l4_T]
    by_cases h : i < 256
    · have hb := accG_bound (f := posI) (g := fun i => xs.getD i 0) (B := 1) i fun i _ => posI_le _
      have ih := ref19_Distinct_loop xs hl K N (i + 1) (by omega) (by omega)
      rw [show accG posI (fun i => xs.getD i 0) (i + 1) = accG posI (fun i => xs.getD i 0) i + posI (xs.getD i 0) from rfl] at ih
      rw [sel_pos (by omega), sel_pos (by omega), haystackref19_Distinct_j6_unf]
      unfold haystackref19_Distinct_j6_B
      rw [sel_pos (by omega), sel_pos (by omega), Int.toNat_natCast]
      by_cases hp : 0 < xs.getD i 0
      · have e : posI (xs.getD i 0) = 1 := by unfold posI; rw [if_pos hp]
        rw [e] at ih
        rw [sel_pos hp]
        dsimp only
        rw [addW_i64 (by omega) (by omega), addW_i64 (by omega) (by omega), show (i : Int) + 1 = ((i + 1 : Nat) : Int) by omega]
        exact ih
      · have e : posI (xs.getD i 0) = 0 := by unfold posI; rw [if_neg hp]
        rw [e, Int.add_zero] at ih
        rw [sel_neg hp]
        dsimp only
        rw [addW_i64 (by omega) (by omega), show (i : Int) + 1 = ((i + 1 : Nat) : Int) by omega]
        exact ih
    · have : i = 256 := by omega
      subst this
      rw [sel_neg (by omega)]
theorem haystackref19_Distinct_spec (xs : List Int) (K : Int → Option R) : haystackref19_Distinct xs K = K (distS xs) := by
  rw [haystackref19_Distinct_unf]; unfold haystackref19_Distinct_B distS
  rw [haystackref19_Distinct_l4_unf]; unfold haystackref19_Distinct_l4_B
  by_cases h : xs.length = 256
  · rw [if_pos h]
    exact ref19_Distinct_loop xs h _ NR 0 (by omega) (by have := NR_lt; omega)
  · obtain ⟨N, hN⟩ : ∃ N, NR = N + 1 := ⟨NR - 1, by have := NR_lt; omega⟩
    rw [hN, if_neg h]
    simp only [haystackref19_Distinct_l4_L, haystackref19_Distinct_l4_T]
    by_cases h0 : (0 : Int) < ((xs.length : Nat) : Int)
    · rw [sel_pos h0, sel_neg (by omega)]
    · rw [sel_neg h0]
end
end Go.Proofs.Ytblpggndekhebaa
