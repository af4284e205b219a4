/- Layer 19: what symbols need, by the document. -/
import Derived.Test.YtblpggndekhebaaStatsD
namespace Go.Proofs.Ytblpggndekhebaa
open Go Go.Ev
section
variable {R : Type}
theorem ref19_Entropy_sum (xs : List Int) (hl : xs.length = 256) (K0 : Int → Option R) (K1 : List Int → Int → Option R) : ∀ (N i : Nat), i ≤ 256 → 256 - i < N → OkG (fun i => xs.getD i 0) i →
    haystackref19_Entropy_l6_L K0 K1 N xs (accG id (fun i => xs.getD i 0) i) (i : Int) = if OkG (fun i => xs.getD i 0) 256 then K1 xs (allG fun i => xs.getD i 0) else K0 0
  | 0, _, _, h, _ => by omega
  | N + 1, i, h1, h2, hk => by
    simp only [haystackref19_Entropy_l6_L, haystackref19_Entropy_l6_T]
    by_cases h : i < 256
    · have hb := accG_id_bound hk
      have ih := fun hk => ref19_Entropy_sum xs hl K0 K1 N (i + 1) (by omega) (by omega) hk
      rw [show accG id (fun i => xs.getD i 0) (i + 1) = accG id (fun i => xs.getD i 0) i + xs.getD i 0 from rfl] at ih
      rw [sel_pos (by omega), sel_pos (by omega), sel_pos (by omega), Int.toNat_natCast]
      by_cases c1 : xs.getD i 0 < 0
      · rw [sel_pos c1, if_neg (fun hk => by have : 0 ≤ xs.getD i 0 := (hk i h).1; omega)]
      rw [sel_neg c1, sel_pos (by omega), sel_pos (by omega)]
      by_cases c2 : 65536 < xs.getD i 0
      · rw [sel_pos c2, if_neg (fun hk => by have : xs.getD i 0 ≤ 65536 := (hk i h).2; omega)]
      rw [sel_neg c2, haystackref19_Entropy_j10_unf]; unfold haystackref19_Entropy_j10_B
      rw [sel_pos (by omega), sel_pos (by omega), Int.toNat_natCast, addW_i64 (by omega) (by omega)]
      dsimp only
      rw [addW_i64 (by omega) (by omega), show (i : Int) + 1 = ((i + 1 : Nat) : Int) by omega]
      exact ih (hk.succ ⟨by omega, by omega⟩)
    · have : i = 256 := by omega
      subst this
      rw [sel_neg (by omega), if_pos hk]
      rfl
theorem ref19_Entropy_need (xs : List Int) (hl : xs.length = 256) (all : Int) (hk : OkG (fun i => xs.getD i 0) 256) (K0 : Int → Option R) : ∀ (N i : Nat), i ≤ 256 → 256 - i < N →
    haystackref19_Entropy_l13_L K0 N xs all (accG (needI all) (fun i => xs.getD i 0) i) (i : Int) = K0 (accG (needI all) (fun i => xs.getD i 0) 256)
  | 0, _, _, h => by omega
  | N + 1, i, h1, h2 => by
    simp only [haystackref19_Entropy_l13_L, haystackref19_Entropy_l13_T]
    by_cases h : i < 256
    · have hb := accG_need_bound all (n := i) (g := fun i => xs.getD i 0) fun j hj => hk j (by omega)
      have hn : 0 ≤ needI all (xs.getD i 0) ∧ needI all (xs.getD i 0) ≤ 137438953472 := needI_bound (hk i h).1 (hk i h).2
      have hx : 0 ≤ xs.getD i 0 := (hk i h).1
      have a := logS_bound all
      have b := logS_bound (xs.getD i 0)
      have ih := ref19_Entropy_need xs hl all hk K0 N (i + 1) (by omega) (by omega)
      rw [show accG (needI all) (fun i => xs.getD i 0) (i + 1) = accG (needI all) (fun i => xs.getD i 0) i + needI all (xs.getD i 0) from rfl] at ih
      have em : mulW .i64 (xs.getD i 0) (max2 0 (logS all - logS (xs.getD i 0))) = needI all (xs.getD i 0) := mulW_i64 (by show _ ≤ needI all (xs.getD i 0); omega) (by show needI all (xs.getD i 0) ≤ _; omega)
      rw [sel_pos (by omega), sel_pos (by omega), sel_pos (by omega), Int.toNat_natCast]
      by_cases c : 0 < xs.getD i 0
      · rw [sel_pos c, sel_pos (by omega), sel_pos (by omega), haystackref19_Log_spec, sel_pos (by omega), sel_pos (by omega), haystackref19_Log_spec, subW_i64 (by omega) (by omega), em, addW_i64 (by omega) (by omega), addW_i64 (by omega) (by omega), show (i : Int) + 1 = ((i + 1 : Nat) : Int) by omega]
        exact ih
      · have e : needI all (xs.getD i 0) = 0 := by rw [show xs.getD i 0 = 0 by omega]; unfold needI; rw [Int.zero_mul]
        rw [e, Int.add_zero] at ih
        rw [sel_neg c, addW_i64 (by omega) (by omega), show (i : Int) + 1 = ((i + 1 : Nat) : Int) by omega]
        exact ih
    · have : i = 256 := by omega
      subst this
      rw [sel_neg (by omega)]
theorem ent_quo {s : Int} (h1 : 0 ≤ s) (h2 : s ≤ 1152921504606846976) : quoW .i64 (subW .i64 (addW .i64 s 65536) 1) 65536 = (65535 + s) / 65536 := by
  rw [addW_i64 (by omega) (by omega), subW_i64 (by omega) (by omega), quoW_nat (by omega) (by omega) (by omega)]
  congr 1; omega
theorem haystackref19_Entropy_spec (xs : List Int) (K : Int → Option R) : haystackref19_Entropy xs K = K (entS xs) := by
  rw [haystackref19_Entropy_unf]; unfold haystackref19_Entropy_B entS
  by_cases h : xs.length = 256
  · rw [sel_npos (by omega), if_pos h, haystackref19_Entropy_l6_unf]; unfold haystackref19_Entropy_l6_B
    refine (ref19_Entropy_sum xs h _ _ NR 0 (by omega) (by have := NR_lt; omega) (fun i hi => by omega)).trans ?_
    unfold entG
    by_cases hk : OkG (fun i => xs.getD i 0) 256
    · rw [if_pos hk, if_pos hk, haystackref19_Entropy_l13_unf]; unfold haystackref19_Entropy_l13_B
      have hb := accG_need_bound (allG fun i => xs.getD i 0) hk
      refine (ref19_Entropy_need xs h _ hk _ NR 0 (by omega) (by have := NR_lt; omega)).trans ?_
      rw [ent_quo hb.1 (by omega)]
    · rw [if_neg hk, if_neg hk]
  · rw [sel_nneg (by omega), if_neg h]
end
end Go.Proofs.Ytblpggndekhebaa
