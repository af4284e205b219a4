/- Layer 19: how often symbols stand. -/
import Derived.Test.YtblpggndekhebaaWordA
import Derived.Test.YtblpggndekhebaaWA
namespace Go.Proofs.Ytblpggndekhebaa
open Go Go.Ev
section
variable {R : Type}
theorem take_next (bs : List Nat) {i : Nat} (h : i < bs.length) : bs.take i ++ [bs.getD i 0] = bs.take (i + 1) := by
  rw [List.take_succ_eq_append_getElem h, List.getD_eq_getElem?_getD, List.getElem?_eq_getElem h]; rfl
theorem byte_at {bs : List Nat} (hb : ∀ b ∈ bs, b < 256) (i : Nat) : bs.getD i 0 < 256 := by
  rw [List.getD_eq_getElem?_getD]
  by_cases h : i < bs.length
  · rw [List.getElem?_eq_getElem h]; exact hb _ (List.getElem_mem h)
  · rw [List.getElem?_eq_none (by omega)]; decide
theorem count_le_take (bs : List Nat) (i c : Nat) : (bs.take i).count c ≤ i := Nat.le_trans List.count_le_length (by rw [List.length_take]; omega)
theorem stats_Counts_loop (bs : List Nat) (hb : ∀ b ∈ bs, b < 256) (hl : bs.length < 1000000000) (K : List Int → Option R) : ∀ (N i : Nat), i ≤ bs.length → bs.length - i < N →
    stats_Counts_l4_1_L K N (ci bs) (bs.length : Int) (i : Int) (cnts (bs.take i)) = K (cnts bs)
  | 0, _, _, h => by omega
  | N + 1, i, h1, h2 => by
    simp only [stats_Counts_l4_1_L, stats_Counts_l4_1_T]
    rw [Int.toNat_natCast, ci_getD, Int.toNat_natCast, cnts_length, ci_length]
    by_cases h : i < bs.length
    · have hv := byte_at hb i
      have hc := count_le_take bs i (bs.getD i 0)
      have ea : addW .i64 ((cnts (bs.take i)).getD (bs.getD i 0) 0) 1 = (cnts (bs.take i)).getD (bs.getD i 0) 0 + 1 := by
        rw [cnts_get _ hv]; exact addW_i64 (by omega) (by omega)
      rw [sel_pos (by omega), sel_pos (by omega), sel_pos (by omega), sel_pos (by omega), sel_pos (by omega), sel_pos (by omega), sel_pos (by omega), sel_pos (by omega), sel_pos (by omega), letV_eq,
        ea, cnts_snoc _ hv, take_next bs h, addW_i64 (by omega) (by omega), show (i : Int) + 1 = ((i + 1 : Nat) : Int) by omega]
      exact stats_Counts_loop bs hb hl K N (i + 1) (by omega) (by omega)
    · rw [sel_neg (by omega), List.take_of_length_le (by omega)]
theorem stats_Counts_spec (bs : List Nat) (hb : ∀ b ∈ bs, b < 256) (hl : bs.length < 1000000000) (K : List Int → Option R) : stats_Counts (ci bs) K = K (cnts bs) := by
  rw [stats_Counts_unf]; unfold stats_Counts_B
  rw [stats_Counts_l4_1_unf]; unfold stats_Counts_l4_1_B
  rw [← cnts_nil, ci_length]
  refine (stats_Counts_loop bs hb hl _ NR 0 (by omega) (by have := NR_lt; omega)).trans ?_
  rw [cnts_length, sel_pos (by decide), sel_pos (by decide)]
theorem ref19_Counts_loop (bs : List Nat) (hb : ∀ b ∈ bs, b < 256) (hl : bs.length < 1000000000) (K : Nat → List Int → Option R) : ∀ (N i : Nat), i ≤ bs.length → bs.length - i < N →
    haystackref19_Counts_l4_L K N (ci bs) 256 (i : Int) (cnts (bs.take i)) = K 256 (cnts bs)
  | 0, _, _, h => by omega
  | N + 1, i, h1, h2 => by
    simp only [haystackref19_Counts_l4_L, haystackref19_Counts_l4_T]
    rw [Int.toNat_natCast, ci_getD, Int.toNat_natCast, cnts_length, ci_length]
    by_cases h : i < bs.length
    · have hv := byte_at hb i
      have hc := count_le_take bs i (bs.getD i 0)
      have ea : addW .i64 ((cnts (bs.take i)).getD (bs.getD i 0) 0) 1 = (cnts (bs.take i)).getD (bs.getD i 0) 0 + 1 := by
        rw [cnts_get _ hv]; exact addW_i64 (by omega) (by omega)
      rw [sel_pos (by omega), sel_pos (by omega), sel_pos (by omega), sel_pos (by omega), sel_pos (by omega), sel_pos (by omega), sel_pos (by omega), sel_pos (by omega), sel_pos (by omega), letV_eq,
        ea, cnts_snoc _ hv, take_next bs h, addW_i64 (by omega) (by omega), show (i : Int) + 1 = ((i + 1 : Nat) : Int) by omega]
      exact ref19_Counts_loop bs hb hl K N (i + 1) (by omega) (by omega)
    · rw [sel_neg (by omega), List.take_of_length_le (by omega)]
theorem haystackref19_Counts_spec (bs : List Nat) (hb : ∀ b ∈ bs, b < 256) (hl : bs.length < 1000000000) (K : List Int → Option R) : haystackref19_Counts (ci bs) K = K (cnts bs) := by
  rw [haystackref19_Counts_unf]; unfold haystackref19_Counts_B
  rw [haystackref19_Counts_l4_unf]; unfold haystackref19_Counts_l4_B
  rw [show Int.toNat 256 = 256 from rfl, ← cnts_nil]
  refine (ref19_Counts_loop bs hb hl _ NR 0 (by omega) (by have := NR_lt; omega)).trans ?_
  rw [cnts_length, sel_pos rfl]
theorem ref19_Counts_r_loop (bs : List Nat) (hb : ∀ b ∈ bs, b < 256) (hl : bs.length < 1000000000) (K : Nat → List Int → List Int → Option R) : ∀ (N i : Nat), i ≤ bs.length → bs.length - i < N →
    haystackref19_Counts_l4_1_L K N bs.length 256 (i : Int) (ci bs) (cnts (bs.take i)) = K 256 (ci bs) (cnts bs)
  | 0, _, _, h => by omega
  | N + 1, i, h1, h2 => by
    simp only [haystackref19_Counts_l4_1_L, haystackref19_Counts_l4_1_T]
    rw [Int.toNat_natCast, ci_getD, Int.toNat_natCast, cnts_length, ci_length]
    by_cases h : i < bs.length
    · have hv := byte_at hb i
      have hc := count_le_take bs i (bs.getD i 0)
      have ea : addW .i64 ((cnts (bs.take i)).getD (bs.getD i 0) 0) 1 = (cnts (bs.take i)).getD (bs.getD i 0) 0 + 1 := by
        rw [cnts_get _ hv]; exact addW_i64 (by omega) (by omega)
      rw [sel_pos (by omega), sel_pos (by omega), sel_pos (by omega), sel_pos (by omega), sel_pos (by omega), sel_pos (by omega), sel_pos (by omega), sel_pos (by omega), sel_pos (by omega), sel_pos (by omega), letV_eq,
        ea, cnts_snoc _ hv, take_next bs h, addW_i64 (by omega) (by omega), show (i : Int) + 1 = ((i + 1 : Nat) : Int) by omega]
      exact ref19_Counts_r_loop bs hb hl K N (i + 1) (by omega) (by omega)
    · rw [sel_neg (by omega), List.take_of_length_le (by omega)]
theorem haystackref19_Counts_r_spec (bs : List Nat) (hb : ∀ b ∈ bs, b < 256) (hl : bs.length < 1000000000) (l : Nat) (h : l = bs.length) (K : Nat → List Int → List Int → Option R) : haystackref19_Counts_r l (ci bs) K = K 256 (ci bs) (cnts bs) := by
  subst h
  rw [haystackref19_Counts_r_unf]; unfold haystackref19_Counts_r_B
  rw [haystackref19_Counts_l4_1_unf]; unfold haystackref19_Counts_l4_1_B
  rw [show Int.toNat 256 = 256 from rfl, ← cnts_nil]
  exact ref19_Counts_r_loop bs hb hl _ NR 0 (by omega) (by have := NR_lt; omega)
theorem stats_Counts_r_loop (bs : List Nat) (hb : ∀ b ∈ bs, b < 256) (hl : bs.length < 1000000000) (K : List Int → List Int → Option R) : ∀ (N i : Nat), i ≤ bs.length → bs.length - i < N →
    stats_Counts_l4_L K N bs.length (bs.length : Int) (i : Int) (ci bs) (cnts (bs.take i)) = K (ci bs) (cnts bs)
  | 0, _, _, h => by omega
  | N + 1, i, h1, h2 => by
    simp only [stats_Counts_l4_L, stats_Counts_l4_T]
    rw [Int.toNat_natCast, ci_getD, Int.toNat_natCast, cnts_length, ci_length]
    by_cases h : i < bs.length
    · have hv := byte_at hb i
      have hc := count_le_take bs i (bs.getD i 0)
      have ea : addW .i64 ((cnts (bs.take i)).getD (bs.getD i 0) 0) 1 = (cnts (bs.take i)).getD (bs.getD i 0) 0 + 1 := by
        rw [cnts_get _ hv]; exact addW_i64 (by omega) (by omega)
      rw [sel_pos (by omega), sel_pos (by omega), sel_pos (by omega), sel_pos (by omega), sel_pos (by omega), sel_pos (by omega), sel_pos (by omega), sel_pos (by omega), sel_pos (by omega), sel_pos (by omega), letV_eq,
        ea, cnts_snoc _ hv, take_next bs h, addW_i64 (by omega) (by omega), show (i : Int) + 1 = ((i + 1 : Nat) : Int) by omega]
      exact stats_Counts_r_loop bs hb hl K N (i + 1) (by omega) (by omega)
    · rw [sel_neg (by omega), List.take_of_length_le (by omega)]
end
end Go.Proofs.Ytblpggndekhebaa
