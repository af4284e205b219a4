/- Layer 19: what symbols need by the one ahead, by the document. -/
import Derived.Test.YtblpggndekhebaaStatsH
namespace Go.Proofs.Ytblpggndekhebaa
open Go Go.Ev
section
variable {R : Type}
theorem ci_snoc (l : List Nat) (v : Nat) : ci l ++ [(v : Int)] = ci (l ++ [v]) := by simp [ci]
theorem ref19_next (t : List Nat) (hb : ∀ b ∈ t, b < 256) (hl : t.length < 1000000000) (c : Nat) (s : Int) (K : List Int → Int → Int → Nat → List Int → Option R) : ∀ (N i : Nat), i ≤ t.length - 1 → t.length - 1 - i < N →
    haystackref19_Second_l10_1_L K N (ci t) s (c : Int) (nxt t c i).length (i : Int) (ci (nxt t c i)) = K (ci t) s (c : Int) (nxt t c (t.length - 1)).length (ci (nxt t c (t.length - 1)))
  | 0, _, _, h => by omega
  | N + 1, i, h1, h2 => by
    simp only [haystackref19_Second_l10_1_L, haystackref19_Second_l10_1_T]
    have e0 : addW .i64 (i : Int) 1 = ((i + 1 : Nat) : Int) := by rw [addW_i64 (by omega) (by omega)]; omega
    have hn := nxt_len t c i
    rw [e0, ci_length]
    by_cases h : i + 1 < t.length
    · have ha := byte_at hb i
      have ih := ref19_next t hb hl c s K N (i + 1) (by omega) (by omega)
      rw [sel_pos (by omega), sel_pos (by omega), sel_pos (by omega), Int.toNat_natCast, ci_getD, cvtW_i64 (by omega) (by omega)]
      by_cases hc : t.getD i 0 = c
      · have e : nxt t c (i + 1) = nxt t c i ++ [t.getD (i + 1) 0] := by simp only [nxt]; rw [if_pos hc]
        rw [e, List.length_append, ← ci_snoc] at ih
        rw [sel_pos (by omega), sel_pos (by omega), sel_pos (by omega), Int.toNat_natCast, ci_getD, letV_eq, sel_pos (by rfl), sel_pos (ci_length _), sel_pos (by omega), letV_eq]
        exact ih
      · have e : nxt t c (i + 1) = nxt t c i := by simp only [nxt]; rw [if_neg hc, List.append_nil]
        rw [e] at ih
        rw [sel_neg (by omega)]
        exact ih
    · have : i = t.length - 1 := by omega
      subst this
      rw [sel_neg (by omega)]
theorem ref19_first (t : List Nat) (hb : ∀ b ∈ t, b < 256) (hl : t.length < 1000000000) (c : Nat) (s : Int) (K0 : List Int → Int → Int → Nat → List Int → Option R) (K1 : List Int → Int → Int → Option R) : ∀ (N i : Nat), i ≤ t.length - 1 → t.length - 1 - i < N → nxt t c i = [] →
    haystackref19_Second_l10_L K0 K1 N (ci t) s (c : Int) (i : Int) = if nxt t c (t.length - 1) = [] then K1 (ci t) s (c : Int) else K0 (ci t) s (c : Int) (nxt t c (t.length - 1)).length (ci (nxt t c (t.length - 1)))
  | 0, _, _, h, _ => by omega
  | N + 1, i, h1, h2, h0 => by
    simp only [haystackref19_Second_l10_L, haystackref19_Second_l10_T]
    have e0 : addW .i64 (i : Int) 1 = ((i + 1 : Nat) : Int) := by rw [addW_i64 (by omega) (by omega)]; omega
    rw [e0, ci_length]
    by_cases h : i + 1 < t.length
    · have ha := byte_at hb i
      rw [sel_pos (by omega), sel_pos (by omega), sel_pos (by omega), Int.toNat_natCast, ci_getD, cvtW_i64 (by omega) (by omega)]
      by_cases hc : t.getD i 0 = c
      · have e : nxt t c (i + 1) = [t.getD (i + 1) 0] := by simp only [nxt]; rw [if_pos hc, h0]; rfl
        have hne : nxt t c (t.length - 1) ≠ [] := by
          have key : ∀ d, i + 1 + d ≤ t.length - 1 → nxt t c (i + 1 + d) ≠ [] := fun d => by
            induction d with
            | zero => intro _; rw [Nat.add_zero, e]; simp
            | succ d ih => intro hd; rw [← Nat.add_assoc]; simp only [nxt]; simp [ih (by omega)]
          have := key (t.length - 1 - (i + 1)) (by omega)
          rwa [show i + 1 + (t.length - 1 - (i + 1)) = t.length - 1 by omega] at this
        rw [if_neg hne]
        have ih := ref19_next t hb hl c s K0 N (i + 1) (by omega) (by omega)
        rw [e] at ih
        rw [sel_pos (by omega), sel_pos (by omega), sel_pos (by omega), Int.toNat_natCast, ci_getD, letV_eq, sel_pos (by rfl)]
        exact ih
      · have e : nxt t c (i + 1) = [] := by simp only [nxt]; rw [if_neg hc, List.append_nil, h0]
        rw [sel_neg (by omega)]
        exact ref19_first t hb hl c s K0 K1 N (i + 1) (by omega) (by omega) e
    · have : i = t.length - 1 := by omega
      subst this
      rw [sel_neg (by omega), if_pos h0]
theorem nxt_byte {t : List Nat} (hb : ∀ b ∈ t, b < 256) (c : Nat) : ∀ i, ∀ b ∈ nxt t c i, b < 256
  | 0, b, h => by simp [nxt] at h
  | i + 1, b, h => by
    simp only [nxt, List.mem_append] at h
    rcases h with h | h
    · exact nxt_byte hb c i b h
    · split at h
      · rw [List.mem_singleton] at h; rw [h]; exact byte_at hb _
      · cases h
theorem entS_none : entS (cnts []) = 0 := by decide +kernel
theorem ref19_rows (t : List Nat) (hb : ∀ b ∈ t, b < 256) (hl : t.length < 1000000000) (K : Int → Option R) : ∀ (N c : Nat), c ≤ 256 → 256 - c < N → haystackref19_Second_l6_L K N (ci t) (secG t (t.length - 1) c) (c : Int) = K (secG t (t.length - 1) 256)
  | 0, _, _, h => by omega
  | N + 1, c, h1, h2 => by
    simp only [haystackref19_Second_l6_L, haystackref19_Second_l6_T]
    by_cases h : c < 256
    · have hs := secG_bound t (t.length - 1) c
      have ih := ref19_rows t hb hl K N (c + 1) (by omega) (by omega)
      rw [show secG t (t.length - 1) (c + 1) = secG t (t.length - 1) c + entS (cnts (nxt t c (t.length - 1))) from rfl] at ih
      rw [sel_pos (by omega), haystackref19_Second_l10_unf]; unfold haystackref19_Second_l10_B
      refine (ref19_first t hb hl c _ _ _ NR 0 (by omega) (by have := NR_lt; omega) rfl).trans ?_
      have e0 : addW .i64 (c : Int) 1 = ((c + 1 : Nat) : Int) := by rw [addW_i64 (by omega) (by omega)]; omega
      by_cases hn : nxt t c (t.length - 1) = []
      · rw [if_pos hn, e0]
        rw [hn, entS_none, Int.add_zero] at ih
        exact ih
      · have hpos : 0 < (nxt t c (t.length - 1)).length := List.length_pos_iff.2 hn
        have hlen := nxt_len t c (t.length - 1)
        have he : 0 ≤ entS (cnts (nxt t c (t.length - 1))) ∧ entS (cnts (nxt t c (t.length - 1))) ≤ 1073741824 := by rw [entS_cnts]; exact entG_bound _
        rw [if_neg hn, sel_pos (by omega), haystackref19_Counts_r_spec _ (nxt_byte hb c _) (by omega) _ rfl, haystackref19_Entropy_r_spec _ (cnts_length _), addW_i64 (by omega) (by omega), e0]
        exact ih
    · have : c = 256 := by omega
      subst this
      rw [sel_neg (by omega)]
theorem haystackref19_Second_spec (t : List Nat) (hb : ∀ b ∈ t, b < 256) (hl : t.length < 1000000000) (K : Int → Option R) : haystackref19_Second (ci t) K = K (secS t) := by
  rw [haystackref19_Second_unf]; unfold haystackref19_Second_B secS
  rw [ci_length]
  by_cases h : 8192 < t.length
  · rw [sel_pos (by omega), if_pos h]
  · rw [sel_neg (by omega), if_neg h, haystackref19_Second_l6_unf]; unfold haystackref19_Second_l6_B
    exact ref19_rows t hb hl _ NR 0 (by omega) (by have := NR_lt; omega)
end
end Go.Proofs.Ytblpggndekhebaa
