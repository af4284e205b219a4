/- Layer 2: what the functions that make rows of bits come to. -/
import Derived.Test.YtdojekdcdoaccaaDoorBits
namespace Go.Proofs.YtdojekdcdoaccaaDoor
open Go Go.Ev
section
variable {R : Type}
theorem quo64 (n : Nat) (h : n < 4611686018427387904) : quoW .i64 (n : Int) 64 = ((n / 64 : Nat) : Int) := by rw [quoW_nat (by omega) (by omega) (by omega)]; omega
theorem rem64 (n : Nat) : remW (n : Int) 64 = ((n % 64 : Nat) : Int) := by rw [remW_nat' (by omega)]; omega
theorem ci_len_take (ws : List Nat) : (ci ws).length = ws.length := ci_length ws

/-- words of one's own: those of a row, as many as so many bits need -/
theorem bits_own_spec (n : Int) (ws : List Nat) (m : Nat) (hm : m ≤ 4294967296) (hle : ws.length ≤ (m + 63) / 64) (K : Int → Nat → List Int → Option R) :
    bits_own_r n (ci ws) (m : Int) K = K (m : Int) ((m + 63) / 64) (ci (ws ++ List.replicate ((m + 63) / 64 - ws.length) 0)) := by
  rw [bits_own_r_unf]; unfold bits_own_r_B
  rw [bits_words_spec _ (by omega) (by omega)]
  have e : ((m : Int) + 63) / 64 = (((m + 63) / 64 : Nat) : Int) := by omega
  rw [e]
  generalize hq : (m + 63) / 64 = q at hle
  rw [sel_pos (by omega), sel_pos (by omega), sel_pos (by omega), sel_pos (by omega), letV_eq, Int.toNat_natCast, sel_pos (by simp), ci_length, sel_pos (by omega), sel_pos (by simp; omega), letV_eq]
  congr 1
  rw [ci_zeros, ci_take, ci_drop, ci_append, ci_append]
  simp

theorem bits_fill_j6_spec (x i low : Nat) (b : Bool) (ws : List Nat) (n : Int) (l : Nat) (hl : l = ws.length) (hw : Ws ws) (hx : x < 2 ^ 64) (hi : i < 4611686018427387904) (hlow : low ≤ 64) (hb : b = decide (i + 1 < ws.length)) (K : List Int → Option R) :
    bits_fill_j6 (x : Int) (i : Int) (low : Int) b (ci ws) n l K = K (ci (if i + 1 < ws.length then ws.set (i + 1) (ws.getD (i + 1) 0 ||| x / 2 ^ (64 - low)) else ws)) := by
  rw [bits_fill_j6_unf]; unfold bits_fill_j6_B
  subst hl
  have hlen := hw.2
  by_cases h : i + 1 < ws.length
  · rw [hb, decide_eq_true h, Ev.sel_true, if_pos h]
    rw [addW_i64 (by omega) (by omega), show (i : Int) + 1 = ((i + 1 : Nat) : Int) by omega]
    rw [sel_pos (by omega), sel_pos (by omega), Int.toNat_natCast, sel_pos (by rw [ci_length]; exact h), subW_i64 (by omega) (by omega), sel_pos (by omega), sel_pos (by omega), sel_pos (by omega), sel_pos (by rw [ci_length]; exact h), letV_eq, ci_getD,
      show (64 : Int) - (low : Int) = ((64 - low : Nat) : Int) by omega, shrW_u64 _ _ hx, orW_u64 _ _ (getD_lt hw.1 _) (Nat.lt_of_le_of_lt (Nat.div_le_self _ _) hx), ci_set]
  · rw [hb, decide_eq_false h, Ev.sel_false, if_neg h]
theorem bits_fill_spec (N : Int) (l : Nat) (ws : List Nat) (hl : l = ws.length) (n x : Nat) (hw : Ws ws) (hx : x < 2 ^ 64) (hn : n < 4611686018427387904) (K : List Int → Option R) :
    bits_fill_r N l (n : Int) (x : Int) (ci ws) K = K (ci (fillW ws n x)) := by
  have j5 : ∀ (ws1 : List Nat), ws1.length = ws.length → Ws ws1 → bits_fill_j5 (x : Int) ((n / 64 : Nat) : Int) ((n % 64 : Nat) : Int) (ci ws1) N l K = K (ci (if 0 < n % 64 ∧ n / 64 + 1 < ws.length then ws1.set (n / 64 + 1) (ws1.getD (n / 64 + 1) 0 ||| x / 2 ^ (64 - n % 64)) else ws1)) := fun ws1 h1 h2 => by
    rw [bits_fill_j5_unf]; unfold bits_fill_j5_B
    have hlen := hw.2
    by_cases h : 0 < n % 64
    · rw [sel_pos (by omega), addW_i64 (by omega) (by omega), bits_fill_j6_spec x (n / 64) (n % 64) _ ws1 N l (by omega) h2 hx (by omega) (by omega) (by rw [decide_eq_decide]; omega), h1]
      by_cases h3 : n / 64 + 1 < ws.length
      · rw [if_pos h3, if_pos ⟨h, h3⟩]
      · rw [if_neg h3, if_neg fun h4 => h3 h4.2]
    · rw [sel_neg (by omega), if_neg fun h4 => h h4.1, bits_fill_j6_unf]; unfold bits_fill_j6_B
      rfl
  rw [bits_fill_r_unf]; unfold bits_fill_r_B
  rw [quo64 n hn, rem64 n]
  have hlen := hw.2
  unfold fillW
  simp only []
  by_cases h : n / 64 < ws.length
  · rw [sel_pos (by omega), sel_pos (by omega), sel_pos (by omega), Int.toNat_natCast, sel_pos (by rw [ci_length]; exact h), sel_pos (by omega), sel_pos (by omega), sel_pos (by omega), sel_pos (by rw [ci_length]; exact h), letV_eq, ci_getD, shlW_u64 _ _ hx, orW_u64 _ _ (getD_lt hw.1 _) (Nat.mod_lt _ (by decide)), ci_set,
      j5 _ (by simp) ⟨set_lt hw.1 (Nat.or_lt_two_pow (getD_lt hw.1 _) (Nat.mod_lt _ (by decide))), by simpa using hlen⟩, if_pos h]
  · rw [sel_neg (by omega), j5 ws rfl hw, if_neg h]
end
end Go.Proofs.YtdojekdcdoaccaaDoor
