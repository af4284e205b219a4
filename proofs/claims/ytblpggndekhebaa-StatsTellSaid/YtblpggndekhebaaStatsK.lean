/- Layer 19: what must come at any rate; the laws of counts and of logarithms are true, whatever the input. -/
import Derived.Test.YtblpggndekhebaaStatsI
import Derived.Test.YtblpggndekhebaaStatsJ
import Derived.Test.YtblpggndekhebaaW10
import Derived.Test.YtblpggndekhebaaEvC
namespace Go.Proofs.Ytblpggndekhebaa
open Go Go.Ev
section
variable {R : Type}
theorem numbers_self_loop (a : List Int) (ha : a.length < 1000000000) (K0 : Bool → Option R) (K1 : Unit → Option R) : ∀ (N j : Nat), j ≤ a.length → a.length - j < N →
    haystackref07_Numbers_l5_L K0 K1 N a a (j : Int) = K1 ()
  | 0, _, _, h => by omega
  | N + 1, j, hj, hN => by
    simp only [haystackref07_Numbers_l5_L, haystackref07_Numbers_l5_T]
    by_cases h1 : j < a.length
    · rw [sel_pos (by omega), sel_pos (by omega), sel_pos (by omega), sel_pos (by omega), sel_pos (by omega), addW_i64 (by omega) (by omega), show (j : Int) + 1 = ((j + 1 : Nat) : Int) by omega]
      simp only [decide_true, Bool.not_true, Ev.sel_false]
      exact numbers_self_loop a ha K0 K1 N (j + 1) (by omega) (by omega)
    · rw [sel_neg (by omega)]
theorem numbers_self (a : List Int) (ha : a.length < 1000000000) (K : Bool → Option R) : haystackref07_Numbers a a K = K true := by
  rw [haystackref07_Numbers_unf]; unfold haystackref07_Numbers_B
  rw [sel_npos rfl, haystackref07_Numbers_l5_unf]
  unfold haystackref07_Numbers_l5_B
  exact numbers_self_loop a ha _ _ NR 0 (by omega) (by have := NR_lt; omega)
/-! ### heads -/
abbrev ab8 : List Nat := [97, 98, 97, 98, 97, 98, 97, 98]
theorem ab8_byte : ∀ b ∈ ab8, b < 256 := by decide
theorem stats_Counts_r_spec (bs : List Nat) (hb : ∀ b ∈ bs, b < 256) (hl : bs.length < 1000000000) (l : Nat) (h : l = bs.length) (K : Nat → List Int → List Int → Option R) : stats_Counts_r l (ci bs) K = K 256 (ci bs) (cnts bs) := by
  subst h
  rw [stats_Counts_r_unf]; unfold stats_Counts_r_B
  rw [stats_Counts_l4_unf]; unfold stats_Counts_l4_B
  rw [← cnts_nil]
  refine (stats_Counts_r_loop bs hb hl _ NR 0 (by omega) (by have := NR_lt; omega)).trans ?_
  rw [cnts_length, sel_pos (by decide)]
  rfl
theorem log8 : logS 8 = 196608 := by decide +kernel
theorem log0 : logS 0 = 0 := by decide +kernel
theorem log3 : logS 3 = 103872 := by decide +kernel
theorem ent_ab : entS (cnts ab8) = 8 := by decide +kernel
theorem dist_ab : distS (cnts ab8) = 2 := by decide +kernel
theorem ent_a : entS (cnts [97, 97, 97]) = 0 := by decide +kernel
theorem ent_b : entS (cnts [98, 98, 98, 98]) = 0 := by decide +kernel
theorem ent_no : entS [] = 0 := by decide +kernel
theorem nxt_ab (c : Nat) : entS (cnts (nxt ab8 c 7)) = 0 := by
  by_cases h1 : c = 97
  · subst h1; exact ent_b
  by_cases h2 : c = 98
  · subst h2; exact ent_a
  have a1 : ¬ 97 = c := fun h => h1 h.symm
  have a2 : ¬ 98 = c := fun h => h2 h.symm
  have e : nxt ab8 c 7 = [] := by simp [nxt, ab8, a1, a2]
  rw [e]; exact entS_none
theorem sec_ab : secS ab8 = 0 := by
  have h : ∀ c, secG ab8 7 c = 0 := fun c => by
    induction c with
    | zero => rfl
    | succ c ih => simp only [secG, ih, nxt_ab]; rfl
  unfold secS
  rw [if_neg (by decide)]
  exact h 256
theorem heads19_spec (K : Bool → Option R) : haystacklaw19_heads K = K true := by
  rw [haystacklaw19_heads_unf]; unfold haystacklaw19_heads_B
  rw [show ([97, 98, 97, 98, 97, 98, 97, 98] : List Int) = ci ab8 from rfl, stats_Counts_r_spec ab8 ab8_byte (by decide) 8 rfl]
  rw [cnts_length, sel_pos rfl, sel_pos (by decide), sel_pos (by decide), show Int.toNat 97 = 97 from rfl, cnts_get ab8 (c := 97) (by decide), sel_pos (by decide), stats_Log_spec, log8, sel_pos rfl, stats_Log_spec, log0, sel_pos rfl,
    stats_Entropy_spec, ent_ab, sel_pos rfl, stats_Distinct_spec _ (by rw [cnts_length]; decide), dist_ab, sel_pos rfl, stats_Second_r_spec ab8 ab8_byte (by decide) 8 rfl]
  first | dsimp only | skip
  rw [sec_ab, sel_pos rfl, stats_Entropy_spec, ent_no, sel_pos rfl, stats_Log_spec, log3]
  rfl
/-! ### StatsTell -/
theorem StatsTell_true (t : List Nat) (hb : ∀ b ∈ t, b < 256) (x : Int) (cs : List Int) (K : Bool → Option R) : haystacklaw19_StatsTell (ci t) x cs K = K true := by
  rw [haystacklaw19_StatsTell_unf]; unfold haystacklaw19_StatsTell_B
  rw [ci_length]
  by_cases h1 : 2000 < t.length
  · rw [sel_pos (by omega), heads19_spec]
  by_cases h2 : 1000 < cs.length
  · rw [sel_neg (by omega), sel_pos (by omega), heads19_spec]
  rw [sel_neg (by omega), sel_neg (by omega), haystacklaw19_StatsTell_j4_unf]; unfold haystacklaw19_StatsTell_j4_B
  rw [stats_Counts_spec t hb (by omega), haystackref19_Counts_spec t hb (by omega), numbers_self _ (by rw [cnts_length]; decide), Ev.sel_true, stats_Log_spec, haystackref19_Log_spec, sel_pos rfl,
    stats_Entropy_spec, haystackref19_Entropy_spec, sel_pos rfl, stats_Second_spec t hb (by omega), haystackref19_Second_spec t hb (by omega), sel_pos rfl, stats_Distinct_spec _ (by omega), haystackref19_Distinct_spec, sel_pos rfl, heads19_spec]
theorem ci_u8 {xs : List Int} (h : ∀ x ∈ xs, IntKind.u8.has x) : ∃ t, xs = ci t ∧ ∀ b ∈ t, b < 256 := by
  induction xs with
  | nil => exact ⟨[], rfl, by simp⟩
  | cons x r ih =>
    obtain ⟨t, e, hb⟩ := ih fun y hy => h y (List.mem_cons_of_mem _ hy)
    have hx := has_u8 (h x List.mem_cons_self)
    refine ⟨x.toNat :: t, ?_, ?_⟩
    · rw [e]; simp only [ci, List.map_cons]; congr 1; show x = ((x.toNat : Nat) : Int); omega
    · intro b hb'
      rcases List.mem_cons.1 hb' with rfl | hb'
      · omega
      · exact hb b hb'
abbrev StatsTell_pas : List Pa := [.one (.ints .u8), .one (.int .i64), .one (.ints .i64)]
theorem StatsTell_law : ∀ vs, pasHas StatsTell_pas vs → sp4 vs AV some = some (.bool true) := by
  rintro vs ⟨_, _, rfl, ⟨xs, rfl, _, hx⟩, _, _, rfl, ⟨x, rfl, _⟩, _, _, rfl, ⟨cs, rfl, _, _⟩, rfl⟩
  obtain ⟨t, rfl, hb⟩ := ci_u8 hx
  exact StatsTell_true t hb x cs _
/-! ### StatsRise -/
theorem lgN_mono {x y : Nat} (h0 : 0 < x) (h : x ≤ y) (h1 : y ≤ 1073741824) : lgN x ≤ lgN y := by
  obtain ⟨b1, b2, b3⟩ := lg_start (x := x) h0 (by omega)
  obtain ⟨c1, c2, c3⟩ := lg_start (x := y) (by omega) h1
  refine lgGo_mono 16 _ _ _ _ b3 c3 ?_
  have hm := bitLen_mono h
  by_cases e : bitLen x = bitLen y
  · right
    refine ⟨by rw [e], ?_⟩
    rw [e]
    exact Nat.mul_le_mul_right _ h
  · left; omega
theorem bitLen_two {x : Nat} (h0 : 0 < x) : bitLen (2 * x) = bitLen x + 1 := by
  refine bitLen_eq ?_ fun _ => ?_
  · have := (bitLen_spec x).1
    rw [Nat.pow_succ]; omega
  · have hp := bitLen_pos (x := x) (by omega)
    have := bitLen_top (x := x) (by omega)
    rw [Nat.add_sub_cancel, show bitLen x = (bitLen x - 1) + 1 by omega, Nat.testBit_succ, Nat.mul_div_cancel_left _ (by decide)]
    exact this
theorem lgN_two {x : Nat} (h0 : 0 < x) (h1 : x ≤ 536870912) : lgN (2 * x) = lgN x + 65536 := by
  have hp := bitLen_pos (x := x) (by omega)
  have h2 : bitLen x ≤ 30 := bitLen_le (by omega)
  have hb := bitLen_two h0
  unfold lgN
  rw [hb, Nat.add_sub_cancel]
  have e : 2 * x * 2 ^ (31 - bitLen x) = x * 2 ^ (31 - (bitLen x - 1)) := by
    rw [show 31 - (bitLen x - 1) = (31 - bitLen x) + 1 by omega, Nat.pow_succ]; ac_rfl
  rw [e]
  have := lgGo_add 16 (bitLen x - 1) 1 (x * 2 ^ (31 - (bitLen x - 1)))
  rw [show bitLen x - 1 + 1 = bitLen x by omega] at this
  rw [this]
theorem lgN_whole {x : Nat} (h0 : 0 < x) (h1 : x ≤ 1073741824) (h : x &&& (x - 1) = 0) : lgN x % 65536 = 0 := by
  obtain ⟨m, hm, hc⟩ := low_one (x := x) (by omega) (by omega)
  generalize Lib.ctz 64 x = c at hm hc
  have e := and_pred c m
  rw [← hm, h] at e
  have hp := Nat.two_pow_pos c
  have h2 : 2 * m = 0 := by
    rcases Nat.mul_eq_zero.1 e.symm with h | h
    · omega
    · exact h
  have hx : x = 2 ^ c := by rw [hm, h2, Nat.zero_add, Nat.mul_one]
  have hb : bitLen x = c + 1 := bitLen_eq (by rw [hx, Nat.pow_succ]; omega) fun _ => by rw [hx, Nat.add_sub_cancel, Nat.testBit_two_pow_self]
  have h31 : bitLen x ≤ 31 := bitLen_le (by omega)
  unfold lgN
  rw [hb, Nat.add_sub_cancel, hx, ← Nat.pow_add, show c + (31 - c) = 31 by omega]
  have := lgGo_one 16 c
  rw [show (2 : Nat) ^ 31 = 2147483648 from rfl, this]
  exact Nat.mul_mod_right _ _
theorem logS_nat {x : Nat} (h0 : 0 < x) (h1 : x ≤ 1073741824) : logS (x : Int) = ((lgN x : Nat) : Int) := by
  unfold logS
  rw [if_neg (by omega), Int.toNat_natCast]
theorem StatsRise_true (x y : Int) (K : Bool → Option R) : haystacklaw19_StatsRise x y K = K true := by
  rw [haystacklaw19_StatsRise_unf]; unfold haystacklaw19_StatsRise_B
  by_cases h1 : x < 1
  · rw [sel_pos h1, heads19_spec]
  by_cases h2 : y < x
  · rw [sel_neg h1, sel_pos h2, heads19_spec]
  by_cases h3 : 536870912 < y
  · rw [sel_neg h1, sel_neg h2, sel_pos h3, heads19_spec]
  obtain ⟨a, rfl⟩ : ∃ a : Nat, x = (a : Int) := ⟨x.toNat, by omega⟩
  obtain ⟨b, rfl⟩ : ∃ b : Nat, y = (b : Int) := ⟨y.toNat, by omega⟩
  have hm := lgN_mono (x := a) (y := b) (by omega) (by omega) (by omega)
  have ht := lgN_two (x := a) (by omega) (by omega)
  have hl := logS_bound (a : Int)
  rw [sel_neg h1, sel_neg h2, sel_neg h3, haystacklaw19_StatsRise_j4_unf]; unfold haystacklaw19_StatsRise_j4_B
  rw [logS_nat (by omega) (by omega)] at hl
  rw [stats_Log_spec, stats_Log_spec, logS_nat (by omega) (by omega), logS_nat (by omega) (by omega), sel_pos (by omega), mulW_i64 (by omega) (by omega), stats_Log_spec, show (2 : Int) * (a : Int) = ((2 * a : Nat) : Int) by omega, logS_nat (by omega) (by omega), ht, addW_i64 (by omega) (by omega), sel_pos (by omega),
    subW_i64 (by omega) (by omega), show ((a : Int) - 1) = ((a - 1 : Nat) : Int) by omega, andW_i64 _ _ (by omega) (by omega)]
  by_cases hz : a &&& (a - 1) = 0
  · have hw := lgN_whole (x := a) (by omega) (by omega) hz
    rw [sel_npos (by omega), remW_eq, Int.tmod_eq_emod_of_nonneg (by omega), sel_pos (by omega), sel_pos (by omega), heads19_spec]
  · rw [sel_nneg (by omega), sel_pos (by omega), heads19_spec]
abbrev StatsRise_pas : List Pa := [.one (.int .i64), .one (.int .i64)]
theorem StatsRise_law : ∀ vs, pasHas StatsRise_pas vs → sp5 vs AV some = some (.bool true) := by
  rintro vs ⟨_, _, rfl, ⟨x, rfl, _⟩, _, _, rfl, ⟨y, rfl, _⟩, rfl⟩
  exact StatsRise_true x y _
end
end Go.Proofs.Ytblpggndekhebaa
