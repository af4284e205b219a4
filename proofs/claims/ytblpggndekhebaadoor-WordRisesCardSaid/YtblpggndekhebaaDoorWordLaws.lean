/- Layer 1: the laws of words are true, whatever the input. -/
import Derived.Test.YtblpggndekhebaaDoorWordRef
namespace Go.Proofs.YtblpggndekhebaaDoor
open Go Go.Ev
section
variable {R : Type}
theorem heads01_spec (K : Bool → Option R) : haystacklaw01_heads K = K true := by
  rw [haystacklaw01_heads_unf]; unfold haystacklaw01_heads_B
  rw [word_Mask_spec 3 (by decide) (by decide), sel_pos (by decide), word_Mask_spec 64 (by decide) (by decide), sel_pos (by decide),
    show (8070450532247928832 : Int) = ((8070450532247928832 : Nat) : Int) from rfl, word_Pop_spec _ (by decide), sel_pos (by decide +kernel),
    show (22 : Int) = ((22 : Nat) : Int) from rfl, word_Rank_spec _ (by decide) 3 (by decide) (by decide), sel_pos (by decide),
    word_Select_spec _ (by decide), sel_pos (by decide +kernel), show (1 : Int) = ((1 : Nat) : Int) from rfl, word_Select_spec _ (by decide), sel_pos (by decide +kernel),
    show (8 : Int) = ((8 : Nat) : Int) from rfl, word_Len_spec _ (by decide), sel_pos (by decide +kernel),
    show (0 : Int) = ((0 : Nat) : Int) from rfl, word_Len_spec _ (by decide)]
  exact congrArg K (by decide +kernel)

theorem WordTells_true (x : Nat) (hx : x < 2 ^ 64) (n k : Int) (h1 : -9223372036854775808 ≤ n) (h2 : n ≤ 9223372036854775807) (K : Bool → Option R) : haystacklaw01_WordTells (x : Int) n k K = K true := by
  rw [haystacklaw01_WordTells_unf]; unfold haystacklaw01_WordTells_B
  rw [word_Mask_spec n h1 h2, haystackref01_Mask_spec n h2, sel_pos rfl, word_Pop_spec x hx, haystackref01_Pop_spec x hx, sel_pos rfl,
    word_Rank_spec x hx n h1 h2, haystackref01_Rank_spec x hx n h2, sel_pos rfl, word_Select_spec x hx, haystackref01_Select_spec x hx, sel_pos rfl,
    word_Len_spec x hx, haystackref01_Len_spec x hx, sel_pos rfl, heads01_spec]

theorem WordBack_true (x : Nat) (hx : x < 2 ^ 64) (k : Int) (K : Bool → Option R) : haystacklaw01_WordBack (x : Int) k K = K true := by
  rw [haystacklaw01_WordBack_unf]; unfold haystacklaw01_WordBack_B
  rw [word_Select_spec x hx]
  have hl := selN_le x k
  have hs := selN_is x k
  generalize selN x k = i at hl hs ⊢
  rcases hs with ⟨a1, a2, a3⟩ | ⟨a1, a2⟩
  · have hp := pc_le x i
    rw [sel_neg (by omega), sel_pos (by omega), sel_pos (by omega), cvtW_u64 (by omega) (by omega), sel_pos (by omega), shrW_u64 _ _ hx, show (1 : Int) = ((1 : Nat) : Int) from rfl, andW_u64 _ _ (Nat.lt_of_le_of_lt (Nat.div_le_self _ _) hx) (by decide), bit_and,
      sel_pos (by rw [(bit_mod x i).2 a2]), word_Rank_spec x hx i (by omega) (by omega)]
    have e1 : rankN x (i : Int) = pc x i := by unfold rankN; congr 1; omega
    have e2 : rankN x ((i : Int) + ((1 : Nat) : Int)) = pc x i + 1 := by
      unfold rankN
      rw [show min ((i : Int) + ((1 : Nat) : Int)).toNat 64 = i + 1 by omega]
      simp only [pc, a2, Bool.toNat_true]
    rw [e1, sel_pos a3, addW_i64 (by omega) (by omega), word_Rank_spec x hx _ (by omega) (by omega), e2, addW_i64 (by omega) (by omega), sel_pos (by omega), heads01_spec]
  · subst a1
    rw [sel_pos (by rfl)]
    by_cases hk : k < 0
    · rw [sel_pos hk, heads01_spec]
    · rw [sel_neg hk, word_Pop_spec x hx, sel_pos (by omega), heads01_spec]

theorem WordParts_true (x : Nat) (hx : x < 2 ^ 64) (n : Int) (K : Bool → Option R) : haystacklaw01_WordParts (x : Int) n K = K true := by
  rw [haystacklaw01_WordParts_unf]; unfold haystacklaw01_WordParts_B
  by_cases h1 : n < 0
  · rw [sel_pos h1, heads01_spec]
  rw [sel_neg h1]
  by_cases h2 : 63 < n
  · rw [sel_pos h2, heads01_spec]
  rw [sel_neg h2, haystacklaw01_WordParts_j4_unf]; unfold haystacklaw01_WordParts_j4_B
  obtain ⟨m, rfl⟩ : ∃ m : Nat, n = (m : Int) := ⟨n.toNat, by omega⟩
  have e1 : rankN x (m : Int) = pc x m := by unfold rankN; congr 1; omega
  have hd : x / 2 ^ m < 2 ^ 64 := Nat.lt_of_le_of_lt (Nat.div_le_self _ _) hx
  have hp := pc_div x m 64
  rw [pc_of_lt hx (show 64 ≤ m + 64 by omega)] at hp
  have hl := pc_le x 64
  have hn := pc_not hx 64 (Nat.le_refl _)
  rw [word_Rank_spec x hx _ (by omega) (by omega), cvtW_u64 (by omega) (by omega), sel_pos (by omega), shrW_u64 _ _ hx, word_Pop_spec _ hd, word_Pop_spec x hx, e1, addW_i64 (by omega) (by omega), sel_pos (by omega),
    word_Mask_spec _ (by omega) (by omega), andW_u64 _ _ hx (maskN_lt _), word_Pop_spec _ (and_lt_64 hx), word_Rank_spec x hx _ (by omega) (by omega), pc_and_mask, sel_pos rfl, notW_u64 _ hx, word_Pop_spec _ (by omega), word_Pop_spec x hx, subW_i64 (by omega) (by omega), sel_pos (by omega), heads01_spec]

theorem WordLong_true (x : Nat) (hx : x < 2 ^ 64) (K : Bool → Option R) : haystacklaw01_WordLong (x : Int) K = K true := by
  rw [haystacklaw01_WordLong_unf]; unfold haystacklaw01_WordLong_B
  rw [word_Len_spec x hx]
  by_cases h0 : x = 0
  · subst h0
    rw [sel_pos (by rfl), sel_pos (by rfl), heads01_spec]
  · obtain ⟨h1, h2⟩ := bitLen_spec x
    have h2 := h2 h0
    have hl := bitLen_le hx
    have hp : bitLen x ≠ 0 := by unfold bitLen; rw [if_neg h0]; omega
    generalize bitLen x = n at h1 h2 hl hp ⊢
    have e : x / 2 ^ (n - 1) = 1 := by
      obtain ⟨j, rfl⟩ : ∃ j, n = j + 1 := ⟨n - 1, by omega⟩
      rw [Nat.add_sub_cancel] at h2 ⊢
      have a1 := Nat.div_pos h2 (Nat.two_pow_pos j)
      have a2 : x / 2 ^ j < 2 := by rw [Nat.div_lt_iff_lt_mul (Nat.two_pow_pos j)]; rw [Nat.pow_succ] at h1; omega
      generalize x / 2 ^ j = q at a1 a2
      omega
    have e2 : x &&& maskN (n : Int) = x := by
      rw [and_maskN, show min (n : Int).toNat 64 = n by omega, Nat.mod_eq_of_lt h1]
    rw [sel_neg (by omega), sel_pos (by omega), sel_pos (by omega), subW_i64 (by omega) (by omega), show (n : Int) - 1 = ((n - 1 : Nat) : Int) by omega, cvtW_u64 (by omega) (by omega), sel_pos (by omega), shrW_u64 _ _ hx, e, sel_pos (by rfl),
      word_Mask_spec _ (by omega) (by omega), andNotW_u64 _ _ hx (maskN_lt _), e2, sel_pos (by omega), heads01_spec]

theorem WordRises_true (x : Nat) (hx : x < 2 ^ 64) (k : Int) (K : Bool → Option R) : haystacklaw01_WordRises (x : Int) k K = K true := by
  rw [haystacklaw01_WordRises_unf]; unfold haystacklaw01_WordRises_B
  by_cases h1 : k < 0
  · rw [sel_pos h1, heads01_spec]
  rw [sel_neg h1]
  by_cases h2 : 100 < k
  · rw [sel_pos h2, heads01_spec]
  rw [sel_neg h2, haystacklaw01_WordRises_j4_unf]; unfold haystacklaw01_WordRises_j4_B
  rw [addW_i64 (by omega) (by omega), word_Select_spec x hx, word_Select_spec x hx]
  have ha := selN_is x k
  have hb := selN_is x (k + 1)
  generalize selN x k = a at ha ⊢
  generalize selN x (k + 1) = b at hb ⊢
  rcases ha with ⟨a1, a2, a3⟩ | ⟨a1, a2⟩
  · have hlt : pc x a + 1 ≤ pc x 64 := pc_lt_of_bit a2 a1
    have hab : a < b := by
      rcases hb with ⟨b1, b2, b3⟩ | ⟨b1, b2⟩
      · apply Nat.lt_of_not_le; intro h
        have := pc_mono x h; omega
      · omega
    have e1 : rankN x (a : Int) = pc x a := by unfold rankN; congr 1; omega
    have e2 : (rankN x (b : Int) : Int) = pc x a + 1 := by
      rcases hb with ⟨b1, b2, b3⟩ | ⟨b1, b2⟩
      · have : rankN x (b : Int) = pc x b := by unfold rankN; congr 1; omega
        omega
      · have : rankN x (b : Int) = pc x 64 := by unfold rankN; congr 1; omega
        omega
    have hb64 : b ≤ 64 := by rcases hb with ⟨b1, _⟩ | ⟨b1, _⟩ <;> omega
    have hp := pc_le x a
    rw [sel_neg (by omega), sel_pos (by omega), word_Rank_spec x hx _ (by omega) (by omega), word_Rank_spec x hx _ (by omega) (by omega), e1, e2, subW_i64 (by omega) (by omega), sel_pos (by omega), heads01_spec]
  · have : b = 64 := by
      rcases hb with ⟨b1, b2, b3⟩ | ⟨b1, b2⟩
      · have := pc_lt_of_bit b2 b1; omega
      · exact b1
    subst this; subst a1
    rw [sel_pos (by rfl), sel_pos (by rfl), heads01_spec]

theorem WordMasks_true (n : Int) (K : Bool → Option R) : haystacklaw01_WordMasks n K = K true := by
  have j3 : ∀ K1 : Int → Option R, haystacklaw01_WordMasks_j3 n true K K1 = K true := fun K1 => by
    rw [haystacklaw01_WordMasks_j3_unf]; unfold haystacklaw01_WordMasks_j3_B
    rw [Ev.sel_true, word_Mask_spec _ (by decide) (by decide), sel_pos (by decide), word_Mask_spec _ (by decide) (by decide), sel_pos (by decide), heads01_spec]
  rw [haystacklaw01_WordMasks_unf]; unfold haystacklaw01_WordMasks_B
  by_cases h1 : n < 0
  · rw [sel_pos h1, j3]
  rw [sel_neg h1]
  by_cases h2 : 63 < n
  · rw [decide_eq_true h2, j3]
  · rw [decide_eq_false h2, haystacklaw01_WordMasks_j3_unf]; unfold haystacklaw01_WordMasks_j3_B
    rw [Ev.sel_false]
    show haystacklaw01_WordMasks_j4 n _ = _
    rw [haystacklaw01_WordMasks_j4_unf]; unfold haystacklaw01_WordMasks_j4_B
    obtain ⟨m, rfl⟩ : ∃ m : Nat, n = (m : Int) := ⟨n.toNat, by omega⟩
    have e1 : maskN (m : Int) = 2 ^ m - 1 := by unfold maskN; rw [show min (m : Int).toNat 64 = m by omega]
    have e2 : maskN ((m : Int) + 1) = 2 ^ (m + 1) - 1 := by unfold maskN; rw [show min ((m : Int) + 1).toNat 64 = m + 1 by omega]
    have hm : 2 ^ m ≤ 2 ^ 63 := Nat.pow_le_pow_right (by decide) (by omega)
    have hp : 0 < 2 ^ m := Nat.two_pow_pos m
    have e3 : (2 ^ m - 1) * 2 ^ 1 ||| 1 = 2 ^ (m + 1) - 1 := by
      rw [← and_add_or, Nat.pow_succ]
      · omega
      · rw [Nat.and_one_is_mod]; omega
    have e4 : pc (2 ^ m - 1) 64 = m := by
      rw [pc_of_lt (n := m) (by omega) (by omega), pc_one_of m m (Nat.le_refl _)]
    have e5 : bitLen (2 ^ m - 1) = m := bitLen_eq (by omega) fun h => by
      rw [Nat.testBit_two_pow_sub_one]; simp; omega
    have hw : (2 ^ m - 1) * 2 ^ 1 % 2 ^ 64 = (2 ^ m - 1) * 2 ^ 1 := Nat.mod_eq_of_lt (by omega)
    rw [addW_i64 (by omega) (by omega), word_Mask_spec _ (by omega) (by omega), word_Mask_spec _ (by omega) (by omega), e1, e2, show (1 : Int) = ((1 : Nat) : Int) from rfl, shlW_u64 _ _ (by omega), hw, orW_u64 _ _ (by omega) (by decide), e3, sel_pos rfl,
      word_Mask_spec _ (by omega) (by omega), e1, word_Pop_spec _ (by omega), e4, sel_pos rfl, word_Mask_spec _ (by omega) (by omega), e1, word_Len_spec _ (by omega), e5, sel_pos rfl, heads01_spec]
abbrev WordRises_pas : List Pa := [.one (.int .u64), .one (.int .i64)]
theorem WordRises_law : ∀ vs, pasHas WordRises_pas vs → sp3 vs AV some = some (.bool true) := by
  rintro vs ⟨_, _, rfl, ⟨n, rfl, hn⟩, _, _, rfl, ⟨m, rfl, hm⟩, rfl⟩
  obtain ⟨x, rfl, hx⟩ := nat_u64 hn
  exact WordRises_true x hx m _
abbrev WordMasks_pas : List Pa := [.one (.int .i64)]
theorem WordMasks_law : ∀ vs, pasHas WordMasks_pas vs → sp4 vs AV some = some (.bool true) := by
  rintro vs ⟨_, _, rfl, ⟨n, rfl, hn⟩, rfl⟩
  exact WordMasks_true n _
abbrev WordTells_pas : List Pa := [.one (.int .u64), .one (.int .i64), .one (.int .i64)]
theorem WordTells_law : ∀ vs, pasHas WordTells_pas vs → sp5 vs AV some = some (.bool true) := by
  rintro vs ⟨_, _, rfl, ⟨n, rfl, hn⟩, _, _, rfl, ⟨m, rfl, hm⟩, _, _, rfl, ⟨k, rfl, hk⟩, rfl⟩
  obtain ⟨x, rfl, hx⟩ := nat_u64 hn
  exact WordTells_true x hx m k (has_i64 hm).1 (has_i64 hm).2 _
abbrev WordBack_pas : List Pa := [.one (.int .u64), .one (.int .i64)]
theorem WordBack_law : ∀ vs, pasHas WordBack_pas vs → sp6 vs AV some = some (.bool true) := by
  rintro vs ⟨_, _, rfl, ⟨n, rfl, hn⟩, _, _, rfl, ⟨m, rfl, hm⟩, rfl⟩
  obtain ⟨x, rfl, hx⟩ := nat_u64 hn
  exact WordBack_true x hx m _
abbrev WordParts_pas : List Pa := [.one (.int .u64), .one (.int .i64)]
theorem WordParts_law : ∀ vs, pasHas WordParts_pas vs → sp7 vs AV some = some (.bool true) := by
  rintro vs ⟨_, _, rfl, ⟨n, rfl, hn⟩, _, _, rfl, ⟨m, rfl, hm⟩, rfl⟩
  obtain ⟨x, rfl, hx⟩ := nat_u64 hn
  exact WordParts_true x hx m _
abbrev WordLong_pas : List Pa := [.one (.int .u64)]
theorem WordLong_law : ∀ vs, pasHas WordLong_pas vs → sp8 vs AV some = some (.bool true) := by
  rintro vs ⟨_, _, rfl, ⟨n, rfl, hn⟩, rfl⟩
  obtain ⟨x, rfl, hx⟩ := nat_u64 hn
  exact WordLong_true x hx _
end
end Go.Proofs.YtblpggndekhebaaDoor
