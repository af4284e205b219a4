/- Layer 6: the laws are true, whatever the input. -/
import Derived.Test.YtginjngnmboglaaBinomRef
import Derived.Test.YtginjngnmboglaaEvC
namespace Go.Proofs.Ytginjngnmboglaa
open Go Go.Ev
section
variable {R : Type}
theorem ch_62 : chI 62 31 = 465428353255261088 := by
  rw [show ((62 : Int)) = ((62 : Nat) : Int) from rfl, show ((31 : Int)) = ((31 : Nat) : Int) from rfl, chI_nat 62 31 (by decide) (by decide), cm_eq]
  decide +kernel
theorem heads06_spec (K : Bool → Option R) : haystacklaw06_heads K = K true := by
  rw [haystacklaw06_heads_unf]; unfold haystacklaw06_heads_B
  rw [show (6 : Int) = ((6 : Nat) : Int) from rfl, show (3 : Int) = ((3 : Nat) : Int) from rfl, binom_Offset_spec 6 (by decide) 3 (by decide), show (2 : Int) = ((2 : Nat) : Int) from rfl, binom_Block_spec _ _ 2 (by decide), chI_nat 3 2 (by decide) (by decide), if_neg (by decide), binom_Block_spec _ _ 3 (by decide), chI_nat 3 2 (by decide) (by decide), if_pos (by decide), binom_Choose_spec, show (5 : Int) = ((5 : Nat) : Int) from rfl, chI_nat 5 2 (by decide) (by decide), sel_pos (by decide), binom_Choose_spec, ch_62, sel_pos (by decide), binom_Width_spec]
  have e : widI ((5 : Nat) : Int) ((2 : Nat) : Int) = 4 := by unfold widI; rw [chI_nat 5 2 (by decide) (by decide)]; decide +kernel
  have e2 : pc 6 3 = 2 := by decide +kernel
  have e3 : offN 6 3 = 2 := by decide +kernel
  have e4 : blkN 3 2 2 = 6 := by decide +kernel
  rw [e, sel_pos (by decide), e2, sel_pos (by decide), e3, sel_pos (by decide), Int.toNat_natCast, Int.toNat_natCast, e4, sel_pos (by decide)]
  rfl
/-! ### BinomTells -/
theorem BinomTells_true (n k : Int) (x off : Nat) (hx : x < 2 ^ 64) (ho : off < 2 ^ 64) (K : Bool → Option R) : haystacklaw06_BinomTells n k (x : Int) (off : Int) K = K true := by
  rw [haystacklaw06_BinomTells_unf]; unfold haystacklaw06_BinomTells_B
  have fin : ∀ (a b : Int), (binom_Block n k (off : Int) fun n243 b244 => haystackref06_Block n k (off : Int) fun n263 b264 => binom_Choose n k fun n265 => haystackref06_Choose n k fun n266 => sel (decide (n265 = n266)) (binom_Width n k fun n267 => haystackref06_Width n k fun n276 => sel (decide (n267 = n276)) (sel (decide (a = a)) (sel (decide (b = b)) (sel (decide (n243 = n263)) (sel (b244 == b264) (haystacklaw06_heads fun b277 => K b277) (K false)) (K false)) (K false)) (K false)) (K false)) (K false)) = K true := fun a b => by
    rw [binom_Block_spec _ _ _ ho, haystackref06_Block_spec _ _ _ ho, haystackref06_Block_spec _ _ _ ho]
    split <;> rw [binom_Choose_spec, haystackref06_Choose_spec, sel_pos rfl, binom_Width_spec, haystackref06_Width_spec, sel_pos rfl, sel_pos rfl, sel_pos rfl, sel_pos rfl] <;> exact heads06_spec K
  by_cases h : n < 0 ∨ 62 < n
  · rw [binom_Offset_none _ _ h, haystackref06_Offset_none _ _ h]
    exact fin _ _
  · obtain ⟨m, rfl⟩ : ∃ m : Nat, n = (m : Int) := ⟨n.toNat, by omega⟩
    rw [binom_Offset_spec x hx m (by omega), haystackref06_Offset_spec x hx m (by omega)]
    exact fin _ _
abbrev BinomTells_pas : List Pa := [.one (.int .i64), .one (.int .i64), .one (.int .u64), .one (.int .u64)]
theorem BinomTells_law : ∀ vs, pasHas BinomTells_pas vs → sp5 vs AV some = some (.bool true) := by
  rintro vs ⟨_, _, rfl, ⟨n, rfl, _⟩, _, _, rfl, ⟨k, rfl, _⟩, _, _, rfl, ⟨x, rfl, hx⟩, _, _, rfl, ⟨off, rfl, ho⟩, rfl⟩
  obtain ⟨x, rfl, hx2⟩ := nat_u64 hx
  obtain ⟨off, rfl, ho2⟩ := nat_u64 ho
  exact BinomTells_true n k x off hx2 ho2 _
/-! ### BinomBack -/
theorem low_mask {n : Nat} (h : n ≤ 62) : subW .u64 (shlW .u64 1 (cvtW .u64 ((n : Nat) : Int))) 1 = ((2 ^ n - 1 : Nat) : Int) := by
  have hp : 2 ^ n ≤ 2 ^ 62 := Nat.pow_le_pow_right (by decide) h
  have := Nat.two_pow_pos n
  rw [cvtW_u64 (by omega) (by omega), show (1 : Int) = ((1 : Nat) : Int) from rfl, shlW_u64 _ _ (by omega), Nat.one_mul, Nat.mod_eq_of_lt (by omega), subW_u64 (by omega) (by omega)]; omega
theorem and_low_mask {x n : Nat} (hx : x < 2 ^ 64) (h : n ≤ 62) : andW .u64 (x : Int) (subW .u64 (shlW .u64 1 (cvtW .u64 ((n : Nat) : Int))) 1) = ((x % 2 ^ n : Nat) : Int) := by
  have hp : 2 ^ n ≤ 2 ^ 62 := Nat.pow_le_pow_right (by decide) h
  rw [low_mask h, andW_u64 _ _ hx (by omega), Nat.and_two_pow_sub_one_eq_mod]
theorem BinomBack_true (x : Nat) (hx : x < 2 ^ 64) (n : Int) (K : Bool → Option R) : haystacklaw06_BinomBack (x : Int) n K = K true := by
  rw [haystacklaw06_BinomBack_unf]; unfold haystacklaw06_BinomBack_B
  by_cases h1 : n < 0
  · rw [sel_pos h1, heads06_spec]
  by_cases h2 : 62 < n
  · rw [sel_neg h1, sel_pos h2, heads06_spec]
  obtain ⟨m, rfl⟩ : ∃ m : Nat, n = (m : Int) := ⟨n.toNat, by omega⟩
  have hlt := offN_lt x m
  have hcl := ch_lt (n := m) (k := pc x m) (by omega)
  have ec := chI_nat m (pc x m) (by omega) (pc_le x m)
  rw [sel_neg h1, sel_neg h2, haystacklaw06_BinomBack_j4_unf]; unfold haystacklaw06_BinomBack_j4_B
  rw [binom_Offset_spec x hx m (by omega), binom_Block_spec _ _ _ (by omega), ec, if_neg (by omega), Ev.sel_true, sel_pos (by rw [cvtW_u64 (by omega) (by omega)]; omega), and_low_mask hx (by omega), Int.toNat_natCast, Int.toNat_natCast, blkN_off, sel_pos rfl, binom_Choose_spec, ec, sel_pos (by omega), haystackref01_Len_spec _ (by omega), binom_Width_spec]
  have hw : bitLen (offN x m) ≤ widI (m : Int) ((pc x m : Nat) : Int) := by
    unfold widI
    rw [ec, if_neg (by omega)]
    exact bitLen_mono (by omega)
  rw [sel_pos (by omega), heads06_spec]
abbrev BinomBack_pas : List Pa := [.one (.int .u64), .one (.int .i64)]
theorem BinomBack_law : ∀ vs, pasHas BinomBack_pas vs → sp6 vs AV some = some (.bool true) := by
  rintro vs ⟨_, _, rfl, ⟨x, rfl, hx⟩, _, _, rfl, ⟨n, rfl, _⟩, rfl⟩
  obtain ⟨x, rfl, hx2⟩ := nat_u64 hx
  exact BinomBack_true x hx2 n _
/-! ### BinomOrder -/
theorem BinomOrder_true (x y : Nat) (hx : x < 2 ^ 64) (hy : y < 2 ^ 64) (n : Int) (K : Bool → Option R) : haystacklaw06_BinomOrder (x : Int) (y : Int) n K = K true := by
  rw [haystacklaw06_BinomOrder_unf]; unfold haystacklaw06_BinomOrder_B
  by_cases h1 : n < 0
  · rw [sel_pos h1, heads06_spec]
  by_cases h2 : 62 < n
  · rw [sel_neg h1, sel_pos h2, heads06_spec]
  obtain ⟨m, rfl⟩ : ∃ m : Nat, n = (m : Int) := ⟨n.toNat, by omega⟩
  have hp : 2 ^ m ≤ 2 ^ 62 := Nat.pow_le_pow_right (by decide) (by omega)
  have lx := Nat.mod_lt x (Nat.two_pow_pos m)
  have ly := Nat.mod_lt y (Nat.two_pow_pos m)
  obtain ⟨x1, x2⟩ := offN_mod x m m (Nat.le_refl _)
  obtain ⟨y1, y2⟩ := offN_mod y m m (Nat.le_refl _)
  rw [sel_neg h1, sel_neg h2, haystacklaw06_BinomOrder_j4_unf]; unfold haystacklaw06_BinomOrder_j4_B
  rw [sel_pos (by rw [cvtW_u64 (by omega) (by omega)]; omega), sel_pos (by rw [cvtW_u64 (by omega) (by omega)]; omega), and_low_mask hx (by omega), and_low_mask hy (by omega), binom_Offset_spec _ (by omega) m (by omega), binom_Offset_spec _ (by omega) m (by omega), x1, x2, y1, y2]
  by_cases h : pc x m = pc y m
  · obtain ⟨o1, o2⟩ := offN_order x y m h
    have d1 : (decide (((x % 2 ^ m : Nat) : Int) < ((y % 2 ^ m : Nat) : Int)) == decide (((offN x m : Nat) : Int) < ((offN y m : Nat) : Int))) = true := by
      rw [beq_iff_eq, decide_eq_decide]; omega
    have d2 : (decide (((x % 2 ^ m : Nat) : Int) = ((y % 2 ^ m : Nat) : Int)) == decide (((offN x m : Nat) : Int) = ((offN y m : Nat) : Int))) = true := by
      rw [beq_iff_eq, decide_eq_decide]; omega
    have d0 : (!decide (((pc x m : Nat) : Int) = ((pc y m : Nat) : Int))) = false := by rw [h]; simp
    rw [d0, Ev.sel_false, letV_eq, d1, Ev.sel_true, letV_eq, d2, Ev.sel_true, heads06_spec]
  · have d0 : (!decide (((pc x m : Nat) : Int) = ((pc y m : Nat) : Int))) = true := by
      rw [decide_eq_false (by omega)]; rfl
    rw [d0, Ev.sel_true, heads06_spec]
abbrev BinomOrder_pas : List Pa := [.one (.int .u64), .one (.int .u64), .one (.int .i64)]
theorem BinomOrder_law : ∀ vs, pasHas BinomOrder_pas vs → sp7 vs AV some = some (.bool true) := by
  rintro vs ⟨_, _, rfl, ⟨x, rfl, hx⟩, _, _, rfl, ⟨y, rfl, hy⟩, _, _, rfl, ⟨n, rfl, _⟩, rfl⟩
  obtain ⟨x, rfl, hx2⟩ := nat_u64 hx
  obtain ⟨y, rfl, hy2⟩ := nat_u64 hy
  exact BinomOrder_true x y hx2 hy2 n _
/-! ### BinomSums -/
theorem BinomSums_true (n k : Int) (K : Bool → Option R) : haystacklaw06_BinomSums n k K = K true := by
  have j3 : ∀ (K1 : Int → Int → Option R), haystacklaw06_BinomSums_j3 n k true (fun b => K b) K1 = K true := fun K1 => by
    rw [haystacklaw06_BinomSums_j3_unf]; unfold haystacklaw06_BinomSums_j3_B
    have e1 : chI 63 1 = 0 := by decide
    have e2 : chI 5 6 = 0 := by decide
    rw [Ev.sel_true, binom_Choose_spec, e1, sel_pos (by omega), binom_Choose_spec, e2, sel_pos (by omega), heads06_spec]
  have j3' : ∀ (K1 : Int → Int → Option R), haystacklaw06_BinomSums_j3 n k false (fun b => K b) K1 = K1 n k := fun K1 => by
    rw [haystacklaw06_BinomSums_j3_unf]; unfold haystacklaw06_BinomSums_j3_B
    rw [Ev.sel_false]
  rw [haystacklaw06_BinomSums_unf]; unfold haystacklaw06_BinomSums_B
  by_cases h1 : n < 1
  · rw [sel_pos h1, j3]
  by_cases h2 : 62 < n
  · rw [sel_neg h1, sel_pos h2, j3]
  by_cases h3 : k < 0
  · rw [sel_neg h1, sel_neg h2, sel_pos h3, j3]
  by_cases h4 : n < k
  · rw [sel_neg h1, sel_neg h2, sel_neg h3, decide_eq_true h4, j3]
  rw [sel_neg h1, sel_neg h2, sel_neg h3, decide_eq_false h4, j3', haystacklaw06_BinomSums_j4_unf]; unfold haystacklaw06_BinomSums_j4_B
  obtain ⟨a, rfl⟩ : ∃ a : Nat, n = ((a + 1 : Nat) : Int) := ⟨n.toNat - 1, by omega⟩
  obtain ⟨b, rfl⟩ : ∃ b : Nat, k = (b : Int) := ⟨k.toNat, by omega⟩
  have hs := ch_sym (a + 1) b (by omega)
  have c1 := ch_lt (n := a) (k := b) (by omega)
  have c2 := ch_lt (n := a) (k := b - 1) (by omega)
  have e : chI ((a : Int)) ((b : Int) - 1) = if b = 0 then 0 else ch a (b - 1) := by
    by_cases h0 : b = 0
    · subst h0; rw [if_pos rfl]; unfold chI; rw [if_neg (by omega)]
    · rw [if_neg h0, show (b : Int) - 1 = ((b - 1 : Nat) : Int) by omega]
      exact chI_nat' a (b - 1) (by omega)
  have ep : ch (a + 1) b = ch a b + (if b = 0 then 0 else ch a (b - 1)) := by
    cases b with
    | zero => rw [ch_zero, ch_zero]; rfl
    | succ b => rw [if_neg (by omega), ch, Nat.add_sub_cancel]; omega
  have c3 : (if b = 0 then 0 else ch a (b - 1)) ≤ 4611686018427387904 := by split <;> omega
  rw [subW_i64 (by omega) (by omega), subW_i64 (by omega) (by omega), subW_i64 (by omega) (by omega), show ((a + 1 : Nat) : Int) - 1 = (a : Int) by omega, show ((a + 1 : Nat) : Int) - (b : Int) = ((a + 1 - b : Nat) : Int) by omega, binom_Choose_spec, binom_Choose_spec, binom_Choose_spec, e, chI_nat' a b (by omega), chI_nat' (a + 1) b (by omega), addW_u64 (by omega) (by omega), sel_pos (by omega), binom_Choose_spec, binom_Choose_spec, chI_nat' (a + 1) b (by omega), chI_nat' (a + 1) (a + 1 - b) (by omega), sel_pos (by omega), heads06_spec]
abbrev BinomSums_pas : List Pa := [.one (.int .i64), .one (.int .i64)]
theorem BinomSums_law : ∀ vs, pasHas BinomSums_pas vs → sp8 vs AV some = some (.bool true) := by
  rintro vs ⟨_, _, rfl, ⟨n, rfl, _⟩, _, _, rfl, ⟨k, rfl, _⟩, rfl⟩
  exact BinomSums_true n k _
/-! ### BinomEnds -/
theorem BinomEnds_true (n k : Int) (K : Bool → Option R) : haystacklaw06_BinomEnds n k K = K true := by
  rw [haystacklaw06_BinomEnds_unf]; unfold haystacklaw06_BinomEnds_B
  by_cases h1 : n < 0
  · rw [sel_pos h1, heads06_spec]
  by_cases h2 : 62 < n
  · rw [sel_neg h1, sel_pos h2, heads06_spec]
  by_cases h3 : k < 0
  · rw [sel_neg h1, sel_neg h2, sel_pos h3, heads06_spec]
  by_cases h4 : n < k
  · rw [sel_neg h1, sel_neg h2, sel_neg h3, sel_pos h4, heads06_spec]
  obtain ⟨a, rfl⟩ : ∃ a : Nat, n = (a : Int) := ⟨n.toNat, by omega⟩
  obtain ⟨b, rfl⟩ : ∃ b : Nat, k = (b : Int) := ⟨k.toNat, by omega⟩
  have hp : 2 ^ b * 2 ^ (a - b) ≤ 2 ^ 62 := by rw [← Nat.pow_add]; exact Nat.pow_le_pow_right (by decide) (by omega)
  have hb := Nat.pow_le_pow_right (n := 2) (by decide) (show b ≤ 62 by omega)
  have hcp := ch_pos a b (by omega)
  have hcl := ch_lt (n := a) (k := b) (by omega)
  have hm : (2 ^ b - 1) * 2 ^ (a - b) ≤ 2 ^ b * 2 ^ (a - b) := Nat.mul_le_mul_right _ (Nat.sub_le _ _)
  rw [sel_neg h1, sel_neg h2, sel_neg h3, sel_neg h4, haystacklaw06_BinomEnds_j4_unf]; unfold haystacklaw06_BinomEnds_j4_B
  rw [sel_pos (by rw [cvtW_u64 (by omega) (by omega)]; omega), show (0 : Int) = ((0 : Nat) : Int) from rfl, binom_Block_spec _ _ 0 (by decide), chI_nat a b (by omega) (by omega), if_neg (by omega), binom_Choose_spec, chI_nat a b (by omega) (by omega), subW_u64 (by omega) (by omega), show ((ch a b : Nat) : Int) - 1 = ((ch a b - 1 : Nat) : Int) by omega, binom_Block_spec _ _ _ (by omega), chI_nat a b (by omega) (by omega), if_neg (by omega), binom_Choose_spec, chI_nat a b (by omega) (by omega), binom_Block_spec _ _ _ (by omega), chI_nat a b (by omega) (by omega), if_pos (Nat.le_refl _),
    Ev.sel_true, Ev.sel_true, Bool.not_false, Ev.sel_true, low_mask (by omega), Int.toNat_natCast, Int.toNat_natCast, blkN_first a b (by omega), sel_pos rfl, subW_i64 (by omega) (by omega), show (a : Int) - (b : Int) = ((a - b : Nat) : Int) by omega, cvtW_u64 (by omega) (by omega), sel_pos (by omega), shlW_u64 _ _ (by omega), Nat.mod_eq_of_lt (by omega), blkN_last a b (by omega), letV_eq, decide_eq_true rfl, Ev.sel_true, heads06_spec]
abbrev BinomEnds_pas : List Pa := [.one (.int .i64), .one (.int .i64)]
theorem BinomEnds_law : ∀ vs, pasHas BinomEnds_pas vs → sp4 vs AV some = some (.bool true) := by
  rintro vs ⟨_, _, rfl, ⟨n, rfl, _⟩, _, _, rfl, ⟨k, rfl, _⟩, rfl⟩
  exact BinomEnds_true n k _
/-! ### BinomAll -/
theorem wid_facts (c : Nat) (h0 : 0 < c) (h1 : c ≤ 4611686018427387904) : bitLen (c - 1) ≤ 62 ∧ (c - 1) / 2 ^ bitLen (c - 1) = 0 ∧ (0 < bitLen (c - 1) → (c - 1) / 2 ^ (bitLen (c - 1) - 1) ≠ 0) := by
  obtain ⟨b1, b2⟩ := bitLen_spec (c - 1)
  refine ⟨bitLen_le (by omega), Nat.div_eq_of_lt b1, fun h => ?_⟩
  have hx : c - 1 ≠ 0 := by
    intro e; rw [e, bitLen_zero] at h; omega
  have := Nat.div_pos (b2 hx) (Nat.two_pow_pos _)
  omega
theorem BinomAll_loop (n : Nat) (hn : n ≤ 62) (K0 : Bool → Option R) (K1 : Int → Int → Option R) : ∀ (N k : Nat), k ≤ n + 1 → n + 1 - k < N → haystacklaw06_BinomAll_l6_L K0 K1 N (n : Int) ((chS n k : Nat) : Int) (k : Int) = K1 (n : Int) ((2 ^ n : Nat) : Int)
  | 0, _, _, h => by omega
  | N + 1, k, h1, h2 => by
    simp only [haystacklaw06_BinomAll_l6_L, haystacklaw06_BinomAll_l6_T]
    by_cases h : k ≤ n
    · have hcp := ch_pos n k h
      have hcl := ch_lt (n := n) (k := k) hn
      obtain ⟨w1, w2, w3⟩ := wid_facts (ch n k) hcp hcl
      have ew : widI (n : Int) (k : Int) = bitLen (ch n k - 1) := by unfold widI; rw [chI_nat n k hn h, if_neg (by omega)]
      have hs : chS n (k + 1) ≤ 2 ^ n := by rw [← chS_all n]; exact chS_mono n (by omega)
      have hp : 2 ^ n ≤ 2 ^ 62 := Nat.pow_le_pow_right (by decide) hn
      have es : chS n (k + 1) = chS n k + ch n k := rfl
      have j12 : ∀ (K : Int → Int → Int → Option R), haystacklaw06_BinomAll_j12 (n : Int) ((chS n k : Nat) : Int) (k : Int) ((ch n k : Nat) : Int) K = K (n : Int) ((chS n (k + 1) : Nat) : Int) (k : Int) := fun K => by
        rw [haystacklaw06_BinomAll_j12_unf]; unfold haystacklaw06_BinomAll_j12_B
        rw [addW_u64 (by omega) (by omega), es, Int.natCast_add]
      have ih := BinomAll_loop n hn K0 K1 N (k + 1) (by omega) (by omega)
      rw [sel_pos (by omega), binom_Choose_spec, chI_nat n k hn h, binom_Width_spec, ew]
      generalize bitLen (ch n k - 1) = w at *
      rw [sel_neg (by omega), sel_neg (by omega), sel_neg (by omega), cvtW_u64 (by omega) (by omega), sel_pos (by omega), subW_u64 (by omega) (by omega), show ((ch n k : Nat) : Int) - 1 = ((ch n k - 1 : Nat) : Int) by omega, shrW_u64 _ _ (by omega), w2, sel_npos (by omega)]
      by_cases h0 : 0 < w
      · have w3 := w3 h0
        rw [sel_pos (by omega), subW_i64 (by omega) (by omega), cvtW_u64 (by omega) (by omega), sel_pos (by omega), show ((w : Nat) : Int) - 1 = ((w - 1 : Nat) : Int) by omega, shrW_u64 _ _ (by omega), sel_neg (by omega), j12, addW_i64 (by omega) (by omega), show (k : Int) + 1 = ((k + 1 : Nat) : Int) by omega]
        exact ih
      · rw [sel_neg (by omega), j12, addW_i64 (by omega) (by omega), show (k : Int) + 1 = ((k + 1 : Nat) : Int) by omega]
        exact ih
    · have : k = n + 1 := by omega
      subst this
      rw [sel_neg (by omega), chS_all]
theorem BinomAll_true (n : Int) (K : Bool → Option R) : haystacklaw06_BinomAll n K = K true := by
  have j3 : ∀ (K1 : Int → Option R), chI n 0 = 0 → haystacklaw06_BinomAll_j3 n true (fun b => K b) K1 = K true := fun K1 h => by
    rw [haystacklaw06_BinomAll_j3_unf]; unfold haystacklaw06_BinomAll_j3_B
    rw [Ev.sel_true, binom_Choose_spec, h, sel_pos (by omega), heads06_spec]
  have j3' : ∀ (K1 : Int → Option R), haystacklaw06_BinomAll_j3 n false (fun b => K b) K1 = K1 n := fun K1 => by
    rw [haystacklaw06_BinomAll_j3_unf]; unfold haystacklaw06_BinomAll_j3_B
    rw [Ev.sel_false]
  rw [haystacklaw06_BinomAll_unf]; unfold haystacklaw06_BinomAll_B
  by_cases h1 : n < 0
  · rw [sel_pos h1, j3 _ (by unfold chI; rw [if_neg (by omega)])]
  by_cases h2 : 62 < n
  · rw [sel_neg h1, decide_eq_true h2, j3 _ (by unfold chI; rw [if_neg (by omega)])]
  rw [sel_neg h1, decide_eq_false h2, j3', haystacklaw06_BinomAll_j4_unf]; unfold haystacklaw06_BinomAll_j4_B
  obtain ⟨a, rfl⟩ : ∃ a : Nat, n = (a : Int) := ⟨n.toNat, by omega⟩
  have hp : 2 ^ a ≤ 2 ^ 62 := Nat.pow_le_pow_right (by decide) (by omega)
  rw [haystacklaw06_BinomAll_l6_unf]; unfold haystacklaw06_BinomAll_l6_B
  refine (BinomAll_loop a (by omega) _ _ NR 0 (by omega) (by have := NR_lt; omega)).trans ?_
  rw [cvtW_u64 (by omega) (by omega), sel_pos (by omega), show (1 : Int) = ((1 : Nat) : Int) from rfl, shlW_u64 _ _ (by omega), Nat.one_mul, Nat.mod_eq_of_lt (by omega), sel_pos rfl, heads06_spec]
abbrev BinomAll_pas : List Pa := [.one (.int .i64)]
theorem BinomAll_law : ∀ vs, pasHas BinomAll_pas vs → sp3 vs AV some = some (.bool true) := by
  rintro vs ⟨_, _, rfl, ⟨n, rfl, _⟩, rfl⟩
  exact BinomAll_true n _
end
end Go.Proofs.Ytginjngnmboglaa
