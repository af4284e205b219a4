/- Layer 7: the laws of rows of bits with counts beside them are true, whatever the input. -/
import Derived.Test.YtllgdcepgelahaaDoorPlainRef
namespace Go.Proofs.YtllgdcepgelahaaDoor
open Go Go.Ev
section
variable {R : Type}
theorem bits_Check_r_lit (K : Bool → List Int → Option R) : bits_Check_r 5 1 [22] K = K true [22] := by
  rw [bits_Check_r_unf]; unfold bits_Check_r_B
  rw [sel_neg (by omega), sel_neg (by omega), bits_words_spec 5 (by omega) (by omega), sel_npos (by decide), bits_Check_j4_unf]
  unfold bits_Check_j4_B
  have r5 : remW 5 64 = 5 := by rw [remW_nat' (by omega)]; rfl
  have an : andNotW .u64 ((22 : Nat) : Int) ((maskN 5 : Nat) : Int) = 0 := by rw [andNotW_u64 _ _ (by decide) (maskN_lt _)]; decide +kernel
  rw [r5, sel_neg (by decide), subW_i64 (by decide) (by decide), sel_pos (by decide), sel_pos (by decide), sel_pos (by decide), word_Mask_spec _ (by omega) (by omega), letV_eq]
  rw [show List.getD [(22 : Int)] (Int.toNat (((1 : Nat) : Int) - 1)) 0 = ((22 : Nat) : Int) from rfl, an]
  rfl
theorem plain_Build_r_lit (K0 : Int → Int → List Int → Option R) (K1 : Int → Nat → Nat → Nat → Int → List Int → List Int → List Int → Option R) (K2 : Int → Nat → Nat → Int → List Int → List Int → Option R) (K3 : Int → Nat → Int → List Int → Option R) :
    plain_Build_r 5 1 [22] K0 K1 K2 K3 = K1 5 1 1 1 0 [22] [0] [0] := by
  rw [plain_Build_r_unf]; unfold plain_Build_r_B
  rw [bits_Check_r_lit, Bool.not_true, Ev.sel_false, plain_Build_l7_unf]
  unfold plain_Build_l7_B
  obtain ⟨N, hN⟩ : ∃ N, NR = N + 3 := ⟨NR - 3, by have := NR_lt; omega⟩
  have q0 : quoW .i64 0 8 = 0 := by rw [quoW_nat (by omega) (by omega) (by omega)]; rfl
  have r0 : remW 0 8 = 0 := by rw [remW_nat' (by omega)]; rfl
  have r1 : remW 1 8 = 1 := by rw [remW_nat' (by omega)]; rfl
  have a01 : addW .i64 0 1 = 1 := by rw [addW_i64 (by omega) (by omega)]; rfl
  have a11 : addW .i64 1 1 = 2 := by rw [addW_i64 (by omega) (by omega)]; rfl
  have m0 : mulW .i64 0 64 = 0 := by rw [mulW_i64 (by omega) (by omega)]; rfl
  have s0 : subW .i64 0 0 = 0 := by rw [subW_i64 (by omega) (by omega)]; rfl
  have pop : ∀ K : Int → Option R, word_Pop 22 K = K 3 := fun K => by
    rw [show (22 : Int) = ((22 : Nat) : Int) from rfl, word_Pop_spec 22 (by decide)]; rfl
  rw [hN]
  simp [plain_Build_l7_L, plain_Build_l7_T, plain_Build_l7_1_L, plain_Build_l7_1_T, plain_Build_j10_unf, plain_Build_j10_B, plain_Build_j11_unf, plain_Build_j11_B, plain_Build_j10_1_unf, plain_Build_j10_1_B, plain_Build_j11_1_unf, plain_Build_j11_1_B, q0, r0, r1, a01, a11, m0, s0, pop, letV_eq, Ev.sel_true, Ev.sel_false]
theorem ref_Same_r_loop7 (n m : Int) (a b : List Int) (h : a.length = b.length) (ha : a.length < 4000000000) (K0 : Bool → List Int → Option R) (K1 : List Int → Option R) : ∀ (N j : Nat), j ≤ a.length → a.length - j < N →
    haystackref02_Same_l5_L K0 K1 N (j : Int) b n a m b.length = if a.drop j = b.drop j then K1 b else K0 false b
  | 0, _, _, h => by omega
  | N + 1, j, hj, hN => by
    simp only [haystackref02_Same_l5_L, haystackref02_Same_l5_T]
    by_cases h1 : j < a.length
    · rw [sel_pos (by omega), sel_pos (by omega), sel_pos (by omega), sel_pos (by omega), sel_pos (by omega), Int.toNat_natCast, sel_pos (by omega), addW_i64 (by omega) (by omega), show (j : Int) + 1 = ((j + 1 : Nat) : Int) by omega]
      by_cases h2 : a.getD j 0 = b.getD j 0
      · rw [sel_npos h2, ref_Same_r_loop7 n m a b h ha K0 K1 N (j + 1) (by omega) (by omega)]
        simp only [drop_eq_iff a b h j h1, h2, true_and]
      · rw [sel_nneg h2]
        simp only [drop_eq_iff a b h j h1, h2, false_and, if_false]
    · rw [sel_neg (by omega), List.drop_of_length_le (by omega), List.drop_of_length_le (by omega), if_pos rfl]
theorem ref_Same_r7 (n m : Int) (a b : List Int) (ha : a.length < 4000000000) (l : Nat) (hl : l = b.length) (K : Bool → List Int → Option R) : haystackref02_Same_r n a m l b K = K (decide (n = m ∧ a = b)) b := by
  subst hl
  rw [haystackref02_Same_r_unf]; unfold haystackref02_Same_r_B
  by_cases h1 : n = m
  · rw [sel_npos h1]
    by_cases h2 : a.length = b.length
    · rw [sel_npos (by omega), haystackref02_Same_j4_unf]
      unfold haystackref02_Same_j4_B
      rw [haystackref02_Same_l5_unf]
      unfold haystackref02_Same_l5_B
      refine (ref_Same_r_loop7 n m a b h2 ha _ _ NR 0 (by omega) (by have := NR_lt; omega)).trans ?_
      simp only [List.drop_zero, h1, true_and]
      split <;> simp_all
    · rw [sel_nneg (by omega)]
      congr 1
      have : ¬ (n = m ∧ a = b) := by rintro ⟨_, rfl⟩; exact h2 rfl
      simp [this]
  · rw [sel_nneg h1]
    simp [h1]
theorem heads07_spec (K : Bool → Option R) : haystacklaw07_heads K = K true := by
  have w22 : Ws [22] := ⟨by decide, by decide⟩
  have w0 : Ws [] := ⟨by decide, by decide⟩
  have a1 : okP 5 [22] [0] [0] = true := by decide +kernel
  have a2 : getS 5 [22] 4 = (true, 0) := by decide +kernel
  have a3 : rankP 5 [22] [0] [0] true 4 = (2, 0) := by decide +kernel
  have a4 : selP 5 [22] [0] [0] true 2 = (4, 0) := by decide +kernel
  have a5 : selP 5 [22] [0] [0] false 1 = (3, 0) := by decide +kernel
  have a6 : selP 5 [22] [0] [0] true 3 = (0, 3) := by decide +kernel
  have a7 : okRow 1 [] = false := by decide +kernel
  have a8 : sizeP 5 [22] [0] [0] = 53 := by decide +kernel
  have b1 : ∀ K : Int → List Int → List Int → List Int → Int → Option R, plain_Build 1 [] K = K 0 [] [] [] 2 := fun K => (plain_Build_spec 1 [] w0 K).trans (by rw [a7]; rfl)
  rw [haystacklaw07_heads_unf]; unfold haystacklaw07_heads_B
  rw [plain_Build_r_lit, sel_pos (by rfl), sel_pos (by rfl), sel_pos (by rfl)]
  rw [show [(22 : Int)] = ci [22] from rfl, plain_Access_spec 5 [22] w22 [0] [0] (by decide) (by decide) 4 (by decide) (by decide), a1, if_pos rfl, a2]
  dsimp only
  rw [haystacklaw07_heads_j4_1_unf]; unfold haystacklaw07_heads_j4_1_B
  rw [plain_Rank_spec 5 [22] w22 [0] [0] (by decide) (by decide), a3]
  dsimp only
  rw [plain_Select_spec 5 [22] w22 [0] [0] (by decide) (by decide), a4]
  dsimp only
  rw [plain_Select_spec 5 [22] w22 [0] [0] (by decide) (by decide), a5]
  dsimp only
  rw [plain_Select_spec 5 [22] w22 [0] [0] (by decide) (by decide), a6]
  dsimp only
  rw [b1]
  rw [sel_pos rfl, Ev.sel_true, sel_pos rfl, sel_pos rfl, sel_pos rfl, sel_pos rfl, sel_pos rfl, sel_pos rfl, sel_pos rfl, sel_pos rfl, sel_pos rfl, plain_Check_spec 5 [22] w22 [0] [0] (by decide) (by decide), a1, Ev.sel_true, plain_Size_spec 5 [22] w22 [0] [0] (by decide) (by decide), a8, sel_pos (by decide), plain_Bits_spec 5 [22] w22 [0] [0] (by decide) (by decide), a1, if_pos rfl, ref_Same_r7 _ _ _ _ (by decide) _ (by rfl)]
  rfl
/-- what is read of one -/
def accP (n : Int) (ws : List Nat) (us vs : List Int) (i : Int) : Bool × Int := if okP n ws us vs = true then getS n ws i else (false, 2)
theorem plain_Access_acc (n : Int) (ws : List Nat) (hw : Ws ws) (us vs : List Int) (hu : us.length < 4000000000) (hv : vs.length < 4000000000) (i : Int) (h1 : -9223372036854775808 ≤ i) (h2 : i ≤ 9223372036854775807) (K : Bool → Int → Option R) : plain_Access n (ci ws) us vs i K = K (accP n ws us vs i).1 (accP n ws us vs i).2 := by
  rw [plain_Access_spec n ws hw us vs hu hv i h1 h2]; unfold accP
  cases okP n ws us vs <;> rfl
theorem ref7_Access_acc (n : Int) (ws : List Nat) (hw : Ws ws) (us vs : List Int) (hu : us.length < 4000000000) (hv : vs.length < 4000000000) (i : Int) (K : Bool → Int → Option R) : haystackref07_Access n (ci ws) us vs i K = K (accP n ws us vs i).1 (accP n ws us vs i).2 := by
  rw [haystackref07_Access_spec n ws hw us vs hu hv i]; unfold accP
  cases okP n ws us vs <;> rfl
theorem rankP_wds (l : List Bool) (hl : l.length ≤ 1048576) (bit : Bool) (i : Nat) (hi : i ≤ l.length) : rankP (l.length : Int) (wds l) (supF l) (subF l) bit (i : Int) = (((cntOf l bit i : Nat) : Int), 0) := by
  unfold rankP
  rw [if_pos (okP_wds l hl), if_neg (by omega), rowB_wds, Int.toNat_natCast]
theorem accP_wds (l : List Bool) (hl : l.length ≤ 1048576) (i : Nat) (hi : i < l.length) : accP (l.length : Int) (wds l) (supF l) (subF l) (i : Int) = (l.getD i false, 0) := by
  unfold accP
  rw [if_pos (okP_wds l hl), getS_wds l hl, if_neg (by omega), Int.toNat_natCast]
theorem selP_wds (l : List Bool) (hl : l.length ≤ 1048576) (bit : Bool) (k : Nat) : selP (l.length : Int) (wds l) (supF l) (subF l) bit (k : Int) = match placeB l bit k with | some i => ((i : Int), 0) | none => (0, 3) := by
  unfold selP
  rw [if_pos (okP_wds l hl), if_neg (by omega), rowB_wds, Int.toNat_natCast]
  cases placeB l bit k <;> rfl
/-- a law speaks of short rows that may be -/
theorem guard07 {n : Int} {ws : List Nat} (hw : ∀ w ∈ ws, w < 2 ^ 64) {X : Option R} {K : Bool → Option R} (H : ∀ l : List Bool, n = (l.length : Int) → ws = wds l → l.length ≤ 3000 → X = K true) :
    sel (decide (3000 < n)) (haystacklaw07_heads fun b => K b) (sel (decide (3000 < (((ci ws).length : Nat) : Int))) (haystacklaw07_heads fun b => K b) (haystackref02_Check n (ci ws) fun b => sel (!b) (haystacklaw07_heads fun b => K b) X)) = K true := by
  by_cases h1 : 3000 < n
  · rw [sel_pos h1, heads07_spec]
  rw [sel_neg h1, ci_length]
  by_cases h2 : 3000 < ((ws.length : Nat) : Int)
  · rw [sel_pos h2, heads07_spec]
  have hW : Ws ws := ⟨hw, by omega⟩
  rw [sel_neg h2, haystackref02_Check_spec n ws hW]
  cases hok : okRow n ws with
  | false => rw [Bool.not_false, Ev.sel_true, heads07_spec]
  | true =>
    obtain ⟨l, h3, h4, h5⟩ := okRow_wds hok hw
    rw [Bool.not_true, Ev.sel_false]
    exact H l h3 h4 (by omega)
theorem PlainCounts_true (n : Int) (ws : List Nat) (hw : ∀ w ∈ ws, w < 2 ^ 64) (i : Int) (K : Bool → Option R) : haystacklaw07_PlainCounts n (ci ws) i K = K true := by
  rw [haystacklaw07_PlainCounts_unf]; unfold haystacklaw07_PlainCounts_B
  refine guard07 hw fun l h1 h2 h3 => ?_
  subst h1 h2
  have hW := Ws.wds (l := l) (by omega)
  by_cases c1 : i < 0
  · rw [sel_pos c1, heads07_spec]
  rw [sel_neg c1]
  by_cases c2 : (l.length : Int) ≤ i
  · rw [sel_pos c2, heads07_spec]
  rw [sel_neg c2]
  obtain ⟨p, rfl⟩ : ∃ p : Nat, i = (p : Int) := ⟨i.toNat, by omega⟩
  have hu : (supF l).length < 4000000000 := by rw [supF_length]; omega
  have hv : (subF l).length < 4000000000 := by rw [subF_length]; omega
  have c3 := cntOf_add l p
  have c4 : cntOf l true (p + 1) = cntOf l true p + (l.getD p false == true).toNat := rfl
  rw [haystacklaw07_PlainCounts_j4_unf]; unfold haystacklaw07_PlainCounts_j4_B
  rw [plain_Build_spec _ _ hW, okRow_of l (by omega), if_pos rfl, rowB_wds, plain_Rank_spec _ _ hW _ _ hu hv, rankP_wds l (by omega) _ p (by omega)]
  dsimp only
  rw [plain_Rank_spec _ _ hW _ _ hu hv, rankP_wds l (by omega) _ p (by omega)]
  dsimp only
  rw [addW_i64 (a := (p : Int)) (by omega) (by omega), show (p : Int) + 1 = ((p + 1 : Nat) : Int) by omega, plain_Rank_spec _ _ hW _ _ hu hv, rankP_wds l (by omega) _ (p + 1) (by omega)]
  dsimp only
  rw [plain_Access_acc _ _ hW _ _ hu hv _ (by omega) (by omega), accP_wds l (by omega) p (by omega)]
  dsimp only
  rw [sel_pos rfl, sel_pos rfl, sel_pos rfl, sel_pos rfl, sel_pos rfl, addW_i64 (by omega) (by omega), sel_pos (by omega), addW_i64 (by omega) (by omega), c4]
  cases l.getD p false with
  | true =>
    rw [show (((cntOf l true p + (true == true).toNat : Nat)) : Int) = ((cntOf l true p : Nat) : Int) + 1 from rfl, decide_eq_true (show ((cntOf l true p : Nat) : Int) + 1 = ((cntOf l true p : Nat) : Int) + 1 from rfl), decide_eq_false (show ¬ ((cntOf l true p : Nat) : Int) + 1 = ((cntOf l true p : Nat) : Int) by omega), heads07_spec]
    rfl
  | false =>
    rw [show (((cntOf l true p + (false == true).toNat : Nat)) : Int) = ((cntOf l true p : Nat) : Int) from rfl, decide_eq_true (show ((cntOf l true p : Nat) : Int) = ((cntOf l true p : Nat) : Int) from rfl), decide_eq_false (show ¬ ((cntOf l true p : Nat) : Int) = ((cntOf l true p : Nat) : Int) + 1 by omega), heads07_spec]
    rfl
abbrev PlainCounts_pas : List Pa := [.st rowC, .one (.int .i64)]
theorem PlainCounts_law : ∀ vs, pasHas PlainCounts_pas vs → sp7 vs AV some = some (.bool true) := by
  rintro vs ⟨_, _, rfl, hr, _, _, rfl, ⟨i, rfl, _⟩, rfl⟩
  obtain ⟨n, ws, rfl, _, hw⟩ := row_has hr
  exact PlainCounts_true n ws hw i _
theorem PlainBuilds_true (n : Int) (ws : List Nat) (hw : ∀ w ∈ ws, w < 2 ^ 64) (K : Bool → Option R) : haystacklaw07_PlainBuilds n (ci ws) K = K true := by
  rw [haystacklaw07_PlainBuilds_unf]; unfold haystacklaw07_PlainBuilds_B
  by_cases h1 : 3000 < n
  · rw [sel_pos h1, heads07_spec]
  rw [sel_neg h1, ci_length]
  by_cases h2 : 3000 < ((ws.length : Nat) : Int)
  · rw [sel_pos h2, heads07_spec]
  have hW : Ws ws := ⟨hw, by omega⟩
  have w0 : Ws [] := ⟨by decide, by decide⟩
  have fin : ∀ (n : Int) (ws : List Nat) (hW : Ws ws) (h : ws.length ≤ 3000) (us vs : List Int) (hu : us.length < 4000000000) (hv : vs.length < 4000000000) (e : Int), haystackref07_Same n (ci ws) us vs n (ci ws) us vs (fun b1273 => sel b1273
     (sel (decide (e = e))
      (plain_Size n (ci ws) us vs
       (fun n1274 => haystackref07_Size n (ci ws) us vs
        (fun n1290 => sel (decide (n1274 = n1290))
         (haystacklaw07_heads 
          (fun b1291 => K (b1291)))
         (K (false)))))
      (K (false)))
     (K (false))) = K true := fun n ws hW h us vs hu hv e => by
    rw [haystackref07_Same_spec _ _ _ _ _ _ _ _ (by rw [ci_length]; omega) hu hv, decide_eq_true ⟨rfl, rfl⟩, decide_eq_true rfl, decide_eq_true rfl, Bool.and_self, Bool.and_self, Ev.sel_true, decide_eq_true rfl, Ev.sel_true, plain_Size_spec n ws hW us vs hu hv, haystackref07_Size_spec n ws hW us vs hu hv, sel_pos rfl, heads07_spec]
  rw [sel_neg h2, haystacklaw07_PlainBuilds_j4_unf]; unfold haystacklaw07_PlainBuilds_j4_B
  rw [plain_Build_spec n ws hW]
  cases hok : okRow n ws with
  | false =>
    rw [if_neg (by decide), haystackref07_Build_spec n ws hW, hok, if_neg (by decide)]
    exact fin 0 [] w0 (by decide) [] [] (by decide) (by decide) 2
  | true =>
    obtain ⟨l, rfl, rfl, hl⟩ := okRow_wds hok hw
    rw [if_pos rfl, haystackref07_Build_spec _ _ hW, hok, if_pos rfl]
    refine fin _ _ hW (by omega) _ _ ?_ ?_ 0
    · rw [rowB_wds, supF_length]; omega
    · rw [rowB_wds, subF_length]; omega
abbrev PlainBuilds_pas : List Pa := [.st rowC]
theorem PlainBuilds_law : ∀ vs, pasHas PlainBuilds_pas vs → sp8 vs AV some = some (.bool true) := by
  rintro vs ⟨_, _, rfl, hr, rfl⟩
  obtain ⟨n, ws, rfl, _, hw⟩ := row_has hr
  exact PlainBuilds_true n ws hw _
theorem small07_spec (n : Int) (xs us vs : List Int) (K : Bool → Option R) : haystacklaw07_small n xs us vs K = K (decide (n ≤ 3000 ∧ xs.length ≤ 3000 ∧ us.length ≤ 3000 ∧ vs.length ≤ 3000)) := by
  rw [haystacklaw07_small_unf]; unfold haystacklaw07_small_B
  by_cases h : n ≤ 3000
  · by_cases h2 : ((xs.length : Nat) : Int) ≤ 3000
    · by_cases h3 : ((us.length : Nat) : Int) ≤ 3000
      · rw [sel_pos h, sel_pos h2, sel_pos h3]; congr 1; rw [decide_eq_decide]; omega
      · rw [sel_pos h, sel_pos h2, sel_neg h3]; congr 1; rw [decide_eq_false (by omega)]
    · rw [sel_pos h, sel_neg h2]; congr 1; rw [decide_eq_false (by omega)]
  · rw [sel_neg h]; congr 1; rw [decide_eq_false (by omega)]
theorem PlainTells_true (n : Int) (ws : List Nat) (hw : ∀ w ∈ ws, w < 2 ^ 64) (us vs : List Int) (bit : Bool) (i : Int) (hi1 : -9223372036854775808 ≤ i) (hi2 : i ≤ 9223372036854775807) (K : Bool → Option R) : haystacklaw07_PlainTells n (ci ws) us vs bit i K = K true := by
  rw [haystacklaw07_PlainTells_unf]; unfold haystacklaw07_PlainTells_B
  rw [small07_spec, ci_length]
  by_cases h1 : n ≤ 3000 ∧ ws.length ≤ 3000 ∧ us.length ≤ 3000 ∧ vs.length ≤ 3000
  · have hW : Ws ws := ⟨hw, by omega⟩
    have w0 : Ws [] := ⟨by decide, by decide⟩
    have hu : us.length < 4000000000 := by omega
    have hv : vs.length < 4000000000 := by omega
    rw [decide_eq_true h1, Bool.not_true, Ev.sel_false, plain_Access_acc n ws hW us vs hu hv i hi1 hi2, haystacklaw07_PlainTells_j5_unf]
    unfold haystacklaw07_PlainTells_j5_B
    rw [ref7_Access_acc n ws hW us vs hu hv, plain_Rank_spec n ws hW us vs hu hv, haystackref07_Rank_spec n ws hW us vs hu hv, plain_Select_spec n ws hW us vs hu hv, haystackref07_Select_spec n ws hW us vs hu hv, beq_self_eq_true, Bool.not_true, Ev.sel_false, sel_npos rfl, sel_npos rfl, sel_npos rfl, sel_npos rfl, sel_npos rfl, haystacklaw07_PlainTells_j12_unf]
    unfold haystacklaw07_PlainTells_j12_B
    rw [plain_Check_spec n ws hW us vs hu hv, haystackref07_Check_spec n ws hW us vs hu hv, beq_self_eq_true, Ev.sel_true, plain_Size_spec n ws hW us vs hu hv, haystackref07_Size_spec n ws hW us vs hu hv, sel_pos rfl, plain_Bits_spec n ws hW us vs hu hv]
    cases hok : okP n ws us vs with
    | false =>
      rw [if_neg (by decide), haystackref07_Bits_spec n ws hW us vs hu hv, hok, if_neg (by decide), haystackref02_Same_spec _ _ _ _ (by decide), sel_pos ⟨rfl, rfl⟩, heads07_spec]
    | true =>
      rw [if_pos rfl, haystackref07_Bits_spec n ws hW us vs hu hv, hok, if_pos rfl, haystackref02_Same_spec _ _ _ _ (by rw [ci_length]; omega), sel_pos ⟨rfl, rfl⟩, heads07_spec]
  · rw [decide_eq_false h1, Bool.not_false, Ev.sel_true, heads07_spec]
abbrev plainC : List Sh := [.int .i64, .ints .u64, .ints .i64, .ints .i64]
theorem plain_has {v : AV} (h : Pa.has (.st plainC) v) : ∃ (n : Int) (ws : List Nat) (us vs : List Int), v = .agg (.any [.int .i64 n, .fsl (.ints .u64 (ci ws)), .fsl (.ints .i64 us), .fsl (.ints .i64 vs)]) ∧ (-9223372036854775808 ≤ n ∧ n ≤ 9223372036854775807) ∧ ∀ w ∈ ws, w < 2 ^ 64 := by
  obtain ⟨_, rfl, _, _, rfl, ⟨n, rfl, hn⟩, _, _, rfl, ⟨xs, rfl, _, hx⟩, _, _, rfl, ⟨us, rfl, _, _⟩, _, _, rfl, ⟨vs, rfl, _, _⟩, rfl⟩ := h
  obtain ⟨ws, rfl, hw⟩ := ci_of (xs := xs) fun x h => by
    exact has_u64 (hx x h)
  exact ⟨n, ws, us, vs, rfl, has_i64 hn, hw⟩
abbrev PlainTells_pas : List Pa := [.st plainC, .one .bool, .one (.int .i64)]
theorem PlainTells_law : ∀ vs, pasHas PlainTells_pas vs → sp9 vs AV some = some (.bool true) := by
  rintro vs ⟨_, _, rfl, hr, _, _, rfl, ⟨b, rfl⟩, _, _, rfl, ⟨i, rfl, hi⟩, rfl⟩
  obtain ⟨n, ws, us, vs, rfl, _, hw⟩ := plain_has hr
  exact PlainTells_true n ws hw us vs b i (has_i64 hi).1 (has_i64 hi).2 _
theorem PlainBack_true (n : Int) (ws : List Nat) (hw : ∀ w ∈ ws, w < 2 ^ 64) (bit : Bool) (k : Int) (K : Bool → Option R) : haystacklaw07_PlainBack n (ci ws) bit k K = K true := by
  rw [haystacklaw07_PlainBack_unf]; unfold haystacklaw07_PlainBack_B
  refine guard07 hw fun l h1 h2 h3 => ?_
  subst h1 h2
  have hW := Ws.wds (l := l) (by omega)
  have hu : (supF l).length < 4000000000 := by rw [supF_length]; omega
  have hv : (subF l).length < 4000000000 := by rw [subF_length]; omega
  rw [haystacklaw07_PlainBack_j4_unf]; unfold haystacklaw07_PlainBack_j4_B
  rw [plain_Build_spec _ _ hW, okRow_of l (by omega), if_pos rfl, rowB_wds, haystacklaw07_PlainBack_j5_unf]
  unfold haystacklaw07_PlainBack_j5_B
  rw [sel_npos rfl, plain_Check_spec _ _ hW _ _ hu hv, okP_wds l (by omega), Bool.not_true, Ev.sel_false, plain_Bits_spec _ _ hW _ _ hu hv, okP_wds l (by omega), if_pos rfl, haystackref02_Same_spec _ _ _ _ (by rw [ci_length, wds_length]; omega), sel_npos ⟨rfl, rfl⟩, haystacklaw07_PlainBack_j7_unf]
  unfold haystacklaw07_PlainBack_j7_B
  rw [plain_Rank_spec _ _ hW _ _ hu hv, rankP_wds l (by omega) _ l.length (Nat.le_refl _)]
  dsimp only
  rw [plain_Select_spec _ _ hW _ _ hu hv, sel_npos rfl]
  by_cases c1 : k < 0
  · have e : selP (l.length : Int) (wds l) (supF l) (subF l) bit k = (0, 3) := by
      unfold selP
      rw [if_pos (okP_wds l (by omega)), if_pos c1]
    rw [e, sel_neg (by omega)]
    dsimp only
    rw [decide_eq_false (show ¬ (3 : Int) = 0 by decide), beq_self_eq_true, Bool.not_true, Ev.sel_false, haystacklaw07_PlainBack_j11_unf]
    unfold haystacklaw07_PlainBack_j11_B
    rw [sel_nneg (by decide), sel_pos rfl, heads07_spec]
  obtain ⟨q, rfl⟩ : ∃ q : Nat, k = (q : Int) := ⟨k.toNat, by omega⟩
  rw [sel_pos (by omega), selP_wds l (by omega)]
  by_cases c2 : q < cntOf l bit l.length
  · obtain ⟨i, e1, e2⟩ := placeB_ex c2
    have hi := e2.lt
    rw [e1]
    dsimp only
    rw [decide_eq_true (show (0 : Int) = 0 from rfl), decide_eq_true (show (q : Int) < ((cntOf l bit l.length : Nat) : Int) by omega), beq_self_eq_true, Bool.not_true, Ev.sel_false, haystacklaw07_PlainBack_j11_unf]
    unfold haystacklaw07_PlainBack_j11_B
    rw [sel_npos rfl, plain_Rank_spec _ _ hW _ _ hu hv, rankP_wds l (by omega) _ i (by omega)]
    dsimp only
    rw [plain_Access_acc _ _ hW _ _ hu hv _ (by omega) (by omega), accP_wds l (by omega) i hi]
    dsimp only
    rw [sel_pos rfl, e2.cnt, sel_pos rfl, sel_pos rfl, e2.is, beq_self_eq_true, Ev.sel_true, heads07_spec]
  · rw [placeB_none (by omega)]
    dsimp only
    rw [decide_eq_false (show ¬ (3 : Int) = 0 by decide), decide_eq_false (show ¬ (q : Int) < ((cntOf l bit l.length : Nat) : Int) by omega), beq_self_eq_true, Bool.not_true, Ev.sel_false, haystacklaw07_PlainBack_j11_unf]
    unfold haystacklaw07_PlainBack_j11_B
    rw [sel_nneg (by decide), sel_pos rfl, heads07_spec]
abbrev PlainBack_pas : List Pa := [.st rowC, .one .bool, .one (.int .i64)]
theorem PlainBack_law : ∀ vs, pasHas PlainBack_pas vs → sp10 vs AV some = some (.bool true) := by
  rintro vs ⟨_, _, rfl, hr, _, _, rfl, ⟨b, rfl⟩, _, _, rfl, ⟨i, rfl, _⟩, rfl⟩
  obtain ⟨n, ws, rfl, _, hw⟩ := row_has hr
  exact PlainBack_true n ws hw b i _
end
end Go.Proofs.YtllgdcepgelahaaDoor
