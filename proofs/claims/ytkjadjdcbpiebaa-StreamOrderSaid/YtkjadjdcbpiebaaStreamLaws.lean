/- Layer 4: the laws of codes are true, whatever the input. -/
import Derived.Test.YtkjadjdcbpiebaaStreamRef
namespace Go.Proofs.Ytkjadjdcbpiebaa
open Go Go.Ev
section
variable {R : Type}
theorem heads04_spec (K : Bool → Option R) : haystacklaw04_heads K = K true := by
  have a1 : putS 0 [] (gammaB 5) = (5, [12], 0) := by decide +kernel
  have a2 : putS 5 [12] (deltaB 9223372036854775808) = (81, [2060, 0], 0) := by decide +kernel
  have a3 : readS gammaS 81 [2060, 0] 0 = (5, 5, 0) := by decide +kernel
  have a4 : readS deltaS 81 [2060, 0] 5 = (9223372036854775808, 81, 0) := by decide +kernel
  have a5 : readS gammaS 81 [2060, 0] 81 = (0, 0, 160) := by decide +kernel
  have a6 : sizeS 5 false = 5 := by decide +kernel
  have w0 : Ws [] := Ws.nil
  have w1 : Ws [12] := ⟨by decide, by decide⟩
  have w2 : Ws [2060, 0] := ⟨by decide, by decide⟩
  have e5 : (5 : Int) = ((5 : Nat) : Int) := rfl
  rw [haystacklaw04_heads_unf]; unfold haystacklaw04_heads_B
  rw [ci_nil, e5, stream_PutGamma_spec 0 [] w0 5 (by decide), if_neg (by decide), a1]
  simp only []
  rw [show (9223372036854775808 : Int) = ((9223372036854775808 : Nat) : Int) from rfl, stream_PutDelta_spec 5 [12] w1 _ (by decide), if_neg (by decide), a2]
  simp only []
  rw [stream_Gamma_spec _ _ w2, a3]
  simp only []
  rw [haystacklaw04_heads_j5_unf]; unfold haystacklaw04_heads_j5_B
  rw [stream_Delta_spec _ _ w2, a4]
  simp only []
  rw [stream_Gamma_spec _ _ w2, a5]
  simp only []
  rw [show (0 : Int) = ((0 : Nat) : Int) from rfl, stream_PutGamma_spec 5 [12] w1 0 (by decide), if_pos rfl]
  simp only [decide_true, Ev.sel_true]
  repeat rw [sel_pos (by decide)]
  exact (stream_Size_spec 5 (by decide) false _).trans (by rw [a6]; rfl)
theorem small04_spec (n : Int) (xs : List Int) (K : Bool → Option R) : haystacklaw04_small n xs K = K (decide (n ≤ 3000 ∧ xs.length ≤ 3000)) := by
  rw [haystacklaw04_small_unf]; unfold haystacklaw04_small_B
  by_cases h : n ≤ 3000
  · rw [sel_pos h]; congr 1; rw [decide_eq_decide]; omega
  · rw [sel_neg h]; simp [h]
theorem same_self (n : Int) (a : List Int) (ha : a.length < 4000000000) (K : Bool → Option R) : haystackref02_Same n a n a K = K true := by rw [haystackref02_Same_spec n n a a ha]; simp
/-! ### StreamOrder -/
theorem gamma_len_mono {x y : Nat} (h : x ≤ y) : sizeS x false ≤ sizeS y false := by
  unfold sizeS
  have := bitLen_mono h
  by_cases h0 : x = 0
  · rw [if_pos h0]; omega
  · have h1 : ¬ y = 0 := by omega
    simp only [h0, h1, if_false, Bool.false_eq_true, gammaB_length]; omega
theorem delta_len_mono {x y : Nat} (h : x ≤ y) : sizeS x true ≤ sizeS y true := by
  unfold sizeS
  have h1 := bitLen_mono h
  have h2 := bitLen_mono h1
  by_cases h0 : x = 0
  · rw [if_pos h0]; omega
  · have h3 : ¬ y = 0 := by omega
    simp only [h0, h3, if_false, if_true, deltaB_length]; omega
theorem bitLen_small : ∀ n, n < 65 → 6 ≤ n → 2 * (bitLen n - 1) + 1 ≤ n - 1 + 1 ∧ bitLen n ≤ 7 := by decide +kernel
theorem sizes_le {x : Nat} (hx : x < 2 ^ 64) : sizeS x false ≤ 127 ∧ sizeS x true ≤ 76 ∧ (32 ≤ x → sizeS x true ≤ sizeS x false) := by
  have h64 := bitLen_le hx
  unfold sizeS
  by_cases h0 : x = 0
  · subst h0; simp
  · have hp := bitLen_pos h0
    have hp2 := bitLen_pos (x := bitLen x) (by omega)
    have h7 : bitLen (bitLen x) ≤ 7 := bitLen_le (by omega)
    simp only [h0, if_false, if_true, gammaB_length, deltaB_length]
    refine ⟨by simp; omega, by omega, fun h32 => ?_⟩
    have h6 : 6 ≤ bitLen x := bitLen_mono (x := 32) h32
    have := (bitLen_small (bitLen x) (by omega) h6).1
    simp; omega
theorem StreamOrder_true (x y : Nat) (hx : x < 2 ^ 64) (hy : y < 2 ^ 64) (K : Bool → Option R) : haystacklaw04_StreamOrder (x : Int) (y : Int) K = K true := by
  obtain ⟨s1, s2, s3⟩ := sizes_le hx
  have j6 : haystacklaw04_StreamOrder_j6 (x : Int) ((sizeS x false : Nat) : Int) ((sizeS x true : Nat) : Int) (fun b => K b) = K true := by
    rw [haystacklaw04_StreamOrder_j6_unf]; unfold haystacklaw04_StreamOrder_j6_B
    by_cases h : x < 32
    · rw [sel_pos (by omega), sel_pos (by omega), sel_pos (by omega), heads04_spec]
    · have := s3 (by omega)
      rw [sel_neg (by omega), sel_pos (by omega), sel_pos (by omega), sel_pos (by omega), heads04_spec]
  rw [haystacklaw04_StreamOrder_unf]; unfold haystacklaw04_StreamOrder_B
  rw [stream_Size_spec x hx, stream_Size_spec y hy, stream_Size_spec x hx, stream_Size_spec y hy]
  by_cases h : x ≤ y
  · have g1 := gamma_len_mono h
    have g2 := delta_len_mono h
    rw [sel_pos (by omega), sel_neg (by omega), sel_neg (by omega), j6]
  · rw [sel_neg (by omega), j6]
abbrev StreamOrder_pas : List Pa := [.one (.int .u64), .one (.int .u64)]
theorem StreamOrder_law : ∀ vs, pasHas StreamOrder_pas vs → sp12 vs AV some = some (.bool true) := by
  rintro vs ⟨_, _, rfl, ⟨x, rfl, hx⟩, _, _, rfl, ⟨y, rfl, hy⟩, rfl⟩
  obtain ⟨x, rfl, hx2⟩ := nat_u64 hx
  obtain ⟨y, rfl, hy2⟩ := nat_u64 hy
  exact StreamOrder_true x y hx2 hy2 _
/-! ### StreamTells -/
theorem putS_len {n : Int} {ws : List Nat} (h : ws.length ≤ 3000) (c : List Bool) : (putS n ws c).2.1.length < 4000000000 := by
  unfold putS
  split
  · rename_i h1
    have h2 := okRow_len h1.1
    simp only []
    rw [wds_length, List.length_append]
    have : (rowB n ws).length = n.toNat := bitsOf_length _ _
    omega
  · simp only []; omega
theorem StreamTells_true (n : Int) (ws : List Nat) (hw : ∀ w ∈ ws, w < 2 ^ 64) (a : Int) (x : Nat) (hx : x < 2 ^ 64) (K : Bool → Option R) : haystacklaw04_StreamTells n (ci ws) a (x : Int) K = K true := by
  have j14 : haystacklaw04_StreamTells_j14 (x : Int) (fun b => K b) = K true := by
    rw [haystacklaw04_StreamTells_j14_unf]; unfold haystacklaw04_StreamTells_j14_B
    rw [stream_Size_spec x hx, haystackref04_Size_spec x hx, sel_pos rfl, stream_Size_spec x hx, haystackref04_Size_spec x hx, sel_pos rfl, heads04_spec]
  rw [haystacklaw04_StreamTells_unf]; unfold haystacklaw04_StreamTells_B
  rw [small04_spec, ci_length]
  by_cases h1 : ¬ (n ≤ 3000 ∧ ws.length ≤ 3000)
  · rw [decide_eq_false h1, Bool.not_false, Ev.sel_true, heads04_spec]
  replace h1 := Decidable.not_not.1 h1
  have hW : Ws ws := ⟨hw, by omega⟩
  rw [decide_eq_true h1, Bool.not_true, Ev.sel_false]
  show haystacklaw04_StreamTells_j4 _ _ _ _ _ = _
  rw [haystacklaw04_StreamTells_j4_unf]; unfold haystacklaw04_StreamTells_j4_B
  have fin : ∀ (e1 e2 : Int) (p q : Int × List Nat), p.2.length < 4000000000 → q.2.length < 4000000000 → ∀ g : Int × Int × Int, g = readS gammaS n ws a → haystacklaw04_StreamTells_j9 a (x : Int) e1 e1 e2 e2 g.1 g.2.1 g.2.2 n (ci ws) p.1 (ci p.2) p.1 (ci p.2) q.1 (ci q.2) q.1 (ci q.2) (fun b => K b) = K true := fun e1 e2 p q hp hq g hg => by
    subst hg
    rw [haystacklaw04_StreamTells_j9_unf]; unfold haystacklaw04_StreamTells_j9_B
    rw [haystackref04_Gamma_spec n ws hW, stream_Delta_spec n ws hW, haystackref04_Delta_spec n ws hW, same_self _ _ (by rw [ci_length]; exact hp)]
    simp only [Bool.not_true, Ev.sel_false, decide_true]
    rw [same_self _ _ (by rw [ci_length]; exact hq)]
    simp only [Bool.not_true, Ev.sel_false]
    exact j14
  rw [stream_PutGamma_spec n ws hW x hx]
  by_cases h0 : x = 0
  · rw [if_pos h0, haystackref04_PutGamma_spec n ws hW x hx, if_pos h0, stream_PutDelta_spec n ws hW x hx, if_pos h0, haystackref04_PutDelta_spec n ws hW x hx, if_pos h0, stream_Gamma_spec n ws hW]
    exact fin 2 2 (n, ws) (n, ws) (by simp only []; omega) (by simp only []; omega) _ rfl
  · rw [if_neg h0, haystackref04_PutGamma_spec n ws hW x hx, if_neg h0, stream_PutDelta_spec n ws hW x hx, if_neg h0, haystackref04_PutDelta_spec n ws hW x hx, if_neg h0, stream_Gamma_spec n ws hW]
    exact fin _ _ ((putS n ws (gammaB x)).1, (putS n ws (gammaB x)).2.1) ((putS n ws (deltaB x)).1, (putS n ws (deltaB x)).2.1) (putS_len h1.2 _) (putS_len h1.2 _) _ rfl
abbrev StreamTells_pas : List Pa := [.st rowC, .one (.int .i64), .one (.int .u64)]
theorem StreamTells_law : ∀ vs, pasHas StreamTells_pas vs → sp10 vs AV some = some (.bool true) := by
  rintro vs ⟨_, _, rfl, hr, _, _, rfl, ⟨a, rfl, ha⟩, _, _, rfl, ⟨x, rfl, hx⟩, rfl⟩
  obtain ⟨n, ws, rfl, _, hw⟩ := row_has hr
  obtain ⟨x, rfl, hx2⟩ := nat_u64 hx
  exact StreamTells_true n ws hw a x hx2 _
/-! ### StreamOnce -/
theorem haystackref02_Get_spec (n : Int) (ws : List Nat) (hw : Ws ws) (i : Int) (K : Bool → Int → Option R) : haystackref02_Get n (ci ws) i K = K (getS n ws i).1 (getS n ws i).2 := by
  rw [haystackref02_Get_unf]; unfold haystackref02_Get_B
  rw [haystackref02_Check_spec n ws hw]
  cases hok : okRow n ws with
  | false => simp [getS, hok, sel]
  | true =>
    obtain ⟨a1, a2, a3⟩ := okRow_len hok
    rw [Bool.not_true, Ev.sel_false]
    by_cases h3 : i < 0
    · rw [sel_pos h3]; simp [getS, hok, h3]
    rw [sel_neg h3]
    by_cases h4 : n ≤ i
    · rw [sel_pos h4]; simp [getS, hok, h4]
    obtain ⟨q, rfl⟩ : ∃ q : Nat, i = (q : Int) := ⟨i.toNat, by omega⟩
    rw [sel_neg h4, haystackref02_Get_j6_unf]; unfold haystackref02_Get_j6_B
    rw [haystackref02_At_spec _ _ hw.1 _ (by omega) (by omega)]
    have h5 : ¬ ((q : Int) < 0 ∨ n ≤ (q : Int)) := by omega
    simp only [getS, hok, if_true, h5, if_false, Int.toNat_natCast]
theorem StreamOnce_loop (l c : List Bool) (a : Nat) (hl : l.length ≤ 3000) (h : At l a c) (K0 : Bool → Option R) (K1 : Unit → Option R) : ∀ (N i : Nat), i ≤ c.length → c.length - i < N →
    haystacklaw04_StreamOnce_l15_L K0 K1 N (a : Int) (i : Int) (l.length : Int) (ci (wds l)) (c.length : Int) (ci (wds c)) = K1 ()
  | 0, _, _, h => by omega
  | N + 1, i, h1, h2 => by
    simp only [haystacklaw04_StreamOnce_l15_L, haystacklaw04_StreamOnce_l15_T]
    have hle := h.1
    by_cases hi : i < c.length
    · rw [sel_pos (by omega), addW_i64 (by omega) (by omega), ← Int.natCast_add, haystackref02_Get_spec _ _ (Ws.wds (by omega)), haystackref02_Get_spec _ _ (Ws.wds (by omega)), getS_nat l (by omega), getS_nat c (by omega), if_neg (by omega), if_neg (by omega)]
      simp only []
      rw [h.2 i hi]
      have : (!(c.getD i false) == c.getD i false) = false := by cases c.getD i false <;> rfl
      rw [this, Ev.sel_false, addW_i64 (by omega) (by omega), show (i : Int) + 1 = ((i + 1 : Nat) : Int) by omega]
      exact StreamOnce_loop l c a hl h K0 K1 N (i + 1) (by omega) (by omega)
    · rw [sel_neg (by omega)]
theorem StreamOnce_true (n : Int) (ws : List Nat) (hw : ∀ w ∈ ws, w < 2 ^ 64) (a : Int) (long : Bool) (K : Bool → Option R) : haystacklaw04_StreamOnce n (ci ws) a long K = K true := by
  rw [haystacklaw04_StreamOnce_unf]; unfold haystacklaw04_StreamOnce_B
  rw [small04_spec, ci_length]
  by_cases h1 : ¬ (n ≤ 3000 ∧ ws.length ≤ 3000)
  · rw [decide_eq_false h1, Bool.not_false, Ev.sel_true, heads04_spec]
  replace h1 := Decidable.not_not.1 h1
  have hW : Ws ws := ⟨hw, by omega⟩
  rw [decide_eq_true h1, Bool.not_true, Ev.sel_false, haystackref02_Check_spec n ws hW]
  cases hok : okRow n ws with
  | false => rw [Bool.not_false, Ev.sel_true, heads04_spec]
  | true =>
  obtain ⟨l, rfl, rfl, hl⟩ := okRow_wds hok hw
  rw [Bool.not_true, Ev.sel_false]
  by_cases h2 : a < 0
  · rw [sel_pos h2, heads04_spec]
  rw [sel_neg h2]
  by_cases h3 : (l.length : Int) < a
  · rw [sel_pos h3, heads04_spec]
  rw [sel_neg h3]
  show haystacklaw04_StreamOnce_j4 _ _ _ _ _ = _
  rw [haystacklaw04_StreamOnce_j4_unf]; unfold haystacklaw04_StreamOnce_j4_B
  obtain ⟨p, rfl⟩ : ∃ p : Nat, a = (p : Int) := ⟨a.toNat, by omega⟩
  have hl3 : l.length ≤ 3000 := by omega
  rw [stream_Gamma_spec _ _ hW, readS_wds _ l hl p (by omega)]
  have zero : ∀ (g : Int × Int × Int) (b : Bool), (g = (0, 0, 160) ∨ g = (0, 0, 161)) → haystacklaw04_StreamOnce_j7 (p : Int) b g.1 g.2.1 g.2.2 (l.length : Int) (ci (wds l)) (fun b => K b) = K true := fun g b hg => by
    rw [haystacklaw04_StreamOnce_j7_unf]; unfold haystacklaw04_StreamOnce_j7_B
    rcases hg with rfl | rfl
    · rw [sel_nneg (by decide), sel_pos rfl, sel_pos rfl, heads04_spec]
    · rw [sel_nneg (by decide), sel_pos rfl, sel_pos rfl, heads04_spec]
  have last : ∀ (x : Nat) (c : List Bool), c.length ≤ 3000 → At l p c → haystacklaw04_StreamOnce_j12 (p : Int) ((p + c.length : Nat) : Int) 0 (l.length : Int) (ci (wds l)) ((c.length : Nat) : Int) (ci (wds c)) (fun b => K b) = K true := fun x c hc hat => by
    have hle := hat.1
    rw [haystacklaw04_StreamOnce_j12_unf]; unfold haystacklaw04_StreamOnce_j12_B
    rw [sel_npos rfl, subW_i64 (by omega) (by omega), sel_npos (by omega), sel_neg (by omega), haystacklaw04_StreamOnce_j14_unf]
    unfold haystacklaw04_StreamOnce_j14_B
    rw [haystacklaw04_StreamOnce_l15_unf]; unfold haystacklaw04_StreamOnce_l15_B
    refine (StreamOnce_loop l c p hl3 hat _ _ NR 0 (Nat.zero_le _) (by have := NR_lt; omega)).trans ?_
    exact heads04_spec _
  have p0 : ∀ c : List Bool, c.length ≤ 3000 → putS 0 [] c = ((c.length : Int), wds c, 0) := fun c hc => by
    have := putS_wds [] c (by decide)
    simp only [List.length_nil, Nat.zero_add, List.nil_append] at this
    rw [if_pos (by omega)] at this
    exact this
  have some_ : ∀ (x nx : Nat), x ≠ 0 → x < 2 ^ 64 → nx = p + (if long = true then deltaB x else gammaB x).length → At l p (if long = true then deltaB x else gammaB x) → haystacklaw04_StreamOnce_j7 (p : Int) long (x : Int) (nx : Int) 0 (l.length : Int) (ci (wds l)) (fun b => K b) = K true := fun x nx hx0 hx hn hat => by
    have h64 := bitLen_le hx
    have h7 : bitLen (bitLen x) ≤ 7 := bitLen_le (by omega)
    have g1 := gammaB_length x
    have g2 := deltaB_length x
    rw [haystacklaw04_StreamOnce_j7_unf]; unfold haystacklaw04_StreamOnce_j7_B
    rw [sel_npos rfl, ci_nil, stream_PutGamma_spec 0 [] Ws.nil x hx, if_neg hx0, p0 _ (by omega)]
    cases long with
    | true =>
      simp only [if_true] at hn hat
      rw [Ev.sel_true, stream_PutDelta_spec 0 [] Ws.nil x hx, if_neg hx0, p0 _ (by omega), hn]
      exact last x _ (by omega) hat
    | false =>
      simp only [Bool.false_eq_true, if_false] at hn hat
      rw [Ev.sel_false, hn]
      exact last x _ (by omega) hat
  rw [haystacklaw04_StreamOnce_j5_unf]; unfold haystacklaw04_StreamOnce_j5_B
  cases long with
  | true =>
    rw [Ev.sel_true, stream_Delta_spec _ _ hW, readS_wds _ l hl p (by omega)]
    rcases deltaS_ok l p with hg | hg | ⟨x, nx, hg⟩
    · exact zero _ _ (.inl hg)
    · exact zero _ _ (.inr hg)
    · obtain ⟨o1, o2, o3, o4⟩ := delta_once hg
      rw [hg]
      exact some_ x nx o1 o2 o3 o4
  | false =>
    rw [Ev.sel_false]
    rcases gammaS_ok l p with hg | hg | ⟨x, nx, hg⟩
    · exact zero _ _ (.inl hg)
    · exact zero _ _ (.inr hg)
    · obtain ⟨o1, o2, o3, o4⟩ := gamma_once hg
      rw [hg]
      exact some_ x nx o1 o2 o3 o4
abbrev StreamOnce_pas : List Pa := [.st rowC, .one (.int .i64), .one .bool]
theorem StreamOnce_law : ∀ vs, pasHas StreamOnce_pas vs → sp9 vs AV some = some (.bool true) := by
  rintro vs ⟨_, _, rfl, hr, _, _, rfl, ⟨a, rfl, ha⟩, _, _, rfl, ⟨b, rfl⟩, rfl⟩
  obtain ⟨n, ws, rfl, _, hw⟩ := row_has hr
  exact StreamOnce_true n ws hw a b _
end
end Go.Proofs.Ytkjadjdcbpiebaa
