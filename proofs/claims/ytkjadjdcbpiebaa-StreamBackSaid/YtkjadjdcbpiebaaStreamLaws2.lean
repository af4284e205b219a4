/- Layer 4: the law of numbers that are put one behind the other is true, whatever the input. -/
import Derived.Test.YtkjadjdcbpiebaaStreamLaws
namespace Go.Proofs.Ytkjadjdcbpiebaa
open Go Go.Ev
section
variable {R : Type}
theorem At_ext {l : List Bool} {a : Nat} {c : List Bool} (h : At l a c) (v : List Bool) : At (l ++ v) a c := by
  refine ⟨by have := h.1; simp; omega, fun i hi => ?_⟩
  have := h.1
  rw [getD_append, if_pos (by omega), h.2 i hi]
/-- a number's code, by its kind; nought has none -/
def codeB (u : Nat) (long : Bool) : List Bool := if u = 0 then [] else if long = true then deltaB u else gammaB u
theorem codeB_length (u : Nat) (long : Bool) : (codeB u long).length = sizeS u long := by
  unfold codeB sizeS
  by_cases h : u = 0
  · rw [if_pos h, if_pos h]; rfl
  · rw [if_neg h, if_neg h]; cases long <;> rfl
def catB (us : List Nat) (bs : List Bool) : Nat → List Bool
  | 0 => []
  | i + 1 => catB us bs i ++ codeB (us.getD i 0) (bs.getD i false)
theorem size_le {u : Nat} (hu : u < 2 ^ 64) (long : Bool) : sizeS u long ≤ 127 := by
  obtain ⟨h1, h2, _⟩ := sizes_le hu
  cases long with
  | false => exact h1
  | true => omega
theorem catB_len {us : List Nat} (hu : ∀ w ∈ us, w < 2 ^ 64) (bs : List Bool) : ∀ i, (catB us bs i).length ≤ 127 * i
  | 0 => Nat.le_refl _
  | i + 1 => by
    have := catB_len hu bs i
    have := size_le (getD_lt hu i) (bs.getD i false)
    simp only [catB, List.length_append, codeB_length]; omega
theorem catB_at (us : List Nat) (bs : List Bool) : ∀ m i, i < m → At (catB us bs m) (catB us bs i).length (codeB (us.getD i 0) (bs.getD i false))
  | 0, _, h => by omega
  | m + 1, i, h => by
    simp only [catB]
    by_cases hi : i = m
    · subst hi
      have := At.mid (catB us bs i) (codeB (us.getD i 0) (bs.getD i false)) []
      rwa [List.append_nil] at this
    · exact At_ext (catB_at us bs m i (by omega)) _
theorem long_eq (bs : List Bool) (i : Nat) {X Y : Bool → Option R} (h : ∀ b, X b = Y b) : sel (decide ((i : Int) < ((bs.length : Nat) : Int))) (sel (decide ((0 : Int) ≤ (i : Int))) (sel (decide ((i : Int) < ((bs.length : Nat) : Int))) (X (bs.getD i false)) none) none) (X false) = Y (bs.getD i false) := by
  by_cases hi : i < bs.length
  · rw [sel_pos (by omega), sel_pos (by omega), sel_pos (by omega), h]
  · rw [sel_neg (by omega), h, getD_ge (by omega)]
theorem SB_j14 (us : List Nat) (bs : List Bool) (hu : ∀ w ∈ us, w < 2 ^ 64) (size i : Nat) (hs : size ≤ 4000000000) (hi : i < us.length) (hi2 : us.length ≤ 60) (long : Bool) (e n : Int) (xs : List Int) (he : e = 0 ∧ us.getD i 0 ≠ 0 ∨ e = 2 ∧ us.getD i 0 = 0) (K0 : Bool → Option R) (K1 : List Int → List Bool → Int → Int → Int → List Int → Option R) :
    haystacklaw04_StreamBack_j14 (ci us) bs (size : Int) (i : Int) long e n xs K0 K1 = K1 (ci us) bs ((size + sizeS (us.getD i 0) long : Nat) : Int) (i : Int) n xs := by
  have hl := size_le (getD_lt hu i) long
  rw [haystacklaw04_StreamBack_j14_unf]; unfold haystacklaw04_StreamBack_j14_B
  rw [sel_pos (by omega), ci_length, sel_pos (by omega), Int.toNat_natCast, ci_getD, letV_eq]
  have hb : (!(decide (e = 0)) == !decide (((us.getD i 0 : Nat) : Int) = 0)) = false := by
    rcases he with ⟨h1, h2⟩ | ⟨h1, h2⟩
    · have : ¬ ((us.getD i 0 : Nat) : Int) = 0 := by omega
      rw [h1, decide_eq_false this]; rfl
    · have : ((us.getD i 0 : Nat) : Int) = 0 := by omega
      rw [h1, this]; rfl
  rw [hb, Ev.sel_false, sel_pos (by omega), sel_pos (by omega), stream_Size_spec _ (getD_lt hu i), addW_i64 (by omega) (by omega), Int.natCast_add]
theorem SB_put (us : List Nat) (bs : List Bool) (hu : ∀ w ∈ us, w < 2 ^ 64) (i : Nat) (hi : i < us.length) (hi2 : us.length ≤ 60) (K : Int → List Int → Int → Option R) (F : Int → List Int → Int → Option R)
    (h : ∀ e : Int, (e = 0 ∧ us.getD i 0 ≠ 0 ∨ e = 2 ∧ us.getD i 0 = 0) → K ((catB us bs (i + 1)).length : Int) (ci (wds (catB us bs (i + 1)))) e = F 0 [] 0) (long : Bool) (hlong : long = bs.getD i false) :
    sel long (stream_PutDelta ((catB us bs i).length : Int) (ci (wds (catB us bs i))) ((us.getD i 0 : Nat) : Int) K) (stream_PutGamma ((catB us bs i).length : Int) (ci (wds (catB us bs i))) ((us.getD i 0 : Nat) : Int) K) = F 0 [] 0 := by
  have hc := catB_len hu bs i
  have hc2 := catB_len hu bs (i + 1)
  have hW := Ws.wds (l := catB us bs i) (by omega)
  have hx := getD_lt hu i
  by_cases h0 : us.getD i 0 = 0
  · have e2 : catB us bs (i + 1) = catB us bs i := by simp only [catB]; rw [h0]; simp [codeB]
    have := h 2 (.inr ⟨rfl, h0⟩)
    rw [e2] at this
    cases long with
    | true => rw [Ev.sel_true, stream_PutDelta_spec _ _ hW _ hx, if_pos h0, this]
    | false => rw [Ev.sel_false, stream_PutGamma_spec _ _ hW _ hx, if_pos h0, this]
  · have := h 0 (.inl ⟨rfl, h0⟩)
    simp only [catB, ← hlong] at this hc2
    cases long with
    | true =>
      have e : codeB (us.getD i 0) true = deltaB (us.getD i 0) := by unfold codeB; rw [if_neg h0]; rfl
      rw [e] at this hc2
      rw [List.length_append] at hc2
      rw [Ev.sel_true, stream_PutDelta_spec _ _ hW _ hx, if_neg h0, putS_wds _ _ (by omega), if_pos (by omega)]
      exact this
    | false =>
      have e : codeB (us.getD i 0) false = gammaB (us.getD i 0) := by unfold codeB; rw [if_neg h0]; rfl
      rw [e] at this hc2
      rw [List.length_append] at hc2
      rw [Ev.sel_false, stream_PutGamma_spec _ _ hW _ hx, if_neg h0, putS_wds _ _ (by omega), if_pos (by omega)]
      exact this
theorem SB_step1 (us : List Nat) (bs : List Bool) (hu : ∀ w ∈ us, w < 2 ^ 64) (i : Nat) (hi : i < us.length) (hi2 : us.length ≤ 60) (K0 : Bool → Option R) (K1 : List Int → List Bool → Int → Int → Int → List Int → Option R) :
    haystacklaw04_StreamBack_j10_1 (ci us) bs ((catB us bs i).length : Int) (i : Int) (bs.getD i false) ((catB us bs i).length : Int) (ci (wds (catB us bs i))) K0 K1 = K1 (ci us) bs ((catB us bs (i + 1)).length : Int) (i : Int) ((catB us bs (i + 1)).length : Int) (ci (wds (catB us bs (i + 1)))) := by
  have hc := catB_len hu bs i
  rw [haystacklaw04_StreamBack_j10_1_unf]; unfold haystacklaw04_StreamBack_j10_1_B
  rw [sel_pos (by omega), ci_length, sel_pos (by omega), sel_pos (by omega), sel_pos (by omega), Int.toNat_natCast, ci_getD]
  refine SB_put us bs hu i hi hi2 _ (fun _ _ _ => K1 (ci us) bs ((catB us bs (i + 1)).length : Int) (i : Int) ((catB us bs (i + 1)).length : Int) (ci (wds (catB us bs (i + 1))))) (fun e he => ?_) _ rfl
  rw [SB_j14 us bs hu _ i (by omega) hi hi2 _ e _ _ he]
  congr 2
  simp only [catB, List.length_append, codeB_length]
theorem SB_step0 (us : List Nat) (bs : List Bool) (hu : ∀ w ∈ us, w < 2 ^ 64) (hi : 0 < us.length) (hi2 : us.length ≤ 60) (K0 : Bool → Option R) (K1 : List Int → List Bool → Int → Int → Int → List Int → Option R) :
    haystacklaw04_StreamBack_j10 (ci us) bs 0 0 (bs.getD 0 false) 0 K0 K1 = K1 (ci us) bs ((catB us bs 1).length : Int) 0 ((catB us bs 1).length : Int) (ci (wds (catB us bs 1))) := by
  rw [haystacklaw04_StreamBack_j10_unf]; unfold haystacklaw04_StreamBack_j10_B
  rw [sel_pos (by omega), ci_length, sel_pos (by omega), sel_pos (by omega), sel_pos (by omega), show (0 : Int).toNat = 0 from rfl, ci_getD]
  have w0 : ci (wds (catB us bs 0)) = [] := by rw [show catB us bs 0 = [] from rfl, show wds [] = [] by decide]; rfl
  rw [← w0]
  refine SB_put us bs hu 0 hi hi2 _ (fun _ _ _ => K1 (ci us) bs ((catB us bs 1).length : Int) 0 ((catB us bs 1).length : Int) (ci (wds (catB us bs 1)))) (fun e he => ?_) _ rfl
  refine (SB_j14 us bs hu 0 0 (by omega) hi hi2 _ e _ _ he _ _).trans ?_
  congr 2
  simp only [catB, List.nil_append, codeB_length, Nat.zero_add]
theorem SB_loop1 (us : List Nat) (bs : List Bool) (hu : ∀ w ∈ us, w < 2 ^ 64) (hi2 : us.length ≤ 60) (K0 : Bool → Option R) (K1 : List Int → List Bool → Int → Int → List Int → Option R) : ∀ (N i : Nat), i ≤ us.length → us.length - i < N →
    haystacklaw04_StreamBack_l7_1_L K0 K1 N (ci us) bs ((catB us bs i).length : Int) (i : Int) ((catB us bs i).length : Int) (ci (wds (catB us bs i))) = K1 (ci us) bs ((catB us bs us.length).length : Int) ((catB us bs us.length).length : Int) (ci (wds (catB us bs us.length)))
  | 0, _, _, h => by omega
  | N + 1, i, h1, h2 => by
    simp only [haystacklaw04_StreamBack_l7_1_L, haystacklaw04_StreamBack_l7_1_T]
    by_cases hi : i < us.length
    · rw [sel_pos (by rw [ci_length]; omega), Int.toNat_natCast]
      refine (long_eq bs i (X := fun b => haystacklaw04_StreamBack_j10_1 (ci us) bs ((catB us bs i).length : Int) (i : Int) b ((catB us bs i).length : Int) (ci (wds (catB us bs i))) K0 fun xs bs n m k ys => haystacklaw04_StreamBack_l7_1_L K0 K1 N xs bs n (addW .i64 m 1) k ys) (Y := fun b => haystacklaw04_StreamBack_j10_1 (ci us) bs ((catB us bs i).length : Int) (i : Int) b ((catB us bs i).length : Int) (ci (wds (catB us bs i))) K0 fun xs bs n m k ys => haystacklaw04_StreamBack_l7_1_L K0 K1 N xs bs n (addW .i64 m 1) k ys) (fun _ => rfl)).trans ?_
      rw [SB_step1 us bs hu i hi hi2, addW_i64 (by omega) (by omega), show (i : Int) + 1 = ((i + 1 : Nat) : Int) by omega]
      exact SB_loop1 us bs hu hi2 K0 K1 N (i + 1) (by omega) (by omega)
    · have : i = us.length := by omega
      subst this
      rw [sel_neg (by rw [ci_length]; omega)]
theorem SB_loop2 (us : List Nat) (bs : List Bool) (hu : ∀ w ∈ us, w < 2 ^ 64) (hi2 : us.length ≤ 60) (size : Int) (K0 : Bool → Option R) (K1 : Int → Int → Int → List Int → Option R) : ∀ (N i : Nat), i ≤ us.length → us.length - i < N →
    haystacklaw04_StreamBack_l19_L K0 K1 N (ci us) bs size ((catB us bs i).length : Int) (i : Int) ((catB us bs us.length).length : Int) (ci (wds (catB us bs us.length))) = K1 size ((catB us bs us.length).length : Int) ((catB us bs us.length).length : Int) (ci (wds (catB us bs us.length)))
  | 0, _, _, h => by omega
  | N + 1, i, h1, h2 => by
    have hT := catB_len hu bs us.length
    have hW := Ws.wds (l := catB us bs us.length) (by omega)
    simp only [haystacklaw04_StreamBack_l19_L, haystacklaw04_StreamBack_l19_T]
    by_cases hi : i < us.length
    · have hat := catB_at us bs us.length i hi
      have hle := hat.1
      have hx := getD_lt hu i
      rw [ci_length, sel_pos (by omega), sel_pos (by omega), sel_pos (by omega), Int.toNat_natCast, ci_getD, addW_i64 (by omega) (by omega), show (i : Int) + 1 = ((i + 1 : Nat) : Int) by omega]
      have ih := SB_loop2 us bs hu hi2 size K0 K1 N (i + 1) (by omega) (by omega)
      by_cases h0 : us.getD i 0 = 0
      · have e2 : catB us bs (i + 1) = catB us bs i := by simp only [catB]; rw [h0]; simp [codeB]
        rw [e2] at ih
        rw [sel_pos (by omega)]
        exact ih
      · rw [sel_neg (by omega), stream_Gamma_spec _ _ hW, readS_wds _ _ (by omega) _ (by omega)]
        have j25 : ∀ (x nx : Nat), x = us.getD i 0 → nx = (catB us bs (i + 1)).length → haystacklaw04_StreamBack_j25 (ci us) bs size (i : Int) (x : Int) (nx : Int) 0 ((catB us bs us.length).length : Int) (ci (wds (catB us bs us.length))) (fun b => K0 b) (fun xs bs n m k q ys => haystacklaw04_StreamBack_l19_L K0 K1 N xs bs n m (addW .i64 k 1) q ys) = K1 size ((catB us bs us.length).length : Int) ((catB us bs us.length).length : Int) (ci (wds (catB us bs us.length))) := fun x nx hx hn => by
          rw [haystacklaw04_StreamBack_j25_unf]; unfold haystacklaw04_StreamBack_j25_B
          rw [sel_npos rfl, ci_length, sel_pos (by omega), sel_pos (by omega), Int.toNat_natCast, ci_getD, sel_npos (by omega)]
          dsimp only
          rw [addW_i64 (by omega) (by omega), show (i : Int) + 1 = ((i + 1 : Nat) : Int) by omega, hn]
          exact ih
        have fin : ∀ b : Bool, b = bs.getD i false → haystacklaw04_StreamBack_j24 (ci us) bs size ((catB us bs i).length : Int) (i : Int) (gammaS (catB us bs us.length) (catB us bs i).length).1 (gammaS (catB us bs us.length) (catB us bs i).length).2.1 (gammaS (catB us bs us.length) (catB us bs i).length).2.2 b ((catB us bs us.length).length : Int) (ci (wds (catB us bs us.length))) (fun xs bs n m k q r t ys => haystacklaw04_StreamBack_j25 xs bs n m k q r t ys (fun b => K0 b) fun xs bs n m k q ys => haystacklaw04_StreamBack_l19_L K0 K1 N xs bs n m (addW .i64 k 1) q ys) = K1 size ((catB us bs us.length).length : Int) ((catB us bs us.length).length : Int) (ci (wds (catB us bs us.length))) := fun b hb => by
          rw [haystacklaw04_StreamBack_j24_unf]; unfold haystacklaw04_StreamBack_j24_B
          have hlen : (catB us bs (i + 1)).length = (catB us bs i).length + (codeB (us.getD i 0) b).length := by simp only [catB, List.length_append, hb]
          rw [← hb] at hat
          cases b with
          | true =>
            have e : codeB (us.getD i 0) true = deltaB (us.getD i 0) := by unfold codeB; rw [if_neg h0]; rfl
            rw [e] at hat hlen
            rw [Ev.sel_true, stream_Delta_spec _ _ hW, readS_wds _ _ (by omega) _ (by omega), delta_read h0 hx hat]
            exact j25 _ _ rfl hlen.symm
          | false =>
            have e : codeB (us.getD i 0) false = gammaB (us.getD i 0) := by unfold codeB; rw [if_neg h0]; rfl
            rw [e] at hat hlen
            rw [Ev.sel_false, gamma_read h0 hx hat]
            exact j25 _ _ rfl hlen.symm
        by_cases hbi : i < bs.length
        · rw [sel_pos (by omega), sel_pos (by omega), sel_pos (by omega)]
          exact fin _ rfl
        · rw [sel_neg (by omega)]
          exact fin _ (getD_ge (by omega)).symm
    · have : i = us.length := by omega
      subst this
      rw [ci_length, sel_neg (by omega)]
theorem SB_none (xs : List Int) (bs : List Bool) (a b i n : Int) (h : ¬ i < (xs.length : Int)) (K0 : Bool → Option R) (K1 : Int → Int → Int → Option R) : haystacklaw04_StreamBack_l19_1 xs bs a b i n K0 K1 = K1 a b n := by
  rw [haystacklaw04_StreamBack_l19_1_unf]; unfold haystacklaw04_StreamBack_l19_1_B
  obtain ⟨N, hN⟩ : ∃ N, NR = N + 1 := ⟨NR - 1, by have := NR_lt; omega⟩
  rw [hN]
  simp only [haystacklaw04_StreamBack_l19_1_L, haystacklaw04_StreamBack_l19_1_T]
  rw [sel_neg h]
theorem StreamBack_true (us : List Nat) (bs : List Bool) (hu : ∀ w ∈ us, w < 2 ^ 64) (K : Bool → Option R) : haystacklaw04_StreamBack (ci us) bs K = K true := by
  rw [haystacklaw04_StreamBack_unf]; unfold haystacklaw04_StreamBack_B
  rw [haystacklaw04_StreamBack_j2_unf]; unfold haystacklaw04_StreamBack_j2_B
  rw [ci_length]
  by_cases h1 : (60 : Int) < (us.length : Int)
  · rw [sel_pos h1, heads04_spec]
  rw [sel_neg h1, haystacklaw04_StreamBack_l7_unf]; unfold haystacklaw04_StreamBack_l7_B
  have hi2 : us.length ≤ 60 := by omega
  rw [show NR = (NR - 2 + 1) + 1 by have := NR_lt; omega]
  simp only [haystacklaw04_StreamBack_l7_L, haystacklaw04_StreamBack_l7_T]
  rw [ci_length]
  by_cases h0 : 0 < us.length
  · rw [sel_pos (by omega)]
    refine (long_eq bs 0 (X := fun b => haystacklaw04_StreamBack_j10 (ci us) bs 0 0 b 0 _ _) (Y := fun b => haystacklaw04_StreamBack_j10 (ci us) bs 0 0 b 0 _ _) (fun _ => rfl)).trans ?_
    rw [SB_step0 us bs hu h0 hi2, addW_i64 (by omega) (by omega), show (0 : Int) + 1 = ((1 : Nat) : Int) from rfl]
    refine (SB_loop1 us bs hu hi2 _ _ (NR - 2 + 1) 1 (by omega) (by have := NR_lt; omega)).trans ?_
    rw [haystacklaw04_StreamBack_j17_unf]; unfold haystacklaw04_StreamBack_j17_B
    rw [haystacklaw04_StreamBack_l19_unf]; unfold haystacklaw04_StreamBack_l19_B
    have h := SB_loop2 us bs hu hi2 ((catB us bs us.length).length : Int) (fun b => K b) (fun a b c (_ : List Int) => sel (decide (b = c)) (sel (decide (a = c)) (haystacklaw04_heads fun b => K b) (K false)) (K false)) NR 0 (by omega) (by have := NR_lt; omega)
    refine Eq.trans h ?_
    rw [sel_pos rfl, sel_pos rfl, heads04_spec]
  · rw [sel_neg (by omega), haystacklaw04_StreamBack_j17_1_unf]; unfold haystacklaw04_StreamBack_j17_1_B
    rw [SB_none _ _ _ _ _ _ (by rw [ci_length]; omega), sel_pos rfl, sel_pos rfl, heads04_spec]
abbrev StreamBack_pas : List Pa := [.one (.ints .u64), .one .bools]
theorem StreamBack_law : ∀ vs, pasHas StreamBack_pas vs → sp11 vs AV some = some (.bool true) := by
  rintro vs ⟨_, _, rfl, ⟨xs, rfl, _, hx⟩, _, _, rfl, ⟨bs, rfl, _⟩, rfl⟩
  obtain ⟨us, rfl, hu⟩ := ci_of fun x h => has_u64 (hx x h)
  exact StreamBack_true us bs hu _
end
end Go.Proofs.Ytkjadjdcbpiebaa
