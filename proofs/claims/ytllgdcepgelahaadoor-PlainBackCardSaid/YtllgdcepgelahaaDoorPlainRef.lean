/- Layer 7: the document's answers. -/
import Derived.Test.YtllgdcepgelahaaDoorPlainB
import Derived.Test.YtllgdcepgelahaaDoorBitsRefC
namespace Go.Proofs.YtllgdcepgelahaaDoor
open Go Go.Ev
section
variable {R : Type}
theorem haystackref02_Get_spec (n : Int) (ws : List Nat) (hw : Ws ws) (i : Int) (K : Bool → Int → Option R) : haystackref02_Get n (ci ws) i K = K (getS n ws i).1 (getS n ws i).2 := by
  rw [haystackref02_Get_unf]; unfold haystackref02_Get_B
  rw [haystackref02_Check_spec n ws hw]
  cases hok : okRow n ws with
  | false => simp [getS, hok, sel]
  | true =>
    obtain ⟨a1, a2, a3⟩ := okRow_len hok
    rw [Bool.not_true, Ev.sel_false]
    by_cases h3 : i < 0
    · rw [sel_pos h3]; simp [getS, hok, h3]
    rw [sel_neg h3]
    by_cases h4 : n ≤ i
    · rw [sel_pos h4]; simp [getS, hok, h4]
    rw [sel_neg h4, haystackref02_Get_j6_unf]; unfold haystackref02_Get_j6_B
    obtain ⟨q, rfl⟩ : ∃ q : Nat, i = (q : Int) := ⟨i.toNat, by omega⟩
    rw [haystackref02_At_spec n ws hw.1 q (by omega) (by omega)]
    have : getS n ws (q : Int) = (bitAt ws q, 0) := by
      have h5 : ¬ ((q : Int) < 0 ∨ n ≤ (q : Int)) := by omega
      simp only [getS, hok, if_true, h5, if_false, Int.toNat_natCast]
    rw [this]
theorem ref_Ones_loop (l : List Bool) (hl : l.length ≤ 1048576) (k : Nat) (hk : k ≤ l.length) (K : Int → Option R) : ∀ (N i : Nat), i ≤ k → k - i < N →
    haystackref02_Ones_l4_L K N (k : Int) ((cntOf l true i : Nat) : Int) (i : Int) (l.length : Int) (ci (wds l)) = K ((cntOf l true k : Nat) : Int)
  | 0, _, _, h => by omega
  | N + 1, i, h1, h2 => by
    simp only [haystackref02_Ones_l4_L, haystackref02_Ones_l4_T]
    by_cases h : i < k
    · have hc : cntOf l true (i + 1) = cntOf l true i + (l.getD i false == true).toNat := rfl
      have hle := cntOf_le l true i
      have ih := ref_Ones_loop l hl k hk K N (i + 1) (by omega) (by omega)
      rw [sel_pos (by omega), sel_pos (by omega), haystackref02_Check_spec _ _ (Ws.wds hl), okRow_of l hl, Ev.sel_true, haystackref02_Ones_j6_unf]
      unfold haystackref02_Ones_j6_B
      rw [haystackref02_At_spec _ _ (fun w hw => wds_lt hw) i (by rw [wds_length]; omega) (by omega), bitAt_wds]
      cases hb : l.getD i false with
      | true =>
        rw [hb] at hc
        rw [Ev.sel_true]
        dsimp only
        rw [addW_i64 (by omega) (by omega), addW_i64 (by omega) (by omega), show (i : Int) + 1 = ((i + 1 : Nat) : Int) by omega, show ((cntOf l true i : Nat) : Int) + 1 = ((cntOf l true (i + 1) : Nat) : Int) by rw [hc]; rfl]
        exact ih
      | false =>
        rw [hb] at hc
        rw [Ev.sel_false]
        dsimp only
        rw [addW_i64 (by omega) (by omega), show (i : Int) + 1 = ((i + 1 : Nat) : Int) by omega, show cntOf l true i = cntOf l true (i + 1) by rw [hc]; rfl]
        exact ih
    · have : i = k := by omega
      subst this
      rw [sel_neg (by omega)]
theorem haystackref02_Ones_in (l : List Bool) (hl : l.length ≤ 1048576) (k : Nat) (hk : k ≤ l.length) (K : Int → Option R) : haystackref02_Ones (l.length : Int) (ci (wds l)) (k : Int) K = K ((cntOf l true k : Nat) : Int) := by
  rw [haystackref02_Ones_unf]; unfold haystackref02_Ones_B
  rw [haystackref02_Ones_l4_unf]; unfold haystackref02_Ones_l4_B
  exact ref_Ones_loop l hl k hk _ NR 0 (Nat.zero_le _) (by have := NR_lt; omega)
theorem quo512 (n : Nat) (h : n < 4611686018427387904) : quoW .i64 (n : Int) 512 = ((n / 512 : Nat) : Int) := by rw [quoW_nat (by omega) (by omega) (by omega)]; omega
theorem ref7_sup (l : List Bool) (hl : l.length ≤ 1048576) (f g : Int) (ys : List Int) (K : Int → List Int → Int → Int → List Int → Nat → List Int → Option R) : ∀ (N i : Nat), 1 ≤ i → i ≤ l.length / 512 + 1 → l.length / 512 + 1 - i < N →
    haystackref07_Build_l6_1_L K N (i : Int) (l.length : Int) (ci (wds l)) f g ys i (supP (wds l) i) = K (l.length : Int) (ci (wds l)) f g ys (l.length / 512 + 1) (supF l)
  | 0, _, _, _, h => by omega
  | N + 1, i, h0, h1, h2 => by
    simp only [haystackref07_Build_l6_1_L, haystackref07_Build_l6_1_T]
    rw [quo512 _ (by omega)]
    by_cases h : i ≤ l.length / 512
    · have ih := ref7_sup l hl f g ys K N (i + 1) (by omega) (by omega) (by omega)
      rw [sel_pos (by omega), mulW_i64 (by omega) (by omega), show (512 : Int) * (i : Int) = ((512 * i : Nat) : Int) by omega, haystackref02_Ones_in l hl _ (by omega), letV_eq, sel_pos (by rfl), sel_pos (supP_length _ _), sel_pos (by omega), letV_eq, cntOf_true, supP_succ, addW_i64 (by omega) (by omega), show (i : Int) + 1 = ((i + 1 : Nat) : Int) by omega]
      exact ih
    · have : i = l.length / 512 + 1 := by omega
      subst this
      rw [sel_neg (by omega)]
      rfl
theorem ref7_sub (l : List Bool) (hl : l.length ≤ 1048576) (f g : Int) (ys : List Int) (K : Int → Int → List Int → Nat → Nat → List Int → List Int → Option R) : ∀ (N j : Nat), 1 ≤ j → j ≤ (l.length + 63) / 64 → (l.length + 63) / 64 - j < N →
    haystackref07_Build_l10_1_L K N (j : Int) (l.length : Int) (ci (wds l)) f g ys (l.length / 512 + 1) j (supF l) (subP (wds l) j) = K f g ys (l.length / 512 + 1) ((l.length + 63) / 64) (supF l) (subF l)
  | 0, _, _, _, h => by omega
  | N + 1, j, h0, h1, h2 => by
    simp only [haystackref07_Build_l10_1_L, haystackref07_Build_l10_1_T]
    rw [ci_length, wds_length]
    by_cases h : j < (l.length + 63) / 64
    · have ih := ref7_sub l hl f g ys K N (j + 1) (by omega) (by omega) (by omega)
      have hp := pcb_le (wds l) (64 * j)
      have hm := pcb_mono (wds l) (show 512 * (j / 8) ≤ 64 * j by omega)
      rw [sel_pos (by omega), mulW_i64 (by omega) (by omega), show (64 : Int) * (j : Int) = ((64 * j : Nat) : Int) by omega, haystackref02_Ones_in l hl _ (by omega), quo8 _ (by omega), sel_pos (by omega), sel_pos (by omega), Int.toNat_natCast, sel_pos (by rw [supF_length]; omega)]
      have e : (supF l).getD (j / 8) 0 = ((pcb (wds l) (512 * (j / 8)) : Nat) : Int) := supP_get _ (by omega)
      rw [e, cntOf_true, subW_i64 (by omega) (by omega), letV_eq, sel_pos (by rfl), sel_pos (subP_length _ _), sel_pos (by omega), letV_eq, subP_succ, addW_i64 (by omega) (by omega), show (j : Int) + 1 = ((j + 1 : Nat) : Int) by omega]
      exact ih
    · have : j = (l.length + 63) / 64 := by omega
      subst this
      rw [sel_neg (by omega)]
      rfl
theorem haystackref07_Build_spec (n : Int) (ws : List Nat) (hw : Ws ws) (K : Int → List Int → List Int → List Int → Int → Option R) :
    haystackref07_Build n (ci ws) K = if okRow n ws = true then K n (ci ws) (supF (rowB n ws)) (subF (rowB n ws)) 0 else K 0 [] [] [] 2 := by
  rw [haystackref07_Build_unf]; unfold haystackref07_Build_B
  rw [haystackref02_Check_spec n ws hw]
  cases hok : okRow n ws with
  | false => rfl
  | true =>
    obtain ⟨l, rfl, rfl, hl⟩ := okRow_wds hok hw.1
    rw [Bool.not_true, Ev.sel_false, if_pos rfl, rowB_wds, haystackref07_Build_l6_unf]
    unfold haystackref07_Build_l6_B
    obtain ⟨N, hN⟩ : ∃ N, NR = N + 1 := ⟨NR - 1, by have := NR_lt; omega⟩
    have hbig : 4000000000 ≤ N := by have := NR_lt; omega
    have p0 : pcb (wds l) (512 * 0) = 0 := rfl
    have q0 : pcb (wds l) (64 * 0) = 0 := rfl
    have c0 : cntOf l true 0 = 0 := rfl
    have s1 : supP (wds l) 1 = [0] := by simp [supP, p0]
    have u1 : subP (wds l) 1 = [0] := by simp [subP, q0]
    have o0 := fun K => haystackref02_Ones_in (R := R) l hl 0 (Nat.zero_le _) K
    rw [hN]
    simp only [haystackref07_Build_l6_L, haystackref07_Build_l6_T]
    rw [quo512 _ (by omega), sel_pos (by omega), mulW_i64 (by omega) (by omega), show (512 : Int) * 0 = ((0 : Nat) : Int) from rfl, o0, letV_eq, sel_pos (by rfl), addW_i64 (by omega) (by omega), c0]
    have h1 := ref7_sup (R := R) l hl 0 (l.length : Int) (ci (wds l)) (fun n1177 xs1178 n1179 n1180 xs1181 l1182 xs1183 => haystackref07_Build_l10 (0) (n1177) (xs1178) (n1179) (n1180) (xs1181) (l1182) (xs1183)
     (fun n1209 n1210 xs1211 l1212 l1213 xs1214 xs1215 => sel (decide (l1212 = List.length xs1214))
      (sel (decide (l1213 = List.length xs1215))
       (K (n1210) (xs1211) (xs1214) (xs1215) (0))
       (sel (decide (0 + l1213 ≤ List.length xs1215))
        (K (n1210) (xs1211) (xs1214) (List.take l1213 (List.drop 0 xs1215)) (0))
        (none)))
      (sel (decide (0 + l1212 ≤ List.length xs1214))
       (sel (decide (l1213 = List.length xs1215))
        (K (n1210) (xs1211) (List.take l1212 (List.drop 0 xs1214)) (xs1215) (0))
        (sel (decide (0 + l1213 ≤ List.length xs1215))
         (K (n1210) (xs1211) (List.take l1212 (List.drop 0 xs1214)) (List.take l1213 (List.drop 0 xs1215)) (0))
         (none)))
       (none)))
     (fun n1216 n1217 xs1218 l1219 xs1220 => sel (decide (l1219 = List.length xs1220))
      (K (n1217) (xs1218) (xs1220) ([]) (0))
      (sel (decide (0 + l1219 ≤ List.length xs1220))
       (K (n1217) (xs1218) (List.take l1219 (List.drop 0 xs1220)) ([]) (0))
       (none)))) N 1 (by omega) (by omega) (by omega)
    rw [s1] at h1
    refine Eq.trans h1 ?_
    rw [haystackref07_Build_l10_unf]; unfold haystackref07_Build_l10_B
    rw [hN]
    simp only [haystackref07_Build_l10_L, haystackref07_Build_l10_T]
    rw [ci_length, wds_length]
    by_cases h0 : 0 < (l.length + 63) / 64
    · have hq0 : quoW .i64 0 8 = 0 := by rw [quoW_nat (by omega) (by omega) (by omega)]; rfl
      have e : (supF l).getD 0 0 = ((pcb (wds l) (512 * 0) : Nat) : Int) := supP_get _ (by omega)
      rw [sel_pos (by omega), mulW_i64 (by omega) (by omega), show (64 : Int) * 0 = ((0 : Nat) : Int) from rfl, o0, hq0, sel_pos (by omega), sel_pos (by omega), show Int.toNat 0 = 0 from rfl, sel_pos (by rw [supF_length]; omega), e, p0, c0, subW_i64 (by omega) (by omega), letV_eq, sel_pos (by rfl), addW_i64 (by omega) (by omega)]
      have h2 := ref7_sub (R := R) l hl 0 (l.length : Int) (ci (wds l)) (fun n1209 n1210 xs1211 l1212 l1213 xs1214 xs1215 => sel (decide (l1212 = List.length xs1214))
      (sel (decide (l1213 = List.length xs1215))
       (K (n1210) (xs1211) (xs1214) (xs1215) (0))
       (sel (decide (0 + l1213 ≤ List.length xs1215))
        (K (n1210) (xs1211) (xs1214) (List.take l1213 (List.drop 0 xs1215)) (0))
        (none)))
      (sel (decide (0 + l1212 ≤ List.length xs1214))
       (sel (decide (l1213 = List.length xs1215))
        (K (n1210) (xs1211) (List.take l1212 (List.drop 0 xs1214)) (xs1215) (0))
        (sel (decide (0 + l1213 ≤ List.length xs1215))
         (K (n1210) (xs1211) (List.take l1212 (List.drop 0 xs1214)) (List.take l1213 (List.drop 0 xs1215)) (0))
         (none)))
       (none))) N 1 (by omega) (by omega) (by omega)
      rw [u1] at h2
      refine Eq.trans h2 ?_
      rw [sel_pos (supF_length l).symm, sel_pos (subF_length l).symm]
    · have e0 : l.length = 0 := by omega
      have el : l = [] := List.eq_nil_of_length_eq_zero e0
      rw [sel_neg (by omega), sel_pos (supF_length l).symm]
      subst el
      rfl
theorem ref_Numbers_loop (a b : List Int) (h : a.length = b.length) (ha : a.length < 4000000000) (K0 : Bool → Option R) (K1 : Unit → Option R) : ∀ (N j : Nat), j ≤ a.length → a.length - j < N →
    haystackref07_Numbers_l5_L K0 K1 N a b (j : Int) = if a.drop j = b.drop j then K1 () else K0 false
  | 0, _, _, h => by omega
  | N + 1, j, hj, hN => by
    simp only [haystackref07_Numbers_l5_L, haystackref07_Numbers_l5_T]
    by_cases h1 : j < a.length
    · rw [sel_pos (by omega), sel_pos (by omega), sel_pos (by omega), sel_pos (by omega), sel_pos (by omega), Int.toNat_natCast, addW_i64 (by omega) (by omega), show (j : Int) + 1 = ((j + 1 : Nat) : Int) by omega]
      by_cases h2 : a.getD j 0 = b.getD j 0
      · rw [sel_npos h2, ref_Numbers_loop a b h ha K0 K1 N (j + 1) (by omega) (by omega)]
        simp only [drop_eq_iff a b h j h1, h2, true_and]
      · rw [sel_nneg h2]
        simp only [drop_eq_iff a b h j h1, h2, false_and, if_false]
    · rw [sel_neg (by omega), List.drop_of_length_le (by omega), List.drop_of_length_le (by omega), if_pos rfl]
theorem haystackref07_Numbers_spec (a b : List Int) (ha : a.length < 4000000000) (K : Bool → Option R) : haystackref07_Numbers a b K = K (decide (a = b)) := by
  rw [haystackref07_Numbers_unf]; unfold haystackref07_Numbers_B
  by_cases h2 : a.length = b.length
  · rw [sel_npos (by omega), haystackref07_Numbers_l5_unf]
    unfold haystackref07_Numbers_l5_B
    refine (ref_Numbers_loop a b h2 ha _ _ NR 0 (by omega) (by have := NR_lt; omega)).trans ?_
    simp only [List.drop_zero]
    split <;> simp_all
  · rw [sel_nneg (by omega)]
    congr 1
    have : ¬ a = b := by rintro rfl; exact h2 rfl
    simp [this]
theorem haystackref07_Same_spec (n m : Int) (ws vs us1 us2 vs1 vs2 : List Int) (h1 : ws.length < 4000000000) (h2 : us1.length < 4000000000) (h3 : vs1.length < 4000000000) (K : Bool → Option R) :
    haystackref07_Same n ws us1 vs1 m vs us2 vs2 K = K (decide (n = m ∧ ws = vs) && (decide (us1 = us2) && decide (vs1 = vs2))) := by
  rw [haystackref07_Same_unf]; unfold haystackref07_Same_B
  rw [haystackref02_Same_spec _ _ _ _ h1, haystackref07_Numbers_spec _ _ h2]
  cases decide (n = m ∧ ws = vs) with
  | false => rfl
  | true =>
    rw [Ev.sel_true, haystackref07_Numbers_spec _ _ h3]
    cases decide (us1 = us2) <;> rfl
theorem haystackref07_Check_spec (n : Int) (ws : List Nat) (hw : Ws ws) (us vs : List Int) (hu : us.length < 4000000000) (hv : vs.length < 4000000000) (K : Bool → Option R) : haystackref07_Check n (ci ws) us vs K = K (okP n ws us vs) := by
  rw [haystackref07_Check_unf]; unfold haystackref07_Check_B
  rw [haystackref07_Build_spec n ws hw]
  cases hok : okRow n ws with
  | false => rw [if_neg (by decide), sel_neg (by decide)]; simp [okP, hok]
  | true =>
    have hlen := okRow_len hok
    rw [if_pos rfl, sel_pos rfl, haystackref07_Same_spec _ _ _ _ _ _ _ _ (by rw [ci_length]; omega) hu hv]
    simp [okP, hok]
theorem haystackref07_Size_spec (n : Int) (ws : List Nat) (hw : Ws ws) (us vs : List Int) (hu : us.length < 4000000000) (hv : vs.length < 4000000000) (K : Int → Option R) : haystackref07_Size n (ci ws) us vs K = K (sizeP n ws us vs) := by
  rw [haystackref07_Size_unf]; unfold haystackref07_Size_B sizeP
  rw [haystackref07_Check_spec n ws hw us vs hu hv]
  cases hok : okP n ws us vs with
  | false => rfl
  | true =>
    obtain ⟨l, rfl, rfl, hl, rfl, rfl⟩ := okP_of hok hw.1
    rw [Bool.not_true, Ev.sel_false, if_pos rfl, mulW_i64 (by omega) (by omega), mulW_i64 (by omega) (by omega), addW_i64 (a := (l.length : Int)) (by omega) (by omega), addW_i64 (by omega) (by omega)]
theorem haystackref07_Whole_spec (n : Int) (ws : List Nat) (hw : Ws ws) (us vs : List Int) (hu : us.length < 4000000000) (hv : vs.length < 4000000000) (K : Int → List Int → Bool → Option R) : haystackref07_Whole n (ci ws) us vs K = if okP n ws us vs = true then K n (ci ws) true else K 0 [] false := by
  rw [haystackref07_Whole_unf]; unfold haystackref07_Whole_B
  rw [haystackref07_Check_spec n ws hw us vs hu hv]
  cases okP n ws us vs <;> rfl
theorem haystackref07_Bits_spec (n : Int) (ws : List Nat) (hw : Ws ws) (us vs : List Int) (hu : us.length < 4000000000) (hv : vs.length < 4000000000) (K : Int → List Int → Option R) : haystackref07_Bits n (ci ws) us vs K = if okP n ws us vs = true then K n (ci ws) else K 0 [] := by
  rw [haystackref07_Bits_unf]; unfold haystackref07_Bits_B
  rw [haystackref07_Whole_spec n ws hw us vs hu hv]
theorem haystackref07_Access_spec (n : Int) (ws : List Nat) (hw : Ws ws) (us vs : List Int) (hu : us.length < 4000000000) (hv : vs.length < 4000000000) (i : Int) (K : Bool → Int → Option R) :
    haystackref07_Access n (ci ws) us vs i K = if okP n ws us vs = true then K (getS n ws i).1 (getS n ws i).2 else K false 2 := by
  rw [haystackref07_Access_unf]; unfold haystackref07_Access_B
  rw [haystackref07_Whole_spec n ws hw us vs hu hv]
  cases okP n ws us vs with
  | false => rfl
  | true => rw [if_pos rfl, if_pos rfl, Bool.not_true, Ev.sel_false, haystackref02_Get_spec n ws hw i]
theorem haystackref07_Rank_spec (n : Int) (ws : List Nat) (hw : Ws ws) (us vs : List Int) (hu : us.length < 4000000000) (hv : vs.length < 4000000000) (bit : Bool) (i : Int) (K : Int → Int → Option R) :
    haystackref07_Rank n (ci ws) us vs bit i K = K (rankP n ws us vs bit i).1 (rankP n ws us vs bit i).2 := by
  rw [haystackref07_Rank_unf]; unfold haystackref07_Rank_B rankP
  rw [haystackref07_Whole_spec n ws hw us vs hu hv]
  cases hok : okP n ws us vs with
  | false => rfl
  | true =>
    obtain ⟨l, rfl, rfl, hl, rfl, rfl⟩ := okP_of hok hw.1
    rw [if_pos rfl, if_pos rfl, Bool.not_true, Ev.sel_false]
    by_cases h1 : i < 0
    · rw [sel_pos h1, if_pos (.inl h1)]
    rw [sel_neg h1]
    by_cases h2 : (l.length : Int) < i
    · rw [sel_pos h2, if_pos (.inr h2)]
    obtain ⟨p, rfl⟩ : ∃ p : Nat, i = (p : Int) := ⟨i.toNat, by omega⟩
    have h3 := cntOf_add l p
    rw [sel_neg h2, if_neg (by omega), haystackref07_Rank_j7_unf]; unfold haystackref07_Rank_j7_B
    rw [haystackref02_Ones_in l hl p (by omega), rowB_wds, Int.toNat_natCast]
    cases bit with
    | true => rfl
    | false =>
      rw [Bool.not_false, Ev.sel_true, subW_i64 (by omega) (by omega), show (p : Int) - ((cntOf l true p : Nat) : Int) = ((cntOf l false p : Nat) : Int) by omega]
theorem bne_eq (a b : Bool) : (!(a == b)) = !decide (a = b) := by cases a <;> cases b <;> rfl
theorem ref7_Select_loop (l : List Bool) (hl : l.length ≤ 1048576) (bit : Bool) (k : Nat) (K0 : Int → Int → Option R) (K1 : Unit → Option R) : ∀ (f N i : Nat), i + f = l.length → f < N →
    haystackref07_Select_l7_L K0 K1 N bit (k : Int) ((cntOf l bit i : Nat) : Int) (i : Int) (l.length : Int) (ci (wds l)) = match seekB l bit k i f with | some q => K0 (q : Int) 0 | none => K1 ()
  | _, 0, _, _, h => by omega
  | 0, N + 1, i, h1, _ => by
    simp only [haystackref07_Select_l7_L, haystackref07_Select_l7_T]
    rw [sel_neg (by omega)]; rfl
  | f + 1, N + 1, i, h1, h2 => by
    simp only [haystackref07_Select_l7_L, haystackref07_Select_l7_T]
    have hc : cntOf l bit (i + 1) = cntOf l bit i + (l.getD i false == bit).toNat := rfl
    have hle := cntOf_le l bit i
    have ih := ref7_Select_loop l hl bit k K0 K1 f N (i + 1) (by omega) (by omega)
    rw [sel_pos (by omega), haystackref02_At_spec _ _ (fun w hw => wds_lt hw) i (by rw [wds_length]; omega) (by omega), bitAt_wds, bne_eq, addW_i64 (a := (i : Int)) (by omega) (by omega), show (i : Int) + 1 = ((i + 1 : Nat) : Int) by omega]
    unfold seekB
    by_cases hb : l.getD i false = bit
    · have hb2 : (l.getD i false == bit) = true := by rw [hb]; exact beq_self_eq_true _
      rw [hb2] at hc
      rw [sel_npos hb]
      by_cases hk : cntOf l bit i = k
      · rw [sel_pos (by omega), if_pos ⟨hb, hk⟩]
      · rw [sel_neg (by omega), if_neg (fun h => hk h.2), addW_i64 (by omega) (by omega), show ((cntOf l bit i : Nat) : Int) + 1 = ((cntOf l bit (i + 1) : Nat) : Int) by rw [hc]; rfl]
        exact ih
    · have hb2 : (l.getD i false == bit) = false := by
        cases h : (l.getD i false == bit) with
        | false => rfl
        | true => exact absurd (eq_of_beq h) hb
      rw [hb2] at hc
      rw [sel_nneg hb, if_neg (fun h => hb h.1), show cntOf l bit i = cntOf l bit (i + 1) by rw [hc]; rfl]
      exact ih
theorem ref7_Select_neg (l : List Bool) (hl : l.length ≤ 1048576) (bit : Bool) (k : Int) (hk : k < 0) (K0 : Int → Int → Option R) (K1 : Unit → Option R) : ∀ (f N i : Nat), i + f = l.length → f < N →
    haystackref07_Select_l7_L K0 K1 N bit k ((cntOf l bit i : Nat) : Int) (i : Int) (l.length : Int) (ci (wds l)) = K1 ()
  | _, 0, _, _, h => by omega
  | 0, N + 1, i, h1, _ => by
    simp only [haystackref07_Select_l7_L, haystackref07_Select_l7_T]
    rw [sel_neg (by omega)]
  | f + 1, N + 1, i, h1, h2 => by
    simp only [haystackref07_Select_l7_L, haystackref07_Select_l7_T]
    have hc : cntOf l bit (i + 1) = cntOf l bit i + (l.getD i false == bit).toNat := rfl
    have hle := cntOf_le l bit i
    have ih := ref7_Select_neg l hl bit k hk K0 K1 f N (i + 1) (by omega) (by omega)
    rw [sel_pos (by omega), haystackref02_At_spec _ _ (fun w hw => wds_lt hw) i (by rw [wds_length]; omega) (by omega), bitAt_wds, bne_eq, addW_i64 (a := (i : Int)) (by omega) (by omega), show (i : Int) + 1 = ((i + 1 : Nat) : Int) by omega]
    by_cases hb : l.getD i false = bit
    · have hb2 : (l.getD i false == bit) = true := by rw [hb]; exact beq_self_eq_true _
      rw [hb2] at hc
      rw [sel_npos hb, sel_neg (by omega), addW_i64 (by omega) (by omega), show ((cntOf l bit i : Nat) : Int) + 1 = ((cntOf l bit (i + 1) : Nat) : Int) by rw [hc]; rfl]
      exact ih
    · have hb2 : (l.getD i false == bit) = false := by
        cases h : (l.getD i false == bit) with
        | false => rfl
        | true => exact absurd (eq_of_beq h) hb
      rw [hb2] at hc
      rw [sel_nneg hb, show cntOf l bit i = cntOf l bit (i + 1) by rw [hc]; rfl]
      exact ih
theorem haystackref07_Select_spec (n : Int) (ws : List Nat) (hw : Ws ws) (us vs : List Int) (hu : us.length < 4000000000) (hv : vs.length < 4000000000) (bit : Bool) (k : Int) (K : Int → Int → Option R) :
    haystackref07_Select n (ci ws) us vs bit k K = K (selP n ws us vs bit k).1 (selP n ws us vs bit k).2 := by
  rw [haystackref07_Select_unf]; unfold haystackref07_Select_B selP
  rw [haystackref07_Whole_spec n ws hw us vs hu hv]
  cases hok : okP n ws us vs with
  | false => rfl
  | true =>
    obtain ⟨l, rfl, rfl, hl, rfl, rfl⟩ := okP_of hok hw.1
    rw [if_pos rfl, if_pos rfl, Bool.not_true, Ev.sel_false, haystackref07_Select_l7_unf, rowB_wds]
    unfold haystackref07_Select_l7_B
    by_cases h1 : k < 0
    · rw [if_pos h1]
      exact ref7_Select_neg l hl bit k h1 _ _ l.length NR 0 (by omega) (by have := NR_lt; omega)
    obtain ⟨q, rfl⟩ : ∃ q : Nat, k = (q : Int) := ⟨k.toNat, by omega⟩
    rw [if_neg h1, Int.toNat_natCast]
    refine (ref7_Select_loop l hl bit q _ _ l.length NR 0 (by omega) (by have := NR_lt; omega)).trans ?_
    unfold placeB
    cases seekB l bit q 0 l.length <;> rfl
end
end Go.Proofs.YtllgdcepgelahaaDoor
