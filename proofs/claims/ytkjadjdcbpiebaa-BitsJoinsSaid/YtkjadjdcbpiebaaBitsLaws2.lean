/- Layer 2: the laws of bits that are set, and of joined rows, are true, whatever the input. -/
import Derived.Test.YtkjadjdcbpiebaaBitsLaws
namespace Go.Proofs.Ytkjadjdcbpiebaa
open Go Go.Ev
section
variable {R : Type}
theorem cntB_set : ∀ (l : List Bool) (q : Nat) (b : Bool), q < l.length → cntB (l.set q b) + (l.getD q false).toNat = cntB l + b.toNat
  | [], _, _, h => by simp at h
  | x :: l, 0, b, _ => by
    cases x <;> cases b <;> simp [cntB]
  | x :: l, q + 1, b, h => by
    have ih := cntB_set l q b (by simpa using h)
    have e1 : cntB ((x :: l).set (q + 1) b) = x.toNat + cntB (l.set q b) := by cases x <;> simp [cntB, Nat.add_comm]
    have e2 : cntB (x :: l) = x.toNat + cntB l := by cases x <;> simp [cntB, Nat.add_comm]
    have e3 : (x :: l).getD (q + 1) false = l.getD q false := rfl
    rw [e1, e2, e3]; omega
theorem getD_set (l : List Bool) (q : Nat) (b : Bool) (h : q < l.length) (i : Nat) : (l.set q b).getD i false = if i = q then b else l.getD i false := by
  simp only [List.getD_eq_getElem?_getD]
  split
  · rename_i e; subst e; rw [List.getElem?_set_self h]; rfl
  · rename_i e; rw [List.getElem?_set_ne (Ne.symm e)]

theorem BitsSets_true (n : Int) (ws : List Nat) (hw : ∀ w ∈ ws, w < 2 ^ 64) (i : Int) (hi1 : -9223372036854775808 ≤ i) (hi2 : i ≤ 9223372036854775807) (b : Bool) (o : Int) (ho1 : -9223372036854775808 ≤ o) (ho2 : o ≤ 9223372036854775807) (K : Bool → Option R) : haystacklaw02_BitsSets n (ci ws) i b o K = K true := by
  rw [haystacklaw02_BitsSets_unf]; unfold haystacklaw02_BitsSets_B
  refine guard02 hw fun l h1 h2 h3 => ?_
  subst h1 h2
  have hW := Ws.wds (l := l) (by omega)
  have hok := okRow_of l (by omega)
  show haystacklaw02_BitsSets_j4 _ _ _ _ _ _ = _
  rw [haystacklaw02_BitsSets_j4_unf]; unfold haystacklaw02_BitsSets_j4_B
  rw [bits_Set_spec _ _ hW i hi1 hi2]
  by_cases c1 : i < 0 ∨ (l.length : Int) ≤ i
  · have es : setS (l.length : Int) (wds l) i b = ((l.length : Int), wds l, 3) := by unfold setS; rw [if_pos hok, if_pos c1]
    rw [es]
    simp only [show ¬ ((3 : Int) = 0) by decide, decide_false, Bool.not_false, Ev.sel_true, decide_true]
    rw [haystackref02_Same_spec _ _ _ _ (by rw [ci_length, wds_length]; omega), sel_pos ⟨rfl, rfl⟩, heads02_spec]
  · have es : setS (l.length : Int) (wds l) i b = ((l.length : Int), wds (l.set i.toNat b), 0) := by unfold setS; rw [if_pos hok, if_neg c1, rowB_wds]
    rw [es]
    obtain ⟨q, rfl⟩ : ∃ q : Nat, i = (q : Int) := ⟨i.toNat, by omega⟩
    have hq : q < l.length := by omega
    simp only [decide_true, Bool.not_true, Ev.sel_false, Int.toNat_natCast]
    have hl' : (l.set q b).length = l.length := List.length_set
    have hW2 := Ws.wds (l := l.set q b) (by omega)
    have g2 : ∀ j, getS (l.length : Int) (wds (l.set q b)) j = if j < 0 ∨ (l.length : Int) ≤ j then (false, 3) else ((l.set q b).getD j.toNat false, 0) := fun j => by
      have := getS_wds (l.set q b) (by omega) j
      rwa [hl'] at this
    have o1 := onesS_wds l (by omega) l.length (Nat.le_refl _)
    have o2 := onesS_wds (l.set q b) (by omega) (l.set q b).length (Nat.le_refl _)
    rw [List.take_length] at o1 o2
    rw [hl'] at o2
    have ok2 := okRow_of (l.set q b) (by omega)
    rw [hl'] at ok2
    have hc := cntB_set l q b hq
    have hb1 := cntB_le l
    have hb2 := cntB_le (l.set q b)
    rw [bits_Get_spec _ _ hW _ (by omega) (by omega), bits_Get_spec _ _ hW2 _ (by omega) (by omega), bits_Get_spec _ _ hW _ ho1 ho2, bits_Get_spec _ _ hW2 _ ho1 ho2, bits_Ones_spec _ _ hW2, bits_Ones_spec _ _ hW, o1, o2,
      getS_wds l (by omega) (q : Int), g2 (q : Int), if_neg (by omega), if_neg (by omega), Int.toNat_natCast, getD_set l q b hq q, if_pos rfl, beq_self_eq_true, Ev.sel_true, subW_i64 (by omega) (by omega)]
    simp only []
    have fin : ∀ {X : Option R}, X = K true → sel ((l.getD q false == b) == decide ((cntB (l.set q b) : Int) - (cntB l : Int) = 0)) (sel (l.getD q false == b) X (sel (b == decide ((cntB (l.set q b) : Int) - (cntB l : Int) = 1)) X (K false))) (K false) = K true := fun {X} hX => by
      generalize l.getD q false = w at hc
      cases w <;> cases b <;> simp only [Bool.toNat_true, Bool.toNat_false] at hc
      · rw [decide_eq_true (by omega)]; exact hX
      · rw [decide_eq_false (by omega), decide_eq_true (by omega)]; exact hX
      · rw [decide_eq_false (by omega), decide_eq_false (by omega)]; exact hX
      · rw [decide_eq_true (by omega)]; exact hX
    have chk : bits_Check (l.length : Int) (ci (wds (l.set q b))) (fun b => sel b (haystacklaw02_heads fun b => K b) (K false)) = K true := by
      rw [bits_Check_spec _ _ hW2, ok2, Ev.sel_true, heads02_spec]
    by_cases c2 : o = (q : Int)
    · rw [sel_pos c2]
      exact fin chk
    · rw [sel_neg c2, getS_wds l (by omega) o, g2 o]
      by_cases c3 : o < 0 ∨ (l.length : Int) ≤ o
      · rw [if_pos c3, if_pos c3, beq_self_eq_true, Ev.sel_true, sel_pos rfl]
        exact fin chk
      · rw [if_neg c3, if_neg c3]
        simp only []
        rw [getD_set l q b hq, if_neg (by omega), beq_self_eq_true, Ev.sel_true, sel_pos trivial]
        exact fin chk
abbrev BitsSets_pas : List Pa := [.st rowC, .one (.int .i64), .one .bool, .one (.int .i64)]
theorem BitsSets_law : ∀ vs, pasHas BitsSets_pas vs → sp7 vs AV some = some (.bool true) := by
  rintro vs ⟨_, _, rfl, hr, _, _, rfl, ⟨i, rfl, hi⟩, _, _, rfl, ⟨b, rfl⟩, _, _, rfl, ⟨o, rfl, ho⟩, rfl⟩
  obtain ⟨n, ws, rfl, _, hw⟩ := row_has hr
  exact BitsSets_true n ws hw i (has_i64 hi).1 (has_i64 hi).2 b o (has_i64 ho).1 (has_i64 ho).2 _

theorem BitsJoins_true (n : Int) (ws : List Nat) (hw : ∀ w ∈ ws, w < 2 ^ 64) (m : Int) (vs : List Nat) (hv : ∀ w ∈ vs, w < 2 ^ 64) (i : Int) (hi1 : -9223372036854775808 ≤ i) (hi2 : i ≤ 9223372036854775807) (K : Bool → Option R) : haystacklaw02_BitsJoins n (ci ws) m (ci vs) i K = K true := by
  rw [haystacklaw02_BitsJoins_unf]; unfold haystacklaw02_BitsJoins_B
  rw [small02_spec, ci_length]
  by_cases h1 : ¬ (n ≤ 5000 ∧ ws.length ≤ 5000)
  · rw [decide_eq_false h1, Bool.not_false, Ev.sel_true, heads02_spec]
  replace h1 := Decidable.not_not.1 h1
  rw [decide_eq_true h1, Bool.not_true, Ev.sel_false, small02_spec, ci_length]
  by_cases h2 : ¬ (m ≤ 5000 ∧ vs.length ≤ 5000)
  · rw [decide_eq_false h2, Bool.not_false, Ev.sel_true, heads02_spec]
  replace h2 := Decidable.not_not.1 h2
  have hW1 : Ws ws := ⟨hw, by omega⟩
  have hV1 : Ws vs := ⟨hv, by omega⟩
  rw [decide_eq_true h2, Bool.not_true, Ev.sel_false, bits_Check_spec n ws hW1]
  cases hok : okRow n ws with
  | false => rw [Bool.not_false, Ev.sel_true, heads02_spec]
  | true =>
  rw [Bool.not_true, Ev.sel_false, bits_Check_spec m vs hV1]
  cases hok2 : okRow m vs with
  | false => rw [Bool.not_false, Ev.sel_true, heads02_spec]
  | true =>
  rw [Bool.not_true, Ev.sel_false]
  obtain ⟨a, rfl, rfl, _⟩ := okRow_wds hok hw
  obtain ⟨b, rfl, rfl, _⟩ := okRow_wds hok2 hv
  have hlen : (a ++ b).length = a.length + b.length := List.length_append
  have hC := Ws.wds (l := a ++ b) (by omega)
  have ej : joinS (a.length : Int) (wds a) (b.length : Int) (wds b) = ((((a ++ b).length : Nat) : Int), wds (a ++ b), (0 : Int)) := by
    unfold joinS
    rw [if_pos ⟨hok, hok2, by omega⟩, rowB_wds, rowB_wds, hlen, Int.natCast_add]
  have o1 := onesS_wds a (by omega) a.length (Nat.le_refl _)
  have o2 := onesS_wds b (by omega) b.length (Nat.le_refl _)
  have o3 := onesS_wds (a ++ b) (by omega) (a ++ b).length (Nat.le_refl _)
  rw [List.take_length] at o1 o2 o3
  have b1 := cntB_le a
  have b2 := cntB_le b
  have oc := cntB_append a b
  have j9 : ∀ (x : Bool) (f : Int), haystacklaw02_BitsJoins_j9 0 x f x f (a.length : Int) (ci (wds a)) (b.length : Int) (ci (wds b)) ((a ++ b).length : Int) (ci (wds (a ++ b))) (fun b => K b) = K true := fun x f => by
    rw [haystacklaw02_BitsJoins_j9_unf]; unfold haystacklaw02_BitsJoins_j9_B
    rw [sel_pos rfl, addW_i64 (by omega) (by omega), sel_pos (by omega), beq_self_eq_true, Ev.sel_true, sel_pos rfl, bits_Ones_spec _ _ hC, bits_Ones_spec _ _ hW1, bits_Ones_spec _ _ hV1, o1, o2, o3, addW_i64 (by omega) (by omega), sel_pos (by omega), heads02_spec]
  show haystacklaw02_BitsJoins_j4 _ _ _ _ _ _ = _
  rw [haystacklaw02_BitsJoins_j4_unf]; unfold haystacklaw02_BitsJoins_j4_B
  rw [bits_Join_spec _ _ hW1 _ _ hV1, ej]
  simp only []
  rw [bits_Get_spec _ _ hC _ hi1 hi2, bits_Get_spec _ _ hW1 _ hi1 hi2, getS_wds _ (by omega), getS_wds a (by omega)]
  by_cases c1 : (a.length : Int) ≤ i
  · rw [sel_pos c1, subW_i64 (by omega) (by omega), bits_Get_spec _ _ hV1 _ (by omega) (by omega), getS_wds b (by omega)]
    by_cases c2 : ((a ++ b).length : Int) ≤ i
    · rw [if_pos (.inr c2), if_pos (show i - (a.length : Int) < 0 ∨ (b.length : Int) ≤ i - (a.length : Int) by omega)]
      exact j9 _ _
    · rw [if_neg (show ¬ (i < 0 ∨ ((a ++ b).length : Int) ≤ i) by omega), if_neg (show ¬ (i - (a.length : Int) < 0 ∨ (b.length : Int) ≤ i - (a.length : Int)) by omega)]
      simp only []
      rw [getD_append, if_neg (by omega), show i.toNat - a.length = (i - (a.length : Int)).toNat by omega]
      exact j9 _ _
  · rw [sel_neg c1]
    by_cases c2 : i < 0
    · rw [if_pos (.inl c2), if_pos (.inl c2)]
      exact j9 _ _
    · rw [if_neg (show ¬ (i < 0 ∨ ((a ++ b).length : Int) ≤ i) by omega), if_neg (show ¬ (i < 0 ∨ (a.length : Int) ≤ i) by omega)]
      simp only []
      rw [getD_append, if_pos (by omega)]
      exact j9 _ _
abbrev BitsJoins_pas : List Pa := [.st rowC, .st rowC, .one (.int .i64)]
theorem BitsJoins_law : ∀ vs, pasHas BitsJoins_pas vs → sp8 vs AV some = some (.bool true) := by
  rintro vs ⟨_, _, rfl, hr, _, _, rfl, hr2, _, _, rfl, ⟨i, rfl, hi⟩, rfl⟩
  obtain ⟨n, ws, rfl, _, hw⟩ := row_has hr
  obtain ⟨m, us, rfl, _, hv⟩ := row_has hr2
  exact BitsJoins_true n ws hw m us hv i (has_i64 hi).1 (has_i64 hi).2 _
end
end Go.Proofs.Ytkjadjdcbpiebaa
