/- Layer 10: the laws without the document are true, whatever the input. -/
import Derived.Test.YtofblchonjfdbaaGreatDoorVector
import Derived.Test.YtofblchonjfdbaaGreatDoorBitsRef
import Derived.Test.YtofblchonjfdbaaGreatDoorEvC
namespace Go.Proofs.YtofblchonjfdbaaGreatDoor
open Go Go.Ev
section
variable {R : Type}
theorem heads10_spec (K : Bool → Option R) : haystacklaw10_heads K = K true := by
  have w22 : wds [false, true, true, false, true] = [22] := by decide +kernel
  have a2 : accB [false, true, true, false, true] 4 = (true, 0) := by decide +kernel
  have a3 : rnkB [false, true, true, false, true] true 4 = (2, 0) := by decide +kernel
  have a4 : selB [false, true, true, false, true] true 2 = (4, 0) := by decide +kernel
  have a5 : selB [false, true, true, false, true] false 1 = (3, 0) := by decide +kernel
  have a6 : selB [false, true, true, false, true] true 3 = (0, 3) := by decide +kernel
  have a7 : okRow 1 [] = false := by decide +kernel
  have hl : [false, true, true, false, true].length ≤ 3000 := by decide
  have hb := vector_Build_yes (R := R) 2 (by decide) [false, true, true, false, true] hl
  generalize hL : [false, true, true, false, true] = L at *
  have hlen : (L.length : Int) = 5 := by rw [← hL]; rfl
  rw [w22, hlen] at hb
  rw [haystacklaw10_heads_unf]; unfold haystacklaw10_heads_B
  refine hb _ _ fun n ws us vs a b c d xs f ys us' vs' a' b' c' d' e' xs' f' ys' r => ?_
  rw [vector_Access_yes hl r _ (by decide) (by decide), a2]
  dsimp only
  rw [haystacklaw10_heads_j4_unf]; unfold haystacklaw10_heads_j4_B
  rw [vector_Rank_yes hl r, a3]
  dsimp only
  rw [vector_Select_yes hl r, a4]
  dsimp only
  rw [vector_Select_yes hl r, a5]
  dsimp only
  rw [vector_Select_yes hl r, a6]
  dsimp only
  rw [show ([] : List Int) = ci [] from rfl, vector_Build_bad2 1 [] ⟨by simp, by simp⟩ a7]
  rw [sel_pos rfl, Ev.sel_true, sel_pos rfl, sel_pos rfl, sel_pos rfl, sel_pos rfl, sel_pos rfl, sel_pos rfl, sel_pos rfl, sel_pos rfl, sel_pos rfl, vector_Check_yes hl r, Ev.sel_true]
  obtain ⟨z, hz, e⟩ := vector_Size_yes (R := R) hl r (fun v1l => sel (decide (0 < v1l)) (vector_Bits 2 n ws us vs a b c d xs f ys us' vs' a' b' c' d' e' xs' f' ys' fun v1m v1n => haystackref02_Same v1m v1n 5 [22] fun v1o => K v1o) none)
  refine (show _ = _ from e).trans ?_
  rw [sel_pos hz, vector_Bits_yes hl r, w22, hlen, haystackref02_Same_spec _ _ _ _ (by decide), decide_eq_true ⟨rfl, rfl⟩]
theorem guard10 {n : Int} {ws : List Nat} (hw : ∀ w ∈ ws, w < 2 ^ 64) {X : Option R} {K : Bool → Option R} (H : ∀ l : List Bool, n = (l.length : Int) → ws = wds l → l.length ≤ 3000 → X = K true) :
    sel (decide (3000 < n)) (haystacklaw10_heads fun b => K b) (sel (decide (3000 < (((ci ws).length : Nat) : Int))) (haystacklaw10_heads fun b => K b) (haystackref02_Check n (ci ws) fun b => sel (!b) (haystacklaw10_heads fun b => K b) X)) = K true := by
  by_cases h1 : 3000 < n
  · rw [sel_pos h1, heads10_spec]
  rw [sel_neg h1, ci_length]
  by_cases h2 : 3000 < ((ws.length : Nat) : Int)
  · rw [sel_pos h2, heads10_spec]
  have hW : Ws ws := ⟨hw, by omega⟩
  rw [sel_neg h2, haystackref02_Check_spec n ws hW]
  cases hok : okRow n ws with
  | false => rw [Bool.not_false, Ev.sel_true, heads10_spec]
  | true =>
    obtain ⟨l, h3, h4, h5⟩ := okRow_wds hok hw
    rw [Bool.not_true, Ev.sel_false]
    exact H l h3 h4 (by omega)
theorem kind10 {k : Int} {X : Option R} {K : Bool → Option R} (H : 1 ≤ k → k ≤ 3 → X = K true) : sel (decide (k < 1)) (haystacklaw10_heads fun b => K b) (sel (decide (3 < k)) (haystacklaw10_heads fun b => K b) X) = K true := by
  by_cases h1 : k < 1
  · rw [sel_pos h1, heads10_spec]
  rw [sel_neg h1]
  by_cases h2 : 3 < k
  · rw [sel_pos h2, heads10_spec]
  rw [sel_neg h2]
  exact H (by omega) (by omega)
theorem VectorAlike_true (k k2 n : Int) (ws : List Nat) (hw : ∀ w ∈ ws, w < 2 ^ 64) (i : Int) (hi : -9223372036854775808 ≤ i) (hi2 : i ≤ 9223372036854775807) (K : Bool → Option R) : haystacklaw10_VectorAlike k k2 n (ci ws) i K = K true := by
  rw [haystacklaw10_VectorAlike_unf]; unfold haystacklaw10_VectorAlike_B
  refine guard10 hw fun l h1 h2 h3 => kind10 fun k1 k3 => kind10 fun k4 k5 => ?_
  subst h1 h2
  rw [haystacklaw10_VectorAlike_j4_unf]; unfold haystacklaw10_VectorAlike_j4_B
  refine vector_Build_yes k ⟨k1, k3⟩ l h3 _ _ fun n ws us vs a b c d xs f ys us' vs' a' b' c' d' e' xs' f' ys' r => ?_
  refine vector_Build_yes k2 ⟨k4, k5⟩ l h3 _ _ fun _ _ _ _ _ _ _ _ _ _ _ _ _ _ _ _ _ _ _ _ _ s => ?_
  rw [sel_npos rfl, sel_npos rfl, haystacklaw10_VectorAlike_j8_unf]; unfold haystacklaw10_VectorAlike_j8_B
  rw [vector_Access_yes h3 r _ hi hi2, vector_Access_yes h3 s _ hi hi2, vector_Rank_yes h3 r, vector_Rank_yes h3 s, vector_Select_yes h3 r, vector_Select_yes h3 s, beq_self_eq_true, Ev.sel_true, sel_pos rfl, sel_pos rfl, sel_pos rfl, sel_pos rfl, sel_pos rfl, heads10_spec]
theorem beq_sel10 (a : Bool) {X Y : Option R} : sel (!(a == a)) X Y = Y := by rw [beq_self_eq_true]; rfl
theorem VectorBack_true (v n : Int) (ws : List Nat) (hw : ∀ w ∈ ws, w < 2 ^ 64) (bit : Bool) (k : Int) (K : Bool → Option R) : haystacklaw10_VectorBack v n (ci ws) bit k K = K true := by
  rw [haystacklaw10_VectorBack_unf]; unfold haystacklaw10_VectorBack_B
  refine guard10 hw fun l h1 h2 h3 => kind10 fun k1 k3 => ?_
  subst h1 h2
  have r1 : ∀ (bit : Bool) (q : Nat), q ≤ l.length → rnkB l bit (q : Int) = (((cntOf l bit q : Nat) : Int), 0) := fun bit q hq => by
    unfold rnkB; rw [if_neg (by omega), Int.toNat_natCast]
  rw [haystacklaw10_VectorBack_j4_unf]; unfold haystacklaw10_VectorBack_j4_B
  refine vector_Build_yes v ⟨k1, k3⟩ l h3 _ _ fun n ws us vs a b c d xs f ys us' vs' a' b' c' d' e' xs' f' ys' r => ?_
  rw [haystacklaw10_VectorBack_j5_unf]; unfold haystacklaw10_VectorBack_j5_B
  rw [sel_npos rfl, vector_Check_yes h3 r, Bool.not_true, Ev.sel_false, vector_Bits_yes h3 r, haystackref02_Same_spec _ _ _ _ (by rw [ci_length, wds_length]; omega), decide_eq_true ⟨rfl, rfl⟩, Bool.not_true, Ev.sel_false, haystacklaw10_VectorBack_j7_unf]; unfold haystacklaw10_VectorBack_j7_B
  rw [vector_Rank_yes h3 r, r1 _ l.length (Nat.le_refl _)]
  dsimp only
  rw [vector_Select_yes h3 r, sel_npos rfl]
  by_cases c1 : k < 0
  · have e : selB l bit k = (0, 3) := by unfold selB; rw [if_pos c1]
    rw [e, sel_neg (by omega)]
    dsimp only
    rw [decide_eq_false (show ¬ (3 : Int) = 0 by decide), beq_sel10, haystacklaw10_VectorBack_j11_unf]; unfold haystacklaw10_VectorBack_j11_B
    rw [sel_nneg (by decide), sel_pos rfl, heads10_spec]
  obtain ⟨q, rfl⟩ : ∃ q : Nat, k = (q : Int) := ⟨k.toNat, by omega⟩
  have e : selB l bit (q : Int) = match placeB l bit q with | some i => ((i : Int), 0) | none => (0, 3) := by
    unfold selB; rw [if_neg (by omega), Int.toNat_natCast]
    cases placeB l bit q <;> rfl
  rw [sel_pos (by omega), e]
  by_cases c2 : q < cntOf l bit l.length
  · obtain ⟨i, e1, e2⟩ := placeB_ex c2
    have hi := e2.lt
    have r2 : accB l (i : Int) = (l.getD i false, 0) := by
      unfold accB; rw [if_neg (by omega), Int.toNat_natCast]
    rw [e1]
    dsimp only
    rw [decide_eq_true (show (0 : Int) = 0 from rfl), decide_eq_true (show (q : Int) < ((cntOf l bit l.length : Nat) : Int) by omega), beq_sel10, haystacklaw10_VectorBack_j11_unf]; unfold haystacklaw10_VectorBack_j11_B
    rw [sel_npos rfl, vector_Rank_yes h3 r, r1 _ i (by omega)]
    dsimp only
    rw [vector_Access_yes h3 r _ (by omega) (by omega), r2]
    dsimp only
    rw [sel_pos rfl, e2.cnt, sel_pos rfl, sel_pos rfl, e2.is, beq_self_eq_true, Ev.sel_true, heads10_spec]
  · rw [placeB_none (by omega)]
    dsimp only
    rw [decide_eq_false (show ¬ (3 : Int) = 0 by decide), decide_eq_false (show ¬ (q : Int) < ((cntOf l bit l.length : Nat) : Int) by omega), beq_sel10, haystacklaw10_VectorBack_j11_unf]; unfold haystacklaw10_VectorBack_j11_B
    rw [sel_nneg (by decide), sel_pos rfl, heads10_spec]
/-! ### the rows -/
abbrev VectorAlike_pas : List Pa := [.one (.int .i64), .one (.int .i64), .st rowC, .one (.int .i64)]
theorem VectorAlike_law : ∀ vs, pasHas VectorAlike_pas vs → sp3 vs AV some = some (.bool true) := by
  rintro vs ⟨_, _, rfl, ⟨k, rfl, _⟩, _, _, rfl, ⟨k2, rfl, _⟩, _, _, rfl, hr, _, _, rfl, ⟨i, rfl, hi⟩, rfl⟩
  obtain ⟨n, ws, rfl, _, hw⟩ := row_has hr
  exact VectorAlike_true k k2 n ws hw i (has_i64 hi).1 (has_i64 hi).2 _
abbrev VectorBack_pas : List Pa := [.one (.int .i64), .st rowC, .one .bool, .one (.int .i64)]
theorem VectorBack_law : ∀ vs, pasHas VectorBack_pas vs → sp6 vs AV some = some (.bool true) := by
  rintro vs ⟨_, _, rfl, ⟨v, rfl, _⟩, _, _, rfl, hr, _, _, rfl, ⟨bit, rfl⟩, _, _, rfl, ⟨k, rfl, _⟩, rfl⟩
  obtain ⟨n, ws, rfl, _, hw⟩ := row_has hr
  exact VectorBack_true v n ws hw bit k _
end
end Go.Proofs.YtofblchonjfdbaaGreatDoor
