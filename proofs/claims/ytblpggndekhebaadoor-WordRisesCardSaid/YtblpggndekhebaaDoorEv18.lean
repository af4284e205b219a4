/- Code: what the evaluator tells of it is what the model does. -/
import Derived.Test.YtblpggndekhebaaDoorEv17
import Derived.Orders
import Derived.LoopN
import Derived.ScopeJumps
namespace Go.Ev

def exOf : Ex → Exit
  | .normal => .normal
  | .exit id => .exit id
  | .goto l => .goto l
  | .ret => .ret

/-- A state on the way, told against the one at the begin of the function. -/
structure Inv (E : Env) (X : Nat → Prop) (h0 : H) (m0 : Nat → Option Nat) (w0 : World) (st : St) (m : Nat → Option Nat) (w : World) (a : Act) : Prop where
  sim : Sim E X st.t st.h m w a
  adv : Adv E X h0 m0 w0 st.h m w
  old : ∀ b, b < h0.length → m b = m0 b

section
variable {P : Program} {E : Env} {X : Nat → Prop} {h0 : H} {m0 : Nat → Option Nat} {w0 : World} {call : CallF}

theorem guard_ok {C : Cx} {ops : Array Oper} {t : List AV} {tmps : Array Value} {o : Oper} {b : Bool} (h : guardA ops.toList t o = some b) (ht : relL C t tmps.toList) : Region.wanted o (yielded ops tmps) = b := by
  unfold guardA at h
  unfold Region.wanted
  split at h
  · rename_i hg; rw [hg]; cases h; rfl
  · rename_i j want hg
    rw [hg]
    simp only
    rw [Array.getElem?_toList] at h
    split at h
    · rename_i hd
      cases h
      simp [yielded, hd]
    · rename_i d hd
      have hy : yielded ops tmps j = match tmps[d]? with | some (.bool b) => some b | _ => none := by
        unfold yielded; rw [hd]; rfl
      rw [hy]
      have hv : ∀ v, t.getD d .undef = v → v ≠ .undef → ∃ u, tmps[d]? = some u ∧ rel C v u := by
        intro v hv hne
        rw [List.getD_eq_getElem?_getD] at hv
        cases hq : t[d]? with
        | none => rw [hq] at hv; exact absurd hv.symm hne
        | some x =>
          rw [hq] at hv
          simp only [Option.getD_some] at hv
          subst hv
          obtain ⟨u, h1, h2⟩ := relL_get d x ht hq
          exact ⟨u, by rw [← Array.getElem?_toList]; exact h1, h2⟩
      split at h
      · rename_i b' hb
        obtain ⟨u, h1, h2⟩ := hv _ hb (by simp)
        have h2 : u = .bool b' := h2
        subst h2
        cases h
        rw [h1]
        cases want <;> cases b' <;> rfl
      · rename_i vs hb
        obtain ⟨u, h1, us, h2, _⟩ := hv _ hb (by simp)
        subst h2
        cases h
        rw [h1]; rfl
      · rename_i k n hb
        obtain ⟨u, h1, h2⟩ := hv _ hb (by simp)
        have h2 : u = .int k n := h2
        subst h2
        cases h
        rw [h1]; rfl
      · cases h

theorem Sim.put {t : List AV} {h : H} {m m1 : Nat → Option Nat} {w w1 : World} {h1 : H} {a : Act} {v : AV} {u : Value} {dst : Option Tmp} (S : Sim E X t h m w a) (A : Adv E X h m w h1 m1 w1) (hr : rel (cx X h1 m1 w1) v u) : Sim E X (setT t dst v) h1 m1 w1 (a.put dst u) := by
  have ht := relL_step A.step t _ S.tm
  refine ⟨A.good, ?_, ?_⟩
  · cases dst with
    | none => exact ht
    | some d =>
      simp only [setT, Act.put, Array.toList_setIfInBounds]
      exact relL_set d v u ht hr
  · cases dst <;> exact S.df

theorem set_self {t : List AV} {d : Nat} {b : Bool} (h : t.getD d .undef = .bool b) : t.set d (.bool b) = t := by
  rw [List.getD_eq_getElem?_getD] at h
  cases hq : t[d]? with
  | none => rw [hq] at h; cases h
  | some x =>
    rw [hq] at h
    simp only [Option.getD_some] at h
    subst h
    obtain ⟨h1, h2⟩ := List.getElem?_eq_some_iff.1 hq
    rw [← h2, List.set_getElem_self]
theorem evSeq_cons {all : List Oper} {o : Oper} {rest : List Oper} {t : List AV} {h : H} {R : Type} {K : List AV → H → Option R} {r : R} (hr : evSeq E call all (o :: rest) t h K = some r) :
    ∃ b, guardA all t o = some b ∧ (b = true → (evOp E call t h h.length o fun v h1 => evSeq E call all rest (setT t o.dst v) h1 K) = some r) ∧ (b = false → evSeq E call all rest (setT t o.dst (.tup [])) h K = some r) := by
  simp only [evSeq] at hr
  unfold guardA
  split at hr
  · rename_i hg
    exact ⟨true, by simp, fun _ => hr, (fun h => by cases h)⟩
  · rename_i j want hg
    split at hr
    · rename_i hd
      exact ⟨false, by simp, (fun h => by cases h), fun _ => hr⟩
    · rename_i d hd
      split at hr
      · rename_i b hb
        clear hg
        cases want with
        | true =>
          refine ⟨b, by simp, ?_⟩
          cases b with
          | true => rw [set_self hb] at hr; exact ⟨fun _ => hr, (fun h => by cases h)⟩
          | false => rw [set_self hb] at hr; exact ⟨(fun h => by cases h), fun _ => hr⟩
        | false =>
          refine ⟨!b, by simp, ?_⟩
          cases b with
          | true => rw [set_self hb] at hr; exact ⟨(fun h => by cases h), fun _ => hr⟩
          | false => rw [set_self hb] at hr; exact ⟨fun _ => hr, (fun h => by cases h)⟩
      · rename_i vs hb
        exact ⟨false, rfl, (fun h => by cases h), fun _ => hr⟩
      · rename_i k n hb
        exact ⟨false, rfl, (fun h => by cases h), fun _ => hr⟩
      · cases hr

theorem evSeq_ok (hE : EnvOk E P) (hcall : CallOk P E call) (hn : CallNat call) {R : Type} {r : R} {ops : Array Oper} {Q : Exit → Act → World → Prop} :
    ∀ (l : List Oper) (i : Nat) (t : List AV) (h : H) (m : Nat → Option Nat) (w : World) (a : Act) (K : List AV → H → Option R), ops.toList.drop i = l → evSeq E call ops.toList l t h K = some r → Inv E X h0 m0 w0 ⟨t, h⟩ m w a →
      (∀ t' h' m' w' a', K t' h' = some r → Inv E X h0 m0 w0 ⟨t', h'⟩ m' w' a' → Q .normal a' w') → wpOps P ops Q (List.range' i l.length) a w
  | [], _, t, h, m, w, a, K, _, hr, hi, hK => hK t h m w a hr hi
  | o :: rest, i, t, h, m, w, a, K, hl, hr, hi, hK => by
    have ho : ops[i]? = some o := by
      have : ops.toList[i]? = some o := by
        have h1 : (ops.toList.drop i)[0]? = some o := by rw [hl]; rfl
        simpa using h1
      rwa [Array.getElem?_toList] at this
    have hl' : ops.toList.drop (i + 1) = rest := by
      rw [← List.drop_drop, hl]; rfl
    rw [List.length_cons, List.range'_succ, wpOps_cons]
    unfold wpOp
    rw [ho]
    obtain ⟨b, hb, hr1, hr2⟩ := evSeq_cons hr
    · have hw := guard_ok hb hi.sim.tm
      cases b with
      | true =>
        replace hr := hr1 rfl
        obtain ⟨v, h1, h2, h3⟩ := evOp_says E hn hr
        simp only [hw, if_true]
        left
        have f : Free h m h.length := ⟨Nat.le_refl _, hi.sim.good.hi _ (Nat.le_refl _), fun b hb => by rw [List.getElem?_eq_none (Nat.le_refl _)] at hb; cases hb⟩
        refine evOp_ok hE hcall hi.sim f h2 fun u m1 w1 A hrel hm => ?_
        refine evSeq_ok hE hcall hn rest (i + 1) _ _ m1 w1 _ K hl' h3 ⟨hi.sim.put A hrel, hi.adv.trans A, fun b hb => ?_⟩ hK
        have := hi.adv.len
        have hb' : b < h.length := Nat.lt_of_lt_of_le hb this
        rw [hm b hb' (by omega), hi.old b hb]
      | false =>
        replace hr := hr2 rfl
        simp only [hw]
        refine evSeq_ok hE hcall hn rest (i + 1) _ _ m w _ K hl' hr ⟨hi.sim.put (v := .tup []) (Adv.refl hi.sim.good) ⟨[], rfl, rfl⟩, hi.adv, hi.old⟩ hK

theorem norm_ok {R : Type} {r : R} {ks : Option (List Nat)} {st : St} {K : St → Option R} {m : Nat → Option Nat} {w : World} {a : Act} (g0 : Good E X h0 m0 w0) (h : norm ks h0.length st K = some r) (hi : Inv E X h0 m0 w0 st m w a) :
    ∃ st' m', K st' = some r ∧ Inv E X h0 m0 w0 st' m' w a := by
  unfold norm at h
  split at h
  · exact ⟨st, m, h, hi⟩
  · rename_i ks
    split at h
    · rename_i hlen
      obtain ⟨hc, hk⟩ := sel_iff.1 h
      simp only [Bool.and_eq_true] at hc
      obtain ⟨⟨hc1, hc2⟩, hc3⟩ := hc
      obtain ⟨m', h1, h2, h3⟩ := norm_good hi.sim.good (relL_keep ks 0 _ _ hi.sim.tm) hc1 hc2 hc3
      refine ⟨_, m', hk, ⟨h1, h2, hi.sim.df⟩, ⟨h1, ?_, fun q hq => hi.adv.L q (h3 q hq), hi.adv.frame, hi.adv.shape, hi.adv.os, hi.adv.tape, hi.adv.output, hi.adv.size, by rw [hlen]; exact Nat.zero_le _⟩, fun b hb => by rw [hlen] at hb; exact absurd hb (Nat.not_lt_zero _)⟩
      intro b g hb
      rw [g0.hi b (by rw [hlen]; exact Nat.zero_le _)] at hb
      cases hb
    · exact ⟨_, m, h, ⟨hi.sim.good, relL_keep ks 0 _ _ hi.sim.tm, hi.sim.df⟩, hi.adv, hi.old⟩

theorem wp_region_seq {id : Nat} {ops : Array Oper} {Q : Exit → Act → World → Prop} {a : Act} {w : World} (h : wpOps P ops Q (List.range' 0 ops.toList.length) a w) : (Code.region id ops false).wp P Q a w := by
  refine wp_region ?_
  rw [List.range_eq_range', ← Array.length_toList]
  exact h

/-- the least of what there is -/
theorem least {p : Nat → Prop} (h : ∃ k, p k) : ∃ k, p k ∧ ∀ j, p j → k ≤ j := by
  obtain ⟨k, hk⟩ := h
  induction k using Nat.strongRecOn with
  | _ k ih =>
    by_cases hj : ∃ j, j < k ∧ p j
    · obtain ⟨j, h1, h2⟩ := hj; exact ih j h1 h2
    · refine ⟨k, hk, fun j hp => ?_⟩
      rcases Nat.lt_or_ge j k with h1 | h1
      · exact absurd ⟨j, h1, hp⟩ hj
      · exact h1
open Classical in
noncomputable def leastOf (p : Nat → Prop) : Nat := if h : ∃ k, p k then (least h).choose else 0
theorem leastOf_spec {p : Nat → Prop} (h : ∃ k, p k) : p (leastOf p) ∧ ∀ j, p j → leastOf p ≤ j := by
  unfold leastOf
  rw [dif_pos h]
  exact (least h).choose_spec

theorem kOut_ok {R : Type} {r : R} {fid key : Nat} {K : Ex → St → Option R} {Q : Exit → Act → World → Prop} (g0 : Good E X h0 m0 w0) (hK : ∀ ex st' m' w' a', K ex st' = some r → Inv E X h0 m0 w0 st' m' w' a' → Q (exOf ex) a' w') :
    ∀ ex st' m' w' a', kOut E fid h0.length key K ex st' = some r → Inv E X h0 m0 w0 st' m' w' a' → Q (exOf ex) a' w' := by
  intro ex st' m' w' a' h hi
  obtain ⟨st'', m'', h1, hi'⟩ := norm_ok g0 h hi
  exact hK ex st'' m'' w' a' h1 hi'

/-- what is told of the pieces of a code is so -/
def OrcOk (E : Env) (call : CallF) (O : Nat → Option PSpec) (fid base : Nat) : Nat → Code → Prop
  | 0, _ => True
  | n + 1, c => match c with
    | .seq a b => OrcOk E call O fid base n a ∧ OrcOk E call O fid base n b ∧ ∀ sp, O (keyOf b * 1000) = some sp → ∀ (R : Type) (r : R) st K, sp st R K = some r → evCode E call O fid base n b st (kOut E fid base (keyOf b * 1000 + 1) K) = some r
    | .cond _ a b => OrcOk E call O fid base n a ∧ OrcOk E call O fid base n b
    | .block _ c => OrcOk E call O fid base n c
    | .loop c => OrcOk E call O fid base n c ∧ ∀ sp, O (keyOf c * 1000 + 400) = some sp → ∀ (R : Type) (r : R) st K, sp st R K = some r → evLoop (norm (E.keep fid (keyOf c * 1000 + 400)) base) (evCode E call O fid base n c) E.rounds st (kOut E fid base (keyOf c * 1000 + 401) K) = some r
    | .scope c => OrcOk E call O fid base n c ∧ ∀ l rest, findLabel c l = some rest → OrcOk E call O fid base n rest
    | _ => True
theorem OrcOk.none {E : Env} {call : CallF} {fid base : Nat} : ∀ n c, OrcOk E call (fun _ => none) fid base n c
  | 0, _ => trivial
  | n + 1, c => by
    have ih := OrcOk.none (E := E) (call := call) (fid := fid) (base := base) n
    cases c <;> first | trivial | exact ⟨ih _, ih _, fun sp h => nomatch h⟩ | exact ⟨ih _, ih _⟩ | exact ih _ | exact ⟨ih _, fun _ _ _ => ih _⟩ | exact ⟨ih _, fun sp h => nomatch h⟩
theorem of_orcOr {R : Type} {o : Option PSpec} {f : St → (Ex → St → Option R) → Option R} {out : (Ex → St → Option R) → Ex → St → Option R} {st : St} {K : Ex → St → Option R} {r : R} (h : orcOr o f out st K = some r) (hs : ∀ sp, o = some sp → sp st R K = some r → f st (out K) = some r) : f st (out K) = some r := by
  unfold orcOr at h
  split at h
  · exact hs _ rfl h
  · exact h
/-- the pieces of which something is told: how deep, a loop or not, which -/
def orcs (O : Nat → Option PSpec) : Nat → Code → Option (List (Nat × Bool × Code))
  | 0, _ => some []
  | n + 1, c => match c with
    | .seq a b => match orcs O n a, orcs O n b with
      | some l, some l' => (match O (keyOf b * 1000) with | some _ => some ((n, false, b) :: (l ++ l')) | Option.none => some (l ++ l'))
      | _, _ => Option.none
    | .cond _ a b => match orcs O n a, orcs O n b with
      | some l, some l' => some (l ++ l')
      | _, _ => Option.none
    | .block _ c => orcs O n c
    | .loop c => match orcs O n c with
      | some l => (match O (keyOf c * 1000 + 400) with | some _ => some ((n, true, c) :: l) | Option.none => some l)
      | Option.none => Option.none
    | .scope _ => Option.none
    | _ => some []
/-- what is told of one is so -/
def PieceOk (E : Env) (call : CallF) (O : Nat → Option PSpec) (fid base : Nat) : Nat × Bool × Code → Prop
  | (n, false, b) => ∀ sp, O (keyOf b * 1000) = some sp → ∀ (R : Type) (r : R) st K, sp st R K = some r → evCode E call O fid base n b st (kOut E fid base (keyOf b * 1000 + 1) K) = some r
  | (n, true, c) => ∀ sp, O (keyOf c * 1000 + 400) = some sp → ∀ (R : Type) (r : R) st K, sp st R K = some r → evLoop (norm (E.keep fid (keyOf c * 1000 + 400)) base) (evCode E call O fid base n c) E.rounds st (kOut E fid base (keyOf c * 1000 + 401) K) = some r
theorem OrcOk.of {E : Env} {call : CallF} {O : Nat → Option PSpec} {fid base : Nat} : ∀ n c l, orcs O n c = some l → (∀ x ∈ l, PieceOk E call O fid base x) → OrcOk E call O fid base n c
  | 0, _, _, _, _ => trivial
  | n + 1, c, l, hl, h => by
    have ih := OrcOk.of (E := E) (call := call) (O := O) (fid := fid) (base := base) n
    cases c <;> simp only [orcs] at hl <;> try trivial
    case seq a b =>
      split at hl
      · rename_i l1 l2 h1 h2
        split at hl
        · cases hl
          exact ⟨ih a l1 h1 fun x hx => h x (by simp [hx]), ih b l2 h2 fun x hx => h x (by simp [hx]), h (n, false, b) (by simp)⟩
        · rename_i hn
          cases hl
          exact ⟨ih a l1 h1 fun x hx => h x (by simp [hx]), ih b l2 h2 fun x hx => h x (by simp [hx]), fun sp hsp => by rw [hn] at hsp; cases hsp⟩
      · cases hl
    case cond c a b =>
      split at hl
      · rename_i l1 l2 h1 h2
        cases hl
        exact ⟨ih a l1 h1 fun x hx => h x (by simp [hx]), ih b l2 h2 fun x hx => h x (by simp [hx])⟩
      · cases hl
    case block id c => exact ih c l hl h
    case loop c =>
      split at hl
      · rename_i l1 h1
        split at hl
        · cases hl
          exact ⟨ih c l1 h1 fun x hx => h x (by simp [hx]), h (n, true, c) (by simp)⟩
        · rename_i hn
          cases hl
          exact ⟨ih c l h1 h, fun sp hsp => by rw [hn] at hsp; cases hsp⟩
      · cases hl

theorem evCode_ok (hE : EnvOk E P) (hcall : CallOk P E call) (hn : CallNat call) {O : Nat → Option PSpec} (hO : ONat O) (g0 : Good E X h0 m0 w0) (fid : FuncId) : ∀ (n : Nat) {R : Type} {r : R} (c : Code) (st : St) (K : Ex → St → Option R) (m : Nat → Option Nat) (w : World) (a : Act) (Q : Exit → Act → World → Prop),
    OrcOk E call O fid h0.length n c → evCode E call O fid h0.length n c st K = some r → Inv E X h0 m0 w0 st m w a → (∀ ex st' m' w' a', K ex st' = some r → Inv E X h0 m0 w0 st' m' w' a' → Q (exOf ex) a' w') → c.wp P Q a w
  | 0, _, _, _, _, _, _, _, _, _, _, h, _, _ => by cases h
  | n + 1, R, r, c, st, K, m, w, a, Q, ho, h, hi, hK => by
    have ih := fun {R : Type} {r : R} => evCode_ok hE hcall hn hO g0 fid n (R := R) (r := r)
    cases c <;> simp only [evCode] at h
    case skip => exact wp_skip (hK _ st m w a h hi)
    case label l => exact wp_label (hK _ st m w a h hi)
    case exit id => exact wp_exit (hK _ st m w a h hi)
    case goto l => exact wp_goto (hK _ st m w a h hi)
    case ret => exact wp_ret (hK _ st m w a h hi)
    case region id ops draw =>
      cases draw with
      | true => cases h
      | false =>
        refine wp_region_seq ?_
        exact evSeq_ok hE hcall hn ops.toList 0 st.t st.h m w a _ rfl h hi fun t' h' m'' w' a' hk hi'' => hK _ _ m'' w' a' hk hi''
    case seq x y =>
      refine wp_seq ?_
      refine ih x st _ m w a _ ho.1 h hi fun ex st' m' w' a' hk hi' => ?_
      cases ex with
      | normal =>
        obtain ⟨st'', m'', h1, hi''⟩ := norm_ok g0 hk hi'
        exact ih y st'' _ m'' w' a' Q ho.2.1 (of_orcOr h1 fun sp hsp he => ho.2.2 sp hsp _ _ _ _ he) hi'' (kOut_ok g0 hK)
      | exit id => exact hK _ st' m' w' a' hk hi'
      | goto l => exact hK _ st' m' w' a' hk hi'
      | ret => exact hK _ st' m' w' a' hk hi'
    case cond c x y =>
      split at h
      · rename_i u hu
        have hc := hi.sim.val c
        rw [hu] at hc
        have hc : a.eval c = .bool u := hc
        cases u with
        | true => exact wp_cond_true hc (ih x st K m w a Q ho.1 h hi hK)
        | false => exact wp_cond_false hc (ih y st K m w a Q ho.2 h hi hK)
      · cases h
    case block id c =>
      refine wp_block ?_
      refine ih c st _ m w a _ ho h hi fun ex st' m' w' a' hk hi' => ?_
      have := hK _ st' m' w' a' hk hi'
      cases ex with
      | normal => exact this
      | exit j =>
        by_cases e : j = id
        · subst e
          simp only [exOf, Exit.inBlock, if_true]
          simpa [exIn, Nat.beq_refl, exOf] using this
        · simp only [exOf, Exit.inBlock, if_neg e]
          have hb : j.beq id = false := by
            cases hq : j.beq id with
            | false => rfl
            | true => exact absurd (Nat.eq_of_beq_eq_true hq) e
          simpa [exIn, hb, exOf] using this
      | goto l => exact this
      | ret => exact this
    case loop c =>
      refine wp_loop_rounds E.rounds ?_
      obtain ⟨st1, m1, h1, hi1⟩ := norm_ok g0 h hi
      replace h1 := of_orcOr h1 fun sp hsp he => ho.2 sp hsp _ _ _ _ he
      clear h hi
      have hK' := kOut_ok (key := keyOf c * 1000 + 401) (fid := fid) g0 hK
      generalize kOut E fid h0.length (keyOf c * 1000 + 401) K = K' at h1 hK'
      generalize E.rounds = N at h1
      induction N generalizing st1 m1 w a with
      | zero => cases h1
      | succ N ihN =>
        rw [rounds_succ]
        refine ih c st1 _ m1 w a _ ho.1 h1 hi1 fun ex st' m' w' a' hk hi' => ?_
        cases ex with
        | normal =>
          obtain ⟨st'', m'', h2, hi''⟩ := norm_ok g0 hk hi'
          exact ihN w' a' st'' m'' hi'' h2
        | exit id => exact hK' _ st' m' w' a' hk hi'
        | goto l => exact hK' _ st' m' w' a' hk hi'
        | ret => exact hK' _ st' m' w' a' hk hi'
    case scope c =>
      have e := evCode_push E hn hO fid h0.length (fun p : Ex × St => (match p.1 with | .goto l => (match findLabel c l with | some rest => norm (E.keep fid (keyOf rest * 1000 + 700)) h0.length p.2 (fun st'' => evJump (norm (E.keep fid (keyOf rest * 1000 + 700)) h0.length) (evCode E call O fid h0.length n rest) l E.rounds st'' (kOut E fid h0.length (keyOf rest * 1000 + 701) K)) | none => none) | ex => K ex p.2 : Option R)) n c st (fun ex st => some (ex, st))
      simp only [Option.bind_some] at e
      have h' := e.trans h
      obtain ⟨⟨ex0, st0⟩, h1, h2⟩ := of_bind h'
      have done : ∀ {ex : Ex} {st' : St}, some (ex, st') = some (ex0, st0) → ex = ex0 ∧ st' = st0 := fun h => by cases h; exact ⟨rfl, rfl⟩
      have straight : (∀ l, ex0 ≠ .goto l) → K ex0 st0 = some r → (Code.scope c).wp P Q a w := by
        intro hne hk0
        refine wp_scope_straight ?_
        refine ih c st _ m w a _ ho.1 h1 hi fun ex st' m' w' a' hk hi' => ?_
        obtain ⟨rfl, rfl⟩ := done hk
        have := hK _ _ m' w' a' hk0 hi'
        cases ex with
        | normal => exact this
        | exit id => exact this
        | goto l => exact absurd rfl (hne l)
        | ret => exact this
      cases ex0 with
      | normal => exact straight (fun _ h => by cases h) h2
      | exit id => exact straight (fun _ h => by cases h) h2
      | ret => exact straight (fun _ h => by cases h) h2
      | goto l =>
        simp only at h2
        split at h2
        · rename_i rest hrest
          have hK' := kOut_ok (key := keyOf rest * 1000 + 701) (fid := fid) g0 hK
          generalize kOut E fid h0.length (keyOf rest * 1000 + 701) K = K' at h2 hK'
          let J : Nat → Act → World → Prop := fun k a' w' => ∃ st' m', evJump (norm (E.keep fid (keyOf rest * 1000 + 700)) h0.length) (evCode E call O fid h0.length n rest) l k st' K' = some r ∧ Inv E X h0 m0 w0 st' m' w' a'
          refine wp_scope_jumps l (fun a' w' => ∃ k, J k a' w') (fun a' w' => leastOf fun k => J k a' w') hrest ?_ ?_
          · refine ih c st _ m w a _ ho.1 h1 hi fun ex st' m' w' a' hk hi' => ?_
            obtain ⟨rfl, rfl⟩ := done hk
            obtain ⟨st'', m'', h3, hi''⟩ := norm_ok g0 h2 hi'
            exact ⟨rfl, _, _, m'', h3, hi''⟩
          · intro a1 w1 hJ
            obtain ⟨⟨st1, m1, h3, hi1⟩, hmin⟩ := leastOf_spec hJ
            generalize hk0 : (leastOf fun k => J k a1 w1) = k0 at h3 hmin ⊢
            cases k0 with
            | zero => cases h3
            | succ k0 =>
              refine ih rest st1 _ m1 w1 a1 _ (ho.2 l rest hrest) h3 hi1 fun ex st' m' w' a' hk hi' => ?_
              cases ex with
              | normal => exact hK' _ st' m' w' a' hk hi'
              | exit id => exact hK' _ st' m' w' a' hk hi'
              | ret => exact hK' _ st' m' w' a' hk hi'
              | goto l' =>
                simp only at hk
                split at hk
                · rename_i hb
                  have hl : l' = l := Nat.eq_of_beq_eq_true hb
                  subst hl
                  obtain ⟨st'', m'', hk2, hi''⟩ := norm_ok g0 hk hi'
                  have hj : J k0 a' w' := ⟨st'', m'', hk2, hi''⟩
                  have := (leastOf_spec (p := fun k => J k a' w') ⟨k0, hj⟩).2 k0 hj
                  exact ⟨rfl, ⟨k0, hj⟩, by show leastOf _ < k0 + 1; omega⟩
                · cases hk
        · cases h2
    all_goals cases h
end
end Go.Ev
