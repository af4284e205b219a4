/- Tables of printed functions: what they come to, the evaluator comes to with no table at hand. -/
import Derived.Test.YtllgdcepgelahaaDoorEv23
namespace Go.Ev
universe v
section
variable {R : Type} {r : R} {E : Env} {call call' : CallF}

/-- what one way to tell calls comes to, the other comes to as well -/
def CallLe (call call' : CallF) : Prop := ∀ (f : FuncId) (args : List AV) (h : H) (slot : Nat) (R : Type) (r : R) (K K' : AV → H → Option R), (∀ v h, K v h = some r → K' v h = some r) → call f args h slot R K = some r → call' f args h slot R K' = some r
def call0 : CallF := fun _ _ _ _ _ _ => none
theorem call0_nat : CallNat call0 := fun _ _ _ _ _ _ _ _ => rfl
theorem evOp_le0 {t : List AV} {h : H} {slot : Nat} {o : Oper} {K K' : AV → H → Option R} (hK : ∀ v h, K v h = some r → K' v h = some r) (he : evOp E call0 t h slot o K = some r) : evOp E call0 t h slot o K' = some r := by
  obtain ⟨v, h1, h2, h3⟩ := evOp_says E call0_nat he
  rw [evOp_then E call0_nat h2]
  exact hK _ _ h3
theorem evOp_le1 {t : List AV} {h : H} {slot : Nat} {o : Oper} (e : ∀ K : AV → H → Option R, evOp E call t h slot o K = evOp E call0 t h slot o K) (e' : ∀ K : AV → H → Option R, evOp E call' t h slot o K = evOp E call0 t h slot o K) {K K' : AV → H → Option R} (hK : ∀ v h, K v h = some r → K' v h = some r) (he : evOp E call t h slot o K = some r) : evOp E call' t h slot o K' = some r := by
  rw [e] at he
  rw [e']
  exact evOp_le0 hK he
theorem evOp_le (hc : CallLe call call') {t : List AV} {h : H} {slot : Nat} {o : Oper} {K K' : AV → H → Option R} (hK : ∀ v h, K v h = some r → K' v h = some r) (he : evOp E call t h slot o K = some r) : evOp E call' t h slot o K' = some r := by
  obtain ⟨dst, op, ty, pos, after, guard⟩ := o
  cases op
  case call c =>
    obtain ⟨callee, args, tys⟩ := c
    cases callee
    case value f =>
      simp only [evOp] at he ⊢
      split at he
      · exact hc _ _ _ _ _ _ _ _ hK he
      · cases he
    all_goals refine evOp_le1 (call := call) (call' := call') ?_ ?_ hK he <;> exact fun _ => rfl
  case makeFunc fn first caps =>
    cases fn <;> (refine evOp_le1 (call := call) (call' := call') ?_ ?_ hK he <;> exact fun _ => rfl)
  all_goals refine evOp_le1 (call := call) (call' := call') ?_ ?_ hK he <;> exact fun _ => rfl
theorem evSeq_le (hc : CallLe call call') (tr : Bool) (all : List Oper) : ∀ (ops : List Oper) (t : List AV) (h : H) (K K' : List AV → H → Option R), (∀ t h, K t h = some r → K' t h = some r) → evSeq E call tr all ops t h K = some r → evSeq E call' tr all ops t h K' = some r
  | [], _, _, _, _, hK, he => hK _ _ he
  | o :: rest, t, h, K, K', hK, he => by
    have ih := fun t h => evSeq_le hc tr all rest t h K K' hK
    have op : ∀ t, evOp E call t h h.length o (fun v h1 => evSeq E call tr all rest (setT t o.dst v) h1 K) = some r → evOp E call' t h h.length o (fun v h1 => evSeq E call' tr all rest (setT t o.dst v) h1 K') = some r := fun t he => evOp_le hc (fun v h1 => ih _ _) he
    revert he
    simp only [evSeq]
    split
    · exact op t
    · rename_i j want _
      split
      · exact ih _ _
      · split
        · rename_i b _
          cases b <;> cases want <;> cases tr <;> simp only [Ev.sel_true, Ev.sel_false] <;> first | exact op _ | exact ih _ _ | (intro h; cases h)
        · exact ih _ _
        · exact ih _ _
        · intro h; cases h
theorem anyOp_le (hc : CallLe call call') {bi : List Nat} {s0 i s : Nat} {o : Oper} {t : List AV} {h : H} {acc : List (Nat × Bool × List Nat)} {next next' : List AV → H → List (Nat × Bool × List Nat) → Option R} (hn : ∀ t h acc, next t h acc = some r → next' t h acc = some r)
    (he : anyOp E call bi s0 i s o t h acc next = some r) : anyOp E call' bi s0 i s o t h acc next' = some r := by
  unfold anyOp at he ⊢
  obtain ⟨h1, h2⟩ := sel_iff.1 he
  refine sel_iff.2 ⟨h1, evOp_le hc (fun v h1 h3 => ?_) h2⟩
  obtain ⟨h4, h5⟩ := sel_iff.1 h3
  exact sel_iff.2 ⟨h4, hn _ _ _ h5⟩
theorem evAny_le (hc : CallLe call call') (all : List Oper) (bs : List (List Nat)) (s : Nat) : ∀ (ops : List Oper) (i : Nat) (t : List AV) (h : H) (acc : List (Nat × Bool × List Nat)) (K K' : List AV → H → Option R), (∀ t h, K t h = some r → K' t h = some r) → evAny E call all bs s i ops t h acc K = some r → evAny E call' all bs s i ops t h acc K' = some r
  | [], _, _, _, _, _, _, hK, he => hK _ _ he
  | o :: rest, i, t, h, acc, K, K', hK, he => by
    have ih := fun t h acc => evAny_le hc all bs s rest (i + 1) t h acc K K' hK
    have op : ∀ t, (anyOp E call (bs.getD i []) s i (s + i) o t h acc fun t h acc => evAny E call all bs s (i + 1) rest t h acc K) = some r → (anyOp E call' (bs.getD i []) s i (s + i) o t h acc fun t h acc => evAny E call' all bs s (i + 1) rest t h acc K') = some r := fun t he => anyOp_le hc (fun t h acc => ih t h acc) he
    revert he
    simp only [evAny]
    split
    · exact op t
    · rename_i j want _
      split
      · exact ih _ _ _
      · split
        · rename_i b _
          cases b <;> cases want <;> simp only [Ev.sel_true, Ev.sel_false] <;> first | exact op _ | exact ih _ _ _
        · exact ih _ _ _
        · exact ih _ _ _
        · intro h; cases h
theorem frzIf_le {c : Bool} {base : Nat} {t : List AV} {h : H} {K K' : List AV → H → Option R} (hK : ∀ t h, K t h = some r → K' t h = some r) (he : frzIf c base t h K = some r) : frzIf c base t h K' = some r := by
  cases c with
  | false => exact hK _ _ he
  | true =>
    have he : gds _ _ = some r := he
    obtain ⟨h1, h2⟩ := gds_some.1 he
    exact gds_some.2 ⟨h1, hK _ _ h2⟩
theorem norm_le {ks : Option (List Nat)} {base : Nat} {st : St} {K K' : St → Option R} (hK : ∀ st, K st = some r → K' st = some r) (he : norm ks base st K = some r) : norm ks base st K' = some r := by
  unfold norm at he ⊢
  split at he
  · exact hK _ he
  · exact frzIf_le (fun t h he => by
      obtain ⟨h1, h2⟩ := sel_iff.1 he
      exact sel_iff.2 ⟨h1, hK _ h2⟩) he
theorem evLoop_le {nin : St → (St → Option R) → Option R} {f g : St → (Ex → St → Option R) → Option R} (hn : ∀ st (K K' : St → Option R), (∀ st, K st = some r → K' st = some r) → nin st K = some r → nin st K' = some r)
    (hf : ∀ st (K K' : Ex → St → Option R), (∀ ex st, K ex st = some r → K' ex st = some r) → f st K = some r → g st K' = some r) : ∀ (N : Nat) (st : St) (K K' : Ex → St → Option R), (∀ ex st, K ex st = some r → K' ex st = some r) → evLoop nin f N st K = some r → evLoop nin g N st K' = some r
  | 0, _, _, _, _, h => h
  | N + 1, st, K, K', hK, h => by
    simp only [evLoop] at h ⊢
    refine hf _ _ _ (fun ex st' h1 => ?_) h
    cases ex with
    | normal => exact hn _ _ _ (fun st'' h2 => evLoop_le hn hf N st'' K K' hK h2) h1
    | exit id => exact hK _ _ h1
    | goto l => exact hK _ _ h1
    | ret => exact hK _ _ h1
theorem evJump_le {nin : St → (St → Option R) → Option R} {f g : St → (Ex → St → Option R) → Option R} {l : Nat} (hn : ∀ st (K K' : St → Option R), (∀ st, K st = some r → K' st = some r) → nin st K = some r → nin st K' = some r)
    (hf : ∀ st (K K' : Ex → St → Option R), (∀ ex st, K ex st = some r → K' ex st = some r) → f st K = some r → g st K' = some r) : ∀ (N : Nat) (st : St) (K K' : Ex → St → Option R), (∀ ex st, K ex st = some r → K' ex st = some r) → evJump nin f l N st K = some r → evJump nin g l N st K' = some r
  | 0, _, _, _, _, h => h
  | N + 1, st, K, K', hK, h => by
    simp only [evJump] at h ⊢
    refine hf _ _ _ (fun ex st' h1 => ?_) h
    cases ex with
    | normal => exact hK _ _ h1
    | exit id => exact hK _ _ h1
    | ret => exact hK _ _ h1
    | goto l' =>
      simp only at h1 ⊢
      split at h1
      · exact hn _ _ _ (fun st'' h2 => evJump_le hn hf N st'' K K' hK h2) h1
      · cases h1
theorem kOut_le {fid base key : Nat} {K K' : Ex → St → Option R} (hK : ∀ ex st, K ex st = some r → K' ex st = some r) (ex : Ex) (st : St) (h : kOut E fid base key K ex st = some r) : kOut E fid base key K' ex st = some r := norm_le (hK ex) h
theorem evCode_le (hc : CallLe call call') {O : Nat → Option PSpec} (fid base : Nat) : ∀ (n : Nat) (c : Code) (st : St) (K K' : Ex → St → Option R), OrcOk E call O fid base n c → (∀ ex st, K ex st = some r → K' ex st = some r) → evCode E call O fid base n c st K = some r → evCode E call' (fun _ => none) fid base n c st K' = some r
  | 0, _, _, _, _, _, _, h => h
  | n + 1, c, st, K, K', ho, hK, h => by
    have ih := evCode_le hc (O := O) fid base n
    cases c <;> simp only [evCode] at h ⊢
    case skip => exact hK _ _ h
    case label l => exact hK _ _ h
    case exit id => exact hK _ _ h
    case goto l => exact hK _ _ h
    case ret => exact hK _ _ h
    case region id ops draw =>
      cases draw with
      | false => exact evSeq_le hc _ _ _ _ _ _ _ (fun t h => hK _ _) h
      | true =>
        have h : evDraw E call ops.toList st.t st.h (fun t h => K .normal ⟨t, h⟩) = some r := h
        show evDraw E call' ops.toList st.t st.h (fun t h => K' .normal ⟨t, h⟩) = some r
        unfold evDraw at h ⊢
        obtain ⟨h1, h2⟩ := sel_iff.1 h
        exact sel_iff.2 ⟨h1, evAny_le hc _ _ _ _ _ _ _ _ _ _ (fun t h => hK _ _) h2⟩
    case seq a b =>
      refine ih a st _ _ ho.1 (fun ex st' h1 => ?_) h
      cases ex with
      | normal => exact norm_le (fun st'' h2 => ih b st'' _ _ ho.2.1 (kOut_le hK) (of_orcOr h2 fun sp hsp he => ho.2.2 sp hsp _ _ _ _ he)) h1
      | exit id => exact hK _ _ h1
      | goto l => exact hK _ _ h1
      | ret => exact hK _ _ h1
    case cond c a b =>
      split at h
      · rename_i u hu
        cases u with
        | true => exact ih a st _ _ ho.1 hK h
        | false => exact ih b st _ _ ho.2 hK h
      · cases h
    case block id c => exact ih c st _ _ ho (fun ex st' h1 => hK _ _ h1) h
    case loop c =>
      refine norm_le (fun st' h1 => ?_) h
      have h2 := of_orcOr h1 fun sp hsp he => ho.2 sp hsp _ _ _ _ he
      exact evLoop_le (nin := norm (E.keep fid (keyOf c * 1000 + 400)) base) (fun st K K' hK h => norm_le hK h) (fun st K K' hK h => ih c st K K' ho.1 hK h) _ _ _ _ (kOut_le hK) h2
    case scope c =>
      refine ih c st _ _ ho.1 (fun ex st' h1 => ?_) h
      cases ex with
      | normal => exact hK _ _ h1
      | exit id => exact hK _ _ h1
      | ret => exact hK _ _ h1
      | goto l =>
        simp only at h1 ⊢
        cases hlb : (labOf c).beq (l + 1) with
        | false => rw [hlb] at h1; cases h1
        | true =>
        rw [hlb] at h1
        simp only at h1 ⊢
        cases hf : findLabel c l with
        | none => rw [hf] at h1; cases h1
        | some rest =>
          rw [hf] at h1
          simp only at h1 ⊢
          obtain ⟨o1, o2⟩ := ho.2 l rest (Nat.eq_of_beq_eq_true hlb) hf
          refine norm_le (fun st'' h2 => ?_) h1
          have h3 := of_orcOr h2 fun sp hsp he => o2 sp hsp _ _ _ _ he
          exact evJump_le (nin := norm (E.keep fid (keyOf rest * 1000 + 700)) base) (fun st K K' hK h => norm_le hK h) (fun st K K' hK h => ih rest st K K' o1 hK h) _ _ _ _ (kOut_le hK) h3
    all_goals cases h
theorem evBody_le (hc : CallLe call call') {O : Nat → Option PSpec} {f : FuncId} {args : List AV} {h : H} {K : AV → H → Option R} (ho : ∀ fn c, E.F f = some fn → fn.body = some c → OrcOk E call O f h.length 4000 c)
    (he : evBody E call O f args h K = some r) : evBody E call' (fun _ => none) f args h K = some r := by
  unfold evBody at he ⊢
  split at he
  · rename_i fn hfn
    split at he
    · rename_i c hb
      exact evCode_le hc f h.length 4000 c _ _ _ (ho fn c hfn hb) (fun _ _ h => h) he
    · cases he
  · cases he
end

/-- one table of functions tells no more than another -/
def SpLe (S S' : FuncId → Option Spec) : Prop := ∀ f sp, S f = some sp → ∃ sp', S' f = some sp' ∧ SpecNat sp' ∧ ∀ (args : List AV) (R : Type) (K : AV → Option R) (r : R), sp args R K = some r → sp' args R K = some r
def HLe (T T' : FuncId → Option HSpec) : Prop := ∀ f hs, T f = some hs → ∃ hs', T' f = some hs' ∧ HNat hs' ∧ ∀ (args : List AV) (h : H) (R : Type) (K : AV → H → Option R) (r : R), hs args h R K = some r → hs' args h R K = some r
theorem nat_le {sp : Spec} (hn : SpecNat sp) {args : List AV} {R : Type} {K K' : AV → Option R} {r : R} (hK : ∀ v, K v = some r → K' v = some r) (h : sp args R K = some r) : sp args R K' = some r := by
  have e := hn args AV R some K
  simp only [Option.bind_some] at e
  rw [← e] at h
  obtain ⟨v, h1, h2⟩ := of_bind h
  have e' := hn args AV R some K'
  simp only [Option.bind_some] at e'
  rw [← e', h1]
  exact hK v h2
theorem hnat_le {hs : HSpec} (hn : HNat hs) {args : List AV} {h : H} {R : Type} {K K' : AV → H → Option R} {r : R} (hK : ∀ v h, K v h = some r → K' v h = some r) (he : hs args h R K = some r) : hs args h R K' = some r := by
  have e := hn args h (AV × H) R (fun v h => some (v, h)) fun p => K p.1 p.2
  simp only [Option.bind_some] at e
  rw [← e] at he
  obtain ⟨v, h1, h2⟩ := of_bind he
  have e' := hn args h (AV × H) R (fun v h => some (v, h)) fun p => K' p.1 p.2
  simp only [Option.bind_some] at e'
  rw [← e', h1]
  exact hK _ _ h2
theorem evFun_le {E : Env} {S S' : FuncId → Option Spec} {T T' : FuncId → Option HSpec} (hS : SpLe S S') (hT : HLe T T') (d : Nat) : CallLe (evFun E S T d) (evFun E S' T' d) := fun f args h slot R r K K' hK he => by
  simp only [evFun] at he ⊢
  split at he
  · split at he
    · rename_i sp hsp
      obtain ⟨sp', h1, h2, h3⟩ := hS f sp hsp
      rw [h1]
      exact nat_le h2 (fun v => hK v h) (h3 _ _ _ _ he)
    · cases he
  · split at he
    · rename_i hs hhs
      obtain ⟨hs', h1, h2, h3⟩ := hT f hs hhs
      rw [h1]
      simp only []
      unfold viaRef at he ⊢
      obtain ⟨h4, h5⟩ := sel_iff.1 he
      refine sel_iff.2 ⟨h4, hnat_le h2 (fun v h h6 => ?_) (h3 _ _ _ _ _ h5)⟩
      obtain ⟨h7, h8⟩ := sel_iff.1 h6
      exact sel_iff.2 ⟨h7, hK _ _ h8⟩
    · cases he

/-- the functions by their texts, calls so deep -/
noncomputable def off (V : FuncId → Env) : Nat → (FuncId → Option Spec) × (FuncId → Option HSpec)
  | 0 => (fun _ => none, fun _ => none)
  | n + 1 => (fun f => some (evSpec (V f) (off V n).1 (off V n).2 (fun _ => none) 10 f), fun f => some (evH (V f) (off V n).1 (off V n).2 (fun _ => none) 10 f))
theorem off_nat (V : FuncId → Env) : ∀ n, (∀ f sp, (off V n).1 f = some sp → SpecNat sp) ∧ ∀ f hs, (off V n).2 f = some hs → HNat hs
  | 0 => ⟨fun _ _ h => (nomatch h), fun _ _ h => (nomatch h)⟩
  | n + 1 => by
    obtain ⟨h1, h2⟩ := off_nat V n
    refine ⟨fun f sp h => ?_, fun f hs h => ?_⟩
    · cases h; exact evSpec_nat _ h1 h2 ONat.none _ _
    · cases h; exact evH_nat _ h1 h2 ONat.none _ _
theorem spec_glob {P : Program} {E E' : Env} (e : E.G = E'.G) {f : FuncId} {sp : Spec} (h : SpecOk P E f sp) : SpecOk P E' f sp := by
  refine ⟨h.1, fun Wr w args us z h1 h2 h3 h4 => h.2 Wr w args us z h1 ?_ h3 h4⟩
  intro g c hg
  rw [e] at hg
  exact h2 g c hg
theorem good_glob {E E' : Env} (e : E.G = E'.G) {X : Nat → Prop} {h : H} {m : Nat → Option Nat} {w : World} (g : Good E X h m w) : Good E' X h m w :=
  ⟨g.hp, g.inj, g.hi, fun b c q hb hm => by rw [← e]; exact g.own b c q hb hm, g.xs, fun q c hq => g.gl q c (by rw [e]; exact hq)⟩
theorem hspec_glob {P : Program} {E E' : Env} (e : E.G = E'.G) {f : FuncId} {hs : HSpec} (h : HSpecOk P E f hs) : HSpecOk P E' f hs :=
  ⟨h.1, fun X args hh m w us z h1 he g hr => by
    obtain ⟨a, b⟩ := h.2 X args hh m w us z h1 he (good_glob e.symm g) hr
    refine ⟨a, b.mono ?_⟩
    rintro e1 w1 ⟨u, m1, h1, A, h2, h3⟩
    exact ⟨u, m1, h1, ⟨good_glob e A.good, A.ext, A.L, A.frame, A.shape, A.os, A.tape, A.output, A.size, A.len⟩, h2, h3⟩⟩
theorem off_ok {P : Program} {V : FuncId → Env} (hE : ∀ f, EnvOk (V f) P) (hF : ∀ f, FunsOk (V f) P) (hG : ∀ f g, (V f).G = (V g).G) : ∀ n, (∀ f sp, (off V n).1 f = some sp → ∀ g, SpecOk P (V g) f sp) ∧ ∀ f hs, (off V n).2 f = some hs → ∀ g, HSpecOk P (V g) f hs
  | 0 => ⟨fun _ _ h => (nomatch h), fun _ _ h => (nomatch h)⟩
  | n + 1 => by
    obtain ⟨h1, h2⟩ := off_ok hE hF hG n
    refine ⟨fun f sp h g => ?_, fun f hs h g => ?_⟩
    · cases h
      exact spec_glob (hG f g) (evSpec_ok (hE f) (hF f) (fun f' sp h => h1 f' sp h f) (fun f' hs h => h2 f' hs h f) ONat.none 10 f fun _ _ _ _ => OrcOk.none _ _)
    · cases h
      refine hspec_glob (hG f g) (HSpecOk.mk' (evH_nat _ (off_nat V n).1 (off_nat V n).2 ONat.none _ _) fun X args h m w us z h1' he g hr => ?_)
      exact evH_ok (hE f) (hF f) (fun f' sp h => h1 f' sp h f) (fun f' hs h => h2 f' hs h f) ONat.none 10 f h.length (fun _ _ _ _ => OrcOk.none _ _) rfl he g hr

/-- what two tables tell, the texts come to -/
structure Dom (V : FuncId → Env) (S : FuncId → Option Spec) (T : FuncId → Option HSpec) (n : Nat) : Prop where
  ds : SpLe S (off V n).1
  dt : HLe T (off V n).2
theorem off_le (V : FuncId → Env) : ∀ n, SpLe (off V n).1 (off V (n + 1)).1 ∧ HLe (off V n).2 (off V (n + 1)).2
  | 0 => ⟨fun _ _ h => (nomatch h), fun _ _ h => (nomatch h)⟩
  | n + 1 => by
    obtain ⟨h1, h2⟩ := off_le V n
    refine ⟨fun f sp h => ?_, fun f hs h => ?_⟩
    · cases h
      refine ⟨_, rfl, (off_nat V (n + 2)).1 f _ rfl, fun args R K r he => ?_⟩
      exact evBody_le (evFun_le h1 h2 10) (fun _ _ _ _ => OrcOk.none _ _) he
    · cases h
      refine ⟨_, rfl, (off_nat V (n + 2)).2 f _ rfl, fun args h R K r he => ?_⟩
      exact evBody_le (evFun_le h1 h2 10) (fun _ _ _ _ => OrcOk.none _ _) he
theorem SpLe.trans {S S' S'' : FuncId → Option Spec} (h1 : SpLe S S') (h2 : SpLe S' S'') : SpLe S S'' := fun f sp h => by
  obtain ⟨sp', h3, _, h4⟩ := h1 f sp h
  obtain ⟨sp'', h5, h6, h7⟩ := h2 f sp' h3
  exact ⟨sp'', h5, h6, fun args R K r h => h7 _ _ _ _ (h4 _ _ _ _ h)⟩
theorem HLe.trans {T T' T'' : FuncId → Option HSpec} (h1 : HLe T T') (h2 : HLe T' T'') : HLe T T'' := fun f sp h => by
  obtain ⟨sp', h3, _, h4⟩ := h1 f sp h
  obtain ⟨sp'', h5, h6, h7⟩ := h2 f sp' h3
  exact ⟨sp'', h5, h6, fun args hh R K r h => h7 _ _ _ _ _ (h4 _ _ _ _ _ h)⟩
def S0 : FuncId → Option Spec := fun _ => none
def T0 : FuncId → Option HSpec := fun _ => none
def addS (f : FuncId) (sp : Spec) (S : FuncId → Option Spec) : FuncId → Option Spec := fun g => match g.beq f with | true => some sp | false => S g
def addT (f : FuncId) (hs : HSpec) (T : FuncId → Option HSpec) : FuncId → Option HSpec := fun g => match g.beq f with | true => some hs | false => T g
theorem Dom.nil {V : FuncId → Env} : Dom V S0 T0 0 := ⟨fun _ _ h => (nomatch h), fun _ _ h => (nomatch h)⟩
/-- a table's older state will do where a function is told anew -/
theorem Dom.s {V : FuncId → Env} {S S1 : FuncId → Option Spec} {T T1 : FuncId → Option HSpec} {n m : Nat} (hd : Dom V S1 T1 (m + n)) (h : Dom V S T m) {f : FuncId} {sp : Spec} {O : Nat → Option PSpec}
    (ho : ∀ fn c, (V f).F f = some fn → fn.body = some c → OrcOk (V f) (evFun (V f) S T 10) O f 0 4000 c)
    (hs : ∀ (args : List AV) (R : Type) (K : AV → Option R) (r : R), sp args R K = some r → evSpec (V f) S T O 10 f args R K = some r) : Dom V (addS f sp S1) T1 (m + (n + 1)) := by
  have hup : ∀ k, SpLe (off V m).1 (off V (m + k)).1 ∧ HLe (off V m).2 (off V (m + k)).2 := fun k => by
    induction k with
    | zero => exact ⟨fun f sp h => ⟨sp, h, (off_nat V m).1 f sp h, fun _ _ _ _ h => h⟩, fun f sp h => ⟨sp, h, (off_nat V m).2 f sp h, fun _ _ _ _ _ h => h⟩⟩
    | succ k ih => exact ⟨ih.1.trans (off_le V (m + k)).1, ih.2.trans (off_le V (m + k)).2⟩
  refine ⟨fun g sp' hg => ?_, hd.dt.trans (off_le V (m + n)).2⟩
  unfold addS at hg
  split at hg
  · rename_i hb
    cases hg
    obtain rfl := Nat.eq_of_beq_eq_true hb
    refine ⟨_, rfl, (off_nat V (m + n + 1)).1 g _ rfl, fun args R K r he => ?_⟩
    exact evBody_le (evFun_le (h.ds.trans (hup n).1) (h.dt.trans (hup n).2) 10) ho (hs _ _ _ _ he)
  · exact hd.ds.trans (off_le V (m + n)).1 g sp' hg
theorem Dom.t {V : FuncId → Env} {S : FuncId → Option Spec} {T : FuncId → Option HSpec} {n : Nat} (hd : Dom V S T n) {f : FuncId} {hs : HSpec}
    (h : ∀ (args : List AV) (hh : H) (R : Type) (K : AV → H → Option R) (r : R), hs args hh R K = some r → ∃ O, (∀ fn c, (V f).F f = some fn → fn.body = some c → OrcOk (V f) (evFun (V f) S T 10) O f hh.length 4000 c) ∧ evH (V f) S T O 10 f args hh R K = some r) : Dom V S (addT f hs T) (n + 1) := by
  refine ⟨hd.ds.trans (off_le V n).1, fun g hs' hg => ?_⟩
  unfold addT at hg
  split at hg
  · rename_i hb
    cases hg
    obtain rfl := Nat.eq_of_beq_eq_true hb
    refine ⟨_, rfl, (off_nat V (n + 1)).2 g _ rfl, fun args hh R K r he => ?_⟩
    obtain ⟨O, ho, he⟩ := h _ _ _ _ _ he
    exact evBody_le (evFun_le hd.ds hd.dt 10) ho he
  · exact hd.dt.trans (off_le V n).2 g hs' hg
/-- a law's function -/
theorem Dom.law {P : Program} {V : FuncId → Env} (hE : ∀ f, EnvOk (V f) P) (hF : ∀ f, FunsOk (V f) P) (hG : ∀ f g, (V f).G = (V g).G) {S : FuncId → Option Spec} {T : FuncId → Option HSpec} {n : Nat} (hd : Dom V S T n) {f : FuncId} {sp : Spec} (hsp : S f = some sp) :
    ∃ sp', SpecOk P (V f) f sp' ∧ ∀ (args : List AV) (R : Type) (K : AV → Option R) (r : R), sp args R K = some r → sp' args R K = some r := by
  obtain ⟨sp', h1, _, h2⟩ := hd.ds f sp hsp
  exact ⟨sp', (off_ok hE hF hG n).1 f sp' h1 f, h2⟩
/-- pieces of a function's text -/
theorem OrcOk.fn {E : Env} {call : CallF} {O : Nat → Option PSpec} {f base : Nat} {fn0 : Func} {l : List (Nat × Nat × Code)} (hf : E.F f = some fn0) (hl : orcs O 4000 (bodyOf fn0) = some l) (h : ∀ x ∈ l, PieceOk E call O f base x) : ∀ fn c, E.F f = some fn → fn.body = some c → OrcOk E call O f base 4000 c := fun fn c h1 h2 => by
  obtain rfl := Option.some.inj (hf.symm.trans h1)
  obtain rfl := body_of h2
  exact OrcOk.of 4000 _ l hl h
theorem PieceOk.s {E : Env} {call : CallF} {O : Nat → Option PSpec} {fid base n : Nat} {c : Code} {size : Nat} {ss : List Nat} {F : (R : Type) → (Ex → St → Option R) → List AV → H → Option R} (hO : O (keyOf c * 1000) = some fun st R K => pickM size ss st (F R K))
    (h : ∀ (R : Type) (r : R) (K : Ex → St → Option R) vs hh, F R K vs hh = some r → evCode E call O fid base n c ⟨spread size 0 ss vs, hh⟩ (kOut E fid base (keyOf c * 1000 + 1) K) = some r) : PieceOk E call O fid base (n, 0, c) := fun sp hsp R r st K h1 => by
  obtain rfl := Option.some.inj (hO.symm.trans hsp)
  obtain ⟨vs, hh, rfl, h2⟩ := pickM_some h1
  exact h R r K vs hh h2
theorem PieceOk.l {E : Env} {call : CallF} {O : Nat → Option PSpec} {fid base n : Nat} {c : Code} {size : Nat} {ss : List Nat} {F : (R : Type) → (Ex → St → Option R) → List AV → H → Option R} (hO : O (keyOf c * 1000 + 400) = some fun st R K => pickM size ss st (F R K)) (hr : E.rounds = NR)
    (h : ∀ (R : Type) (r : R) (K : Ex → St → Option R) vs hh, F R K vs hh = some r → evLoop (norm (E.keep fid (keyOf c * 1000 + 400)) base) (evCode E call O fid base n c) NR ⟨spread size 0 ss vs, hh⟩ (kOut E fid base (keyOf c * 1000 + 401) K) = some r) : PieceOk E call O fid base (n, 1, c) := fun sp hsp R r st K h1 => by
  obtain rfl := Option.some.inj (hO.symm.trans hsp)
  obtain ⟨vs, hh, rfl, h2⟩ := pickM_some h1
  rw [hr]
  exact h R r K vs hh h2
theorem PieceOk.g {E : Env} {call : CallF} {O : Nat → Option PSpec} {fid base n q : Nat} {c : Code} {size : Nat} {ss : List Nat} {F : (R : Type) → (Ex → St → Option R) → List AV → H → Option R} (hO : O (keyOf c * 1000 + 700) = some fun st R K => pickM size ss st (F R K)) (hr : E.rounds = NR)
    (h : ∀ (R : Type) (r : R) (K : Ex → St → Option R) vs hh, F R K vs hh = some r → evJump (norm (E.keep fid (keyOf c * 1000 + 700)) base) (evCode E call O fid base n c) q NR ⟨spread size 0 ss vs, hh⟩ (kOut E fid base (keyOf c * 1000 + 701) K) = some r) : PieceOk E call O fid base (n, q + 2, c) := fun sp hsp R r st K h1 => by
  obtain rfl := Option.some.inj (hO.symm.trans hsp)
  obtain ⟨vs, hh, rfl, h2⟩ := pickM_some h1
  rw [hr]
  exact h R r K vs hh h2
theorem shut_fn {α : Sort v} (a : α) : shut a = a := shut_eq a
end Go.Ev
