/- Calls: what the evaluator tells of them is what the model does; functions told by what they answer. -/
import Derived.Test.YtllgdcepgelahaaDoorEv18
namespace Go.Ev
open Go.RowKit (Below)

/-- the functions' texts are the program's -/
def FunsOk (E : Env) (P : Program) : Prop := (∀ f fn, E.F f = some fn → P.funcs[f]? = some fn ∧ (fn.name == "runtime.NumGoroutine") = false) ∧ P.follows .mixedOrders = true

/-- the variables that no one writes lie in the world as they are told -/
def GlobOk (E : Env) (Wr : Nat → Prop) (w : World) : Prop := ∀ g c, E.G g = some c → g < w.heap.size ∧ ¬ Wr g ∧ ∃ us, relB ⟨fun _ => none, Wr, w⟩ c us ∧ cellsAt w ⟨g, 0, none⟩ us

/-- What is told of a function is true: whatever may be written by others. -/
def SpecOk (P : Program) (E : Env) (f : FuncId) (sp : Spec) : Prop := SpecNat sp ∧ ∀ (Wr : Nat → Prop) (w : World) (args : List AV) (us : List Value) (z : AV), (∀ g, Wr g → g < w.heap.size) → GlobOk E Wr w →
  relL ⟨fun _ => none, Wr, w⟩ args us → sp args AV some = some z →
  FnOk P f ∧ Calls P f us.toArray w fun e w1 => ∃ u, e = .returned u ∧ Below w.heap.size w w1 ∧ rel ⟨fun _ => none, Wr, w1⟩ z u

section
variable {P : Program} {E : Env} {call : CallF}

/-- a result -/
def resV (tmps : Array Value) : ResultVar → Sem Value
  | .tmp t => pure (tmps.getD t undef)
  | .cell a t => do loadVar t (← asAddr (tmps.getD a undef))
theorem results_eq (fn : Func) (tmps : Array Value) : results fn tmps = (do let vs ← fn.results.mapM (resV tmps); pure (if h : vs.size = 1 then vs[0] else .tuple vs)) := rfl

theorem resA_ok (hE : EnvOk E P) {X : Nat → Prop} {m : Nat → Option Nat} {w : World} {a : Act} {R : Type} {r : R} (st : St) (S : Sim E X st.t st.h m w a) : ∀ (rs : List ResultVar) (K : List AV → Option R), resA E st rs K = some r →
    ∃ vs us, K vs = some r ∧ (rs.mapM (resV a.tmps)).run P w = .ok us w ∧ relL (cx X st.h m w) vs us
  | [], K, h => ⟨[], [], h, by simp, rfl⟩
  | .tmp i :: rs, K, h => by
    simp only [resA] at h
    obtain ⟨vs, us, h1, h2, h3⟩ := resA_ok hE st S rs _ h
    exact ⟨_, a.tmps.getD i undef :: us, h1, by simp only [List.mapM_cons, resV, Sem.run_bind, Sem.run_pure, Result.andThen_ok, h2], _, _, rfl, S.val (.tmp i), h3⟩
  | .cell c ty :: rs, K, h => by
    simp only [resA] at h
    have e := loadA_push E st.h ty (st.t.getD c .undef) some (fun v => resA E st rs fun vs => K (v :: vs))
    simp only [Option.bind_some] at e
    rw [← e] at h
    obtain ⟨v, h1, h2⟩ := of_bind h
    obtain ⟨vs, us, h3, h4, h5⟩ := resA_ok hE st S rs _ h2
    obtain ⟨q, h6, h7⟩ := loadA_ok (P := P) hE S.good h1 (S.val (.tmp c))
    have h8 : (resV a.tmps (.cell c ty)).run P w = .ok q w := by
      show (do loadVar ty (← asAddr (a.tmps.getD c undef)) : Sem Value).run P w = .ok q w
      have h6 : (Instr.loadAt ty (a.tmps.getD c undef)).run P w = .ok q w := h6
      unfold Instr.loadAt Instr.sureAddr at h6
      split at h6
      · rename_i hq; rw [hq]; simpa [asAddr] using h6
      · simp at h6
    exact ⟨_, q :: us, h3, by simp only [List.mapM_cons, Sem.run_bind, h8, Result.andThen_ok, h4, Sem.run_pure], _, _, rfl, h7, h5⟩

theorem results_ok (hE : EnvOk E P) {X : Nat → Prop} {m : Nat → Option Nat} {w : World} {a : Act} {R : Type} {r : R} {fn : Func} (st : St) (S : Sim E X st.t st.h m w a) {K : AV → Option R} (h : resA E st fn.results.toList (fun vs => K (one vs)) = some r) :
    ∃ z u, K z = some r ∧ (results fn a.tmps).run P w = .ok u w ∧ rel (cx X st.h m w) z u := by
  obtain ⟨vs, us, h1, h2, h3⟩ := resA_ok hE st S _ _ h
  refine ⟨_, (if h : us.toArray.size = 1 then us.toArray[0] else .tuple us.toArray), h1, ?_, ?_⟩
  · rw [results_eq, Array.mapM_eq_mapM_toList]
    simp only [Sem.run_bind, Sem.run_map, h2, Result.andThen_ok, Sem.run_pure]
  · unfold one
    split
    · obtain ⟨u, _, rfl, h4, h5⟩ := h3
      have h5 : _ = [] := h5
      subst h5
      simpa using h4
    · rename_i hne
      have hl := relL_length h3
      have : us.toArray.size ≠ 1 := by
        intro h1
        have : vs.length = 1 := by rw [← hl]; simpa using h1
        obtain ⟨v, hv⟩ := List.length_eq_one_iff.1 this
        exact hne v hv
      rw [dif_neg this]
      exact ⟨us, rfl, h3⟩

theorem evBody_ok (hE : EnvOk E P) (hF : FunsOk E P) (hloc : CallLoc E call) (hcall : CallOk P E call) (hn : CallNat call) {O : Nat → Option PSpec} (hO : ONat O) {X : Nat → Prop} {f : FuncId} {args : List AV} {h : H} {m : Nat → Option Nat} {w : World} {us : List Value} {z : AV} {h1 : H}
    (ho : ∀ fn c, E.F f = some fn → fn.body = some c → OrcOk E call O f h.length 4000 c) (he : evBody E call O f args h (fun v h => some (v, h)) = some (z, h1)) (g : Good E X h m w) (hr : relL (cx X h m w) args us) :
    FnOk P f ∧ Calls P f us.toArray w fun e w1 => ∃ u m1, e = .returned u ∧ Adv E X h m w h1 m1 w1 ∧ rel (cx X h1 m1 w1) z u ∧ ∀ b, b < h.length → m1 b = m b := by
  unfold evBody at he
  split at he
  · rename_i fn hfn
    obtain ⟨hfn1, hfn2⟩ := hF.1 f fn hfn
    split at he
    · rename_i c hc
      refine ⟨⟨fn, c, hfn1, hfn2, hc⟩, ?_⟩
      refine calls_of_wp hfn1 hc ?_
      have hsim : Sim E X (args ++ List.replicate (fn.ntmps - args.length) (.tup [])) h m w { tmps := us.toArray ++ Array.replicate (fn.ntmps - us.toArray.size) undef, defers := [] } := by
        refine ⟨g, ?_, rfl⟩
        have hl := relL_length hr
        simp only [Array.toList_append, Array.toList_replicate, List.size_toArray, hl]
        exact relL_append hr (relL_replicate (v := .tup []) (u := undef) ⟨[], rfl, rfl⟩ _)
      refine evCode_ok hE hF.2 hloc hcall hn hO g f 4000 c _ _ m w _ _ (ho fn c hfn hc) he ⟨hsim, Adv.refl g, fun _ _ => rfl⟩ fun ex st' m' w' a' hk hi' => ?_
      have fin : resA E st' fn.results.toList (fun vs => some (one vs, st'.h)) = some (z, h1) → a'.defers = [] ∧ ∃ v, (results fn a'.tmps).run P w' = .ok v w' ∧ ∃ u m1, Ending.returned v = .returned u ∧ Adv E X h m w h1 m1 w' ∧ rel (cx X h1 m1 w') z u ∧ ∀ b, b < h.length → m1 b = m b := by
        intro hk
        obtain ⟨z', u, h2, h3, h4⟩ := results_ok (P := P) hE st' hi'.sim (K := fun v => some (v, st'.h)) hk
        cases h2
        exact ⟨hi'.sim.df, u, h3, u, m', rfl, hi'.adv, h4, hi'.old⟩
      cases ex with
      | normal => exact fin hk
      | ret => exact fin hk
      | exit id => cases hk
      | goto l => cases hk
    · cases he
  · cases he

mutual
theorem rel_free {C : Cx} : ∀ (v : AV) (u : Value), refsV v = [] → rel C v u → rel C.z v u
  | .undef, _, _, _ => trivial
  | .int _ _, _, _, h => h
  | .bool _, _, _, h => h
  | .str _, _, _, h => h
  | .nilptr, _, _, h => h
  | .ptr _ _, _, hb, _ => by simp [refsV] at hb
  | .fptr _, _, _, h => h
  | .esl, _, _, h => h
  | .sl _ _ _ _, _, hb, _ => by simp [refsV] at hb
  | .fsl _, _, _, h => h
  | .agg c, _, hb, ⟨us, hv, hr⟩ => ⟨us, hv, relB_free c us (by simpa [refsV] using hb) hr⟩
  | .tup vs, _, hb, ⟨us, hv, hr⟩ => ⟨us, hv, relL_free vs us (by simpa [refsV] using hb) hr⟩
  | .fn _ caps, _, hb, ⟨us, hv, hr⟩ => ⟨us, hv, relL_free caps us (by simpa [refsV] using hb) hr⟩
  | .nilfn, _, _, h => h
  | .nilif, _, _, h => h
  | .iface _ x, _, hb, ⟨u, hv, hr⟩ => ⟨u, hv, rel_free x u (by simpa [refsV] using hb) hr⟩
theorem relB_free {C : Cx} : ∀ (c : Blk) (us : List Value), refsB c = [] → relB C c us → relB C.z c us
  | .ints _ _, _, _, h => h
  | .bools _, _, _, h => h
  | .any cs, us, hb, h => relL_free cs us (by simpa [refsB] using hb) h
  | .rows sz rs, us, hb, h => ⟨h.1, relR_free sz rs us (by simpa [refsB] using hb) h.2⟩
theorem relL_free {C : Cx} : ∀ (cs : List AV) (us : List Value), refsL cs = [] → relL C cs us → relL C.z cs us
  | [], _, _, h => h
  | c :: cs, _, hb, ⟨u, q, he, h1, h2⟩ => by
    simp only [refsL, List.append_eq_nil_iff] at hb
    exact ⟨u, q, he, rel_free c u hb.1 h1, relL_free cs q hb.2 h2⟩
theorem relR_free {C : Cx} (sz : Nat) : ∀ (rs : List (List AV)) (us : List Value), refsR rs = [] → relR C sz rs us → relR C.z sz rs us
  | [], _, _, h => h
  | r :: rs, _, hb, ⟨u1, u2, he, hl, h1, h2⟩ => by
    simp only [refsR, List.append_eq_nil_iff] at hb
    exact ⟨u1, u2, he, hl, relL_free r u1 hb.1 h1, relR_free sz rs u2 hb.2 h2⟩
end

theorem canC_ok {C : Cx} : ∀ (c : Sh) (v : AV) (u : Value), rel C v u → rel C (canC c v) u := by
  intro c v u h
  unfold canC
  split
  · obtain ⟨a, rfl⟩ := h; exact ⟨a, 0, [], rfl, Nat.le_refl _, rfl, rfl, .inl rfl⟩
  · obtain ⟨a, cap, us, hv, hc, hr, hl, hp⟩ := h
    obtain rfl : us = [] := hr
    exact ⟨a, cap, [], hv, hc, rfl, rfl, .inl rfl⟩
  · obtain ⟨a, rfl⟩ := h; exact ⟨a, 0, [], rfl, Nat.le_refl _, rfl, rfl, .inl rfl⟩
  · obtain ⟨a, cap, us, hv, hc, hr, hl, hp⟩ := h
    obtain rfl : us = [] := hr
    exact ⟨a, cap, [], hv, hc, rfl, rfl, .inl rfl⟩
  · obtain ⟨a, rfl⟩ := h; exact ⟨a, 0, [], rfl, Nat.le_refl _, ⟨Nat.succ_pos _, rfl⟩, by simp [Blk.num], .inl rfl⟩
  · obtain ⟨a, cap, us, hv, hc, hr, hl, hp⟩ := h
    obtain rfl : us = [] := hr
    exact ⟨a, cap, [], hv, hc, ⟨Nat.succ_pos _, rfl⟩, by simp [Blk.num], .inl rfl⟩
  · exact h
theorem canL_ok {C : Cx} : ∀ (cs : List Sh) (vs : List AV) (us : List Value), relL C vs us → relL C (canL cs vs) us
  | [], vs, us, h => by simpa [canL] using h
  | c :: cs, [], us, h => by simpa [canL] using h
  | c :: cs, v :: vs, us, ⟨u, r, he, h1, h2⟩ => ⟨u, r, he, canC_ok c v u h1, canL_ok cs vs r h2⟩
theorem canV_ok {C : Cx} (T : TypeId → Option TI) (t : TypeId) (v : AV) (u : Value) (h : rel C v u) : rel C (canV T t v) u := by
  unfold canV
  split
  · split
    · obtain ⟨us, hu, hr⟩ := h
      exact ⟨us, hu, canL_ok _ _ _ hr⟩
    · exact h
  · split
    · exact canC_ok _ _ _ h
    · exact h
theorem canA_ok {C : Cx} (T : TypeId → Option TI) : ∀ (ts : List TypeId) (vs : List AV) (us : List Value), relL C vs us → relL C (canA T ts vs) us
  | [], vs, us, h => by simpa [canA] using h
  | t :: ts, [], us, h => by simpa [canA] using h
  | t :: ts, v :: vs, us, ⟨u, r, he, h1, h2⟩ => ⟨u, r, he, canV_ok T t v u h1, canA_ok T ts vs r h2⟩
theorem canR_ok {C : Cx} (T : TypeId → Option TI) (ts : List TypeId) (z : AV) (u : Value) (h : rel C z u) : rel C (canR T ts z) u := by
  unfold canR
  split
  · exact canV_ok T _ _ _ h
  · obtain ⟨us, hu, hr⟩ := h
    exact ⟨us, hu, canA_ok T _ _ _ hr⟩
  · exact h

theorem Good.glob {X : Nat → Prop} {h : H} {m : Nat → Option Nat} {w : World} (g : Good E X h m w) : GlobOk E (cx X h m w).Wr w := by
  intro q c hq
  obtain ⟨h1, h2, us, h3, h4⟩ := g.gl q c hq
  refine ⟨h1, ?_, us, h3, h4⟩
  rintro (hx | ⟨b, d, hb, hm⟩)
  · exact h2 hx
  · have := (g.own b d q (blkAt_live hb) hm).2
    rw [hq] at this; cases this
theorem Good.wrlt {X : Nat → Prop} {h : H} {m : Nat → Option Nat} {w : World} (g : Good E X h m w) : ∀ q, (cx X h m w).Wr q → q < w.heap.size := by
  rintro q (hx | ⟨b, c, hb, hm⟩)
  · exact g.xs q hx
  · exact L_blk g (blkAt_live hb) hm

/-- a call by what is told of the function -/
theorem spec_call {X : Nat → Prop} {f : FuncId} {sp : Spec} (hsp : SpecOk P E f sp) {args : List AV} {h : H} {m : Nat → Option Nat} {w : World} {us : List Value} {z : AV} {h1 : H}
    (hf : refFree args = true) (he : sp (canA E.T (parsOf E f) args) (AV × H) (fun v => some (v, h)) = some (z, h1)) (g : Good E X h m w) (hr : relL (cx X h m w) args us) :
    FnOk P f ∧ Calls P f us.toArray w fun e w1 => ∃ u m1, e = .returned u ∧ Adv E X h m w h1 m1 w1 ∧ rel (cx X h1 m1 w1) z u ∧ ∀ b, b < h.length → m1 b = m b := by
  have e := hsp.1 (canA E.T (parsOf E f) args) AV (AV × H) some (fun v => some (v, h))
  simp only [Option.bind_some] at e
  rw [← e] at he
  obtain ⟨v, h2, h3⟩ := of_bind he
  cases h3
  obtain ⟨h4, h5⟩ := hsp.2 (cx X h m w).Wr w _ us z g.wrlt g.glob (canA_ok E.T _ _ _ (relL_free args us (by simpa [refFree] using hf) hr)) h2
  refine ⟨h4, h5.mono ?_⟩
  rintro e w1 ⟨u, rfl, hb, hru⟩
  have A := adv_below g hb
  refine ⟨u, m, rfl, A, ?_, fun _ _ => rfl⟩
  exact rel_step (C := ⟨fun _ => none, (cx X h m w).Wr, w1⟩) (C' := cx X h m w1) ⟨fun _ _ h => (by cases h), fun _ _ h => h, fun _ _ _ => rfl, fun _ arr _ h => ⟨arr, h, rfl⟩⟩ _ _ hru

/-- What is told of a function and of its blocks is true. -/
def HSpecOk (P : Program) (E : Env) (f : FuncId) (hs : HSpec) : Prop := HNat hs ∧ ∀ (X : Nat → Prop) (args : List AV) (h : H) (m : Nat → Option Nat) (w : World) (us : List Value) (z : AV) (h1 : H),
  hs args h (AV × H) (fun v h => some (v, h)) = some (z, h1) → Good E X h m w → relL (cx X h m w) args us →
  FnOk P f ∧ Calls P f us.toArray w fun e w1 => ∃ u m1, e = .returned u ∧ Adv E X h m w h1 m1 w1 ∧ rel (cx X h1 m1 w1) z u ∧ ∀ b, b < h.length → m1 b = m b

theorem putBack_get {ids : List Nat} {ρ : Nat → Nat} {h1 : H} : ∀ (h : H) (q b : Nat), (putBack ids ρ h1 q h)[b]? = (h[b]?).map fun x => match memN ids (q + b) with | true => (h1.getD (idxN ids (q + b)) .dead).ren ρ | false => x
  | [], q, b => by simp [putBack]
  | x :: r, q, 0 => by simp [putBack]; rfl
  | x :: r, q, b + 1 => by
    simp only [putBack, List.getElem?_cons_succ]
    rw [putBack_get r (q + 1) b, show q + 1 + b = q + (b + 1) by omega]
theorem putBack_length {ids : List Nat} {ρ : Nat → Nat} {h1 : H} : ∀ (h : H) (q : Nat), (putBack ids ρ h1 q h).length = h.length
  | [], _ => rfl
  | _ :: r, q => by simp [putBack, putBack_length r (q + 1)]
theorem noIce_live {h : H} : noIce h = true → ∀ b c, blkAt h b = some c → h[b]? = some (.live c) := by
  induction h with
  | nil => intro _ b c hb; simp [blkAt] at hb
  | cons x r ih =>
    intro hn b c hb
    cases b with
    | zero => cases x <;> simp_all [blkAt, noIce]
    | succ b =>
      have hr : noIce r = true := by cases x <;> simp_all [noIce]
      have := ih hr b c (by simpa [blkAt] using hb)
      simpa using this
theorem idxN_of_get {l : List Nat} (hn : l.Nodup) {j b : Nat} (h : l[j]? = some b) : idxN l b = j := by
  have hm : b ∈ l := List.mem_of_getElem? h
  have h2 := idxN_get hm
  exact (List.getElem?_inj ((List.getElem?_eq_some_iff.1 h2).1) hn).1 (h2.trans h.symm)
theorem HB.ren_live {ρ : Nat → Nat} {x : HB} {c : Blk} (h : x.ren ρ = .live c) : ∃ c0, x = .live c0 ∧ c = renB ρ c0 := by
  cases x <;> simp [HB.ren] at h
  exact ⟨_, rfl, h.symm⟩

theorem ref_call {X : Nat → Prop} {f : FuncId} {hs : HSpec} (hhs : HSpecOk P E f hs) {args : List AV} {h : H} {slot : Nat} {m : Nat → Option Nat} {w : World} {us : List Value} {z : AV} {h1 : H}
    (he : viaRef hs args h slot (AV × H) (fun v h => some (v, h)) = some (z, h1)) (g : Good E X h m w) (fr : Free h m slot) (hr : relL (cx X h m w) args us) :
    FnOk P f ∧ Calls P f us.toArray w fun e w1 => ∃ u m1, e = .returned u ∧ Adv E X h m w h1 m1 w1 ∧ rel (cx X h1 m1 w1) z u ∧ ∀ b, b < h.length → b ≠ slot → m1 b = m b := by
  unfold viaRef at he
  obtain ⟨hc, he⟩ := sel_iff.1 he
  simp only [Bool.and_eq_true] at hc
  obtain ⟨⟨⟨⟨⟨hc1, hc2⟩, hc3⟩, hc4⟩, hc5⟩, hc6⟩ := hc
  generalize reachN h 100000 (refsL args) [] = ids at hc1 hc2 hc3 hc4 hc6 he
  have hns : slot ∉ ids := fun hm => by rw [memN_iff.2 hm] at hc6; cases hc6
  have hnd := nodupN_nodup hc1
  have hlt : ∀ b, b ∈ ids → b < h.length := fun b hb => by
    have := List.all_eq_true.1 hc4 b hb
    simpa [Nat.blt_eq] using this
  have hlive := noIce_live hc5
  let X' : Nat → Prop := fun q => X q ∨ ∃ b c, h[b]? = some (.live c) ∧ m b = some q ∧ b ∉ ids
  obtain ⟨m', hm', g', hr', hL⟩ := sub_good (X' := X') g (fun q hq => hq.imp id fun ⟨b, c, h1, h2, _⟩ => ⟨b, c, h1, h2⟩)
    (fun b c q hb hbl hm hx => by
      rcases hx with hx | ⟨b', c', h1, h2, h3⟩
      · exact (g.own b c q hbl hm).1 hx
      · have := g.inj b b' c c' q hbl (blkAt_live h1) hm h2
        subst this; exact h3 hb)
    (fun q hx => by
      rcases hx with hx | ⟨b', c', h1, h2, _⟩
      · exact g.xs q hx
      · exact L_blk g (blkAt_live h1) h2)
    (fun q c hq hx => by
      rcases hx with hx | ⟨b', c', h1, h2, _⟩
      · exact (g.gl q c hq).2.1 hx
      · have := (g.own b' c' q (blkAt_live h1) h2).2
        rw [hq] at this; cases this)
    hr hc1 hc2 hc3
  have e := hhs.1 (renL (idxN ids) args) (ids.map fun b => (h.getD b .dead).ren (idxN ids)) (AV × H) (AV × H) (fun v h => some (v, h)) (fun p => sel (oneNew h ids slot p.2) (some (renV (backN ids h.length slot) p.1, mergeH h ids slot p.2)) none)
  simp only [Option.bind_some] at e
  rw [← e] at he
  obtain ⟨⟨z0, h1'⟩, he1, he2⟩ := of_bind he
  obtain ⟨hone, he2⟩ := sel_iff.1 he2
  cases he2
  obtain ⟨hfn, hcalls⟩ := hhs.2 X' _ _ m' w us z0 h1' he1 g' hr'
  refine ⟨hfn, hcalls.mono ?_⟩
  rintro e w1 ⟨u, m1', rfl, A, hru, hold⟩
  rw [List.length_map] at hold
  have hlen' : ids.length ≤ h1'.length := by have := A.len; rwa [List.length_map] at this
  have hone' : slot < h.length → h1'.length ≤ ids.length + 1 := fun hlt => by
    unfold oneNew at hone
    rw [show Nat.blt slot h.length = true by simpa [Nat.blt_eq] using hlt] at hone
    simpa [Nat.ble_eq] using hone
  generalize hβ : backN ids h.length slot = β
  let m2 : Nat → Option Nat := fun b => if b < h.length then (if b = slot then m1' ids.length else m b) else (if slot < h.length then none else m1' (ids.length + (b - h.length)))
  have hβ1 : ∀ j b, ids[j]? = some b → β j = b := fun j b hj => by rw [← hβ]; simp [backN, hj]
  have hβs : β ids.length = slot := by rw [← hβ]; simp [backN]
  have hβ2 : ∀ j, ids.length < j → β j = h.length + (j - ids.length) := fun j hj => by
    obtain ⟨k, hk⟩ : ∃ k, j - ids.length = k + 1 := ⟨j - ids.length - 1, by omega⟩
    rw [← hβ]; simp [backN, List.getElem?_eq_none (Nat.le_of_lt hj), hk]
  have hsl : ¬ slot < h.length → slot = h.length := fun hn => by have := fr.le; omega
  have hm2 : ∀ j, m2 (β j) = m1' j := by
    intro j
    by_cases hj : j < ids.length
    · have hb := List.getElem?_eq_getElem hj
      have hne : ¬ ids[j] = slot := fun e => hns (e ▸ List.getElem_mem hj)
      rw [hβ1 j _ hb, hold j hj, hm', hb]
      simp only [m2, hlt _ (List.getElem_mem hj), if_true, Option.bind_some, hne, if_false]
    · by_cases hj2 : j = ids.length
      · subst hj2
        rw [hβs]
        by_cases hs : slot < h.length
        · simp only [m2, hs, if_true]
        · rw [hsl hs]
          simp only [m2, Nat.lt_irrefl, if_false, hsl hs, Nat.sub_self, Nat.add_zero]
      · rw [hβ2 j (by omega)]
        have : ¬ h.length + (j - ids.length) < h.length := by omega
        simp only [m2, this, if_false]
        by_cases hs : slot < h.length
        · rw [if_pos hs]
          exact (A.good.hi j (by have := hone' hs; omega)).symm
        · rw [if_neg hs]
          congr 1; omega
  generalize hH2 : mergeH h ids slot h1' = h2
  have hl2 : h2.length = if slot < h.length then h.length else h.length + (h1'.length - ids.length) := by
    rw [← hH2]
    unfold mergeH
    split
    · rename_i hs
      rw [if_pos (by simpa [Nat.blt_eq] using hs)]
      split <;> simp [putBack_length]
    · rename_i hs
      rw [if_neg (fun h' => by rw [show Nat.blt slot h.length = true by simpa [Nat.blt_eq] using h'] at hs; cases hs)]
      simp [putBack_length]
  have hput : ∀ b x, b < h.length → (putBack ids β h1' 0 h)[b]? = some x → (b ∉ ids ∧ h[b]? = some x) ∨ ∃ j y, b = β j ∧ h1'[j]? = some y ∧ x = y.ren β := by
    intro b x hb hx
    rw [putBack_get, List.getElem?_eq_getElem hb, Nat.zero_add] at hx
    simp only [Option.map_some, Option.some.injEq] at hx
    split at hx
    · rename_i hmem
      have hmem := memN_iff.1 hmem
      right
      have hi := idxN_get hmem
      have hil := (List.getElem?_eq_some_iff.1 hi).1
      refine ⟨idxN ids b, h1'.getD (idxN ids b) .dead, (hβ1 _ _ hi).symm, ?_, hx.symm⟩
      rw [List.getD_eq_getElem?_getD, List.getElem?_eq_getElem (by omega)]; rfl
    · rename_i hmem
      left
      refine ⟨fun h' => ?_, by rw [List.getElem?_eq_getElem hb, hx]⟩
      rw [memN_iff.2 h'] at hmem; cases hmem
  have hget : ∀ b x, h2[b]? = some x → (b < h.length ∧ b ∉ ids ∧ b ≠ slot ∧ h[b]? = some x) ∨ ∃ j y, b = β j ∧ h1'[j]? = some y ∧ x = y.ren β ∨ (x = HB.dead) := by
    intro b x hx
    have old : b < h.length → (putBack ids β h1' 0 h)[b]? = some x → (b < h.length ∧ b ∉ ids ∧ b ≠ slot ∧ h[b]? = some x) ∨ ∃ j y, b = β j ∧ h1'[j]? = some y ∧ x = y.ren β ∨ (x = HB.dead) := fun hb hx => by
      rcases hput b x hb hx with ⟨h3, h4⟩ | ⟨j, y, h3⟩
      · by_cases hs : b = slot
        · subst hs
          exact .inr ⟨0, .dead, .inr (fr.dead x h4)⟩
        · exact .inl ⟨hb, h3, hs, h4⟩
      · exact .inr ⟨j, y, .inl h3⟩
    rw [← hH2] at hx
    unfold mergeH at hx
    rw [hβ] at hx
    split at hx
    · rename_i hs
      have hs : slot < h.length := by simpa [Nat.blt_eq] using hs
      split at hx
      · rename_i y hy
        by_cases hbs : b = slot
        · subst hbs
          rw [List.getElem?_set_self (by rw [putBack_length]; exact hs)] at hx
          exact .inr ⟨ids.length, y, .inl ⟨hβs.symm, hy, (Option.some.inj hx).symm⟩⟩
        · rw [List.getElem?_set_ne (Ne.symm hbs)] at hx
          exact old (by have := (List.getElem?_eq_some_iff.1 hx).1; rwa [putBack_length] at this) hx
      · exact old (by have := (List.getElem?_eq_some_iff.1 hx).1; rwa [putBack_length] at this) hx
    · rename_i hs
      have hs : ¬ slot < h.length := fun h' => by rw [show Nat.blt slot h.length = true by simpa [Nat.blt_eq] using h'] at hs; cases hs
      by_cases hb : b < h.length
      · rw [List.getElem?_append_left (by rw [putBack_length]; exact hb)] at hx
        exact old hb hx
      · rw [List.getElem?_append_right (by rw [putBack_length]; omega), putBack_length, List.getElem?_map, List.getElem?_drop] at hx
        right
        cases hq : h1'[ids.length + (b - h.length)]? with
        | none => rw [hq] at hx; cases hx
        | some y =>
          rw [hq] at hx
          simp only [Option.map_some, Option.some.injEq] at hx
          refine ⟨_, y, .inl ⟨?_, hq, hx.symm⟩⟩
          by_cases hbe : b = h.length
          · subst hbe
            rw [Nat.sub_self, Nat.add_zero, hβs, hsl hs]
          · rw [hβ2 _ (by omega)]; omega
  have hblk : ∀ b c, blkAt h2 b = some c → (b < h.length ∧ b ∉ ids ∧ b ≠ slot ∧ h[b]? = some (.live c)) ∨ ∃ j c0, b = β j ∧ blkAt h1' j = some c0 ∧ c = renB β c0 := by
    intro b c hb
    unfold blkAt at hb
    cases hq : h2[b]? with
    | none => rw [hq] at hb; cases hb
    | some x =>
      rw [hq] at hb
      rcases hget b x hq with ⟨h3, h4, hs, h5⟩ | ⟨j, y, ⟨h3, h4, h5⟩ | h3⟩
      · exact .inl ⟨h3, h4, hs, hlive b c (by unfold blkAt; rw [h5]; exact hb)⟩
      · right
        subst h5
        cases y <;> simp [HB.ren] at hb
        · exact ⟨j, _, h3, by simp [blkAt, h4], hb.symm⟩
        · exact ⟨j, _, h3, by simp [blkAt, h4], hb.symm⟩
      · subst h3; simp at hb
  have hL2 : ∀ q, L h2 m2 q → (∃ b c, h[b]? = some (.live c) ∧ m b = some q ∧ b ∉ ids) ∨ L h1' m1' q := by
    rintro q ⟨b, c, hb, hm⟩
    rcases hget b _ hb with ⟨h3, h4, hs, h5⟩ | ⟨j, y, ⟨h3, h4, h5⟩ | h3⟩
    · left
      refine ⟨b, c, h5, ?_, h4⟩
      simpa [m2, h3, hs] using hm
    · right
      obtain ⟨c0, rfl, _⟩ := HB.ren_live h5.symm
      refine ⟨j, c0, h4, ?_⟩
      rw [← hm2 j, ← h3]; exact hm
    · cases h3
  have hLh : ∀ q, L h2 m2 q → L h m q ∨ w.heap.size ≤ q := fun q hq => by
    rcases hL2 q hq with ⟨b, c, h3, h4, _⟩ | h3
    · exact .inl ⟨b, c, h3, h4⟩
    · exact (A.L q h3).imp (hL q) id
  have hW : ∀ q, (cx X h2 m2 w1).Wr q → (cx X' h1' m1' w1).Wr q := by
    rintro q (hx | hx)
    · exact .inl (.inl hx)
    · exact (hL2 q hx).imp .inr id
  have r : ∀ l, Ren β (cx X' h1' m1' w1) (cx X h2 m2 w1) l := fun l => ⟨fun b _ => hm2 b, hW, rfl⟩
  have hext : ∀ b q, m b = some q → m2 b = some q := fun b q hb => by
    by_cases hl : b < h.length
    · have hs : b ≠ slot := by
        rintro rfl
        rw [fr.no] at hb; cases hb
      simpa [m2, hl, hs] using hb
    · rw [g.hi b (by omega)] at hb; cases hb
  have hframe : ∀ q, q < w.heap.size → ¬ L h m q → w1.heap[q]? = w.heap[q]? := fun q hq hl => A.frame q hq fun h' => hl (hL q h')
  have S : Step (cx X h m w) (cx X h2 m2 w1) := ⟨hext, fun q hq hw => hw.imp id fun hl => (hLh q hl).resolve_right (by simp only [cx] at hq; omega), fun q hq hw => hframe q hq fun hl => hw (.inr hl), A.shape⟩
  have hother : ∀ b c q, b < h.length → b ∉ ids → h[b]? = some (.live c) → m b = some q → ¬ L (ids.map fun b => (h.getD b .dead).ren (idxN ids)) m' q := by
    rintro b c q hb hbi hbl hm ⟨j, c', hj, hmj⟩
    rw [hm'] at hmj
    cases hij : ids[j]? with
    | none => rw [hij] at hmj; cases hmj
    | some b' =>
      rw [hij] at hmj
      rw [List.getElem?_map, hij] at hj
      simp only [Option.map_some, Option.some.injEq] at hj
      obtain ⟨c0, hc0, _⟩ := HB.ren_live hj
      have hb' : h[b']? = some (.live c0) := by
        rw [List.getD_eq_getElem?_getD] at hc0
        cases hq : h[b']? with
        | none => rw [hq] at hc0; cases hc0
        | some y => rw [hq] at hc0; simpa using hc0
      have := g.inj b b' c c0 q (blkAt_live hbl) (blkAt_live hb') hm hmj
      subst this
      exact hbi (List.mem_of_getElem? hij)
  have G : Good E X h2 m2 w1 := by
    refine ⟨?_, ?_, ?_, ?_, fun q hq => Nat.lt_of_lt_of_le (g.xs q hq) A.size, ?_⟩
    · intro b c hb
      rcases hblk b c hb with ⟨h3, h4, hs, h5⟩ | ⟨j, c0, rfl, h4, rfl⟩
      · obtain ⟨vs, h6, h7⟩ := g.hp b c (blkAt_live h5)
        refine ⟨vs, relB_step S c vs h6, ?_⟩
        have e2 : m2 b = m b := by simp only [m2, h3, if_true, hs, if_false]
        rw [e2]
        refine h7.imp id fun ⟨q, arr, T, h8, h9, h10⟩ => ⟨q, arr, T, h8, ?_, h10⟩
        rw [A.frame q (Array.getElem?_eq_some_iff.1 h9).1 (hother b c q h3 h4 h5 h8), h9]
      · obtain ⟨vs, h6, h7⟩ := A.good.hp j c0 h4
        exact ⟨vs, relB_ren (r (refsB c0)) c0 vs (fun _ h => h) h6, by rw [hm2]; exact h7⟩
    · intro b b' c c' q hb hb' hm hm3
      rcases hblk b c hb with ⟨h3, h4, hs, h5⟩ | ⟨j, c0, rfl, h4, rfl⟩ <;> rcases hblk b' c' hb' with ⟨k3, k4, ks, k5⟩ | ⟨j', c0', rfl, k4, rfl⟩
      · simp only [m2, h3, k3, if_true, hs, ks, if_false] at hm hm3
        exact g.inj b b' c c' q (blkAt_live h5) (blkAt_live k5) hm hm3
      · rw [hm2] at hm3
        simp only [m2, h3, if_true, hs, if_false] at hm
        exact absurd (.inr ⟨b, c, h5, hm, h4⟩) (A.good.own j' c0' q k4 hm3).1
      · rw [hm2] at hm
        simp only [m2, k3, if_true, ks, if_false] at hm3
        exact absurd (.inr ⟨b', c', k5, hm3, k4⟩) (A.good.own j c0 q h4 hm).1
      · rw [hm2] at hm hm3
        rw [A.good.inj j j' c0 c0' q h4 k4 hm hm3]
    · intro b hb
      rw [hl2] at hb
      have : ¬ b < h.length := by split at hb <;> omega
      simp only [m2, this, if_false]
      split
      · rfl
      · rename_i hs
        rw [if_neg hs] at hb
        exact A.good.hi _ (by omega)
    · intro b c q hb hm
      rcases hblk b c hb with ⟨h3, h4, hs, h5⟩ | ⟨j, c0, rfl, h4, rfl⟩
      · simp only [m2, h3, if_true, hs, if_false] at hm
        exact g.own b c q (blkAt_live h5) hm
      · rw [hm2] at hm
        have := A.good.own j c0 q h4 hm
        exact ⟨fun hx => this.1 (.inl hx), this.2⟩
    · intro q c hq
      obtain ⟨h3, h4, vs, h5, h6⟩ := A.good.gl q c hq
      exact ⟨h3, fun hx => h4 (.inl hx), vs, relB_step (r []).step c vs h5, h6⟩
  refine ⟨u, m2, rfl, ⟨G, hext, hLh, hframe, A.shape, A.os, A.tape, A.output, A.size, by rw [hl2]; split <;> omega⟩, rel_ren (r (refsV z0)) z0 u (fun _ h => h) hru, fun b hb hs => by simp only [m2, hb, if_true, hs, if_false]⟩

theorem evFun_ok {S : FuncId → Option Spec} {T : FuncId → Option HSpec} (hS : ∀ f sp, S f = some sp → SpecOk P E f sp) (hT : ∀ f hs, T f = some hs → HSpecOk P E f hs) (d : Nat) : CallOk P E (evFun E S T d) := fun X f args h slot m w us z h1 he g fr hr => by
  simp only [evFun] at he
  split at he
  · rename_i hf
    simp only [Bool.and_eq_true] at hf
    split at he
    · rename_i sp hsp
      obtain ⟨h1, h2⟩ := spec_call (hS f sp hsp) hf.2 he g hr
      exact ⟨h1, h2.mono fun e w1 ⟨u, m1, h3, h4, h5, h6⟩ => ⟨u, m1, h3, h4, h5, fun b hb _ => h6 b hb⟩⟩
    · cases he
  · split at he
    · rename_i hs hhs
      exact ref_call (hT f hs hhs) he g fr (canA_ok E.T _ _ _ hr)
    · cases he

theorem canC_refs (c : Sh) (v : AV) : refsV (canC c v) = refsV v := by
  unfold canC
  split <;> simp [refsV]
theorem canL_refs : ∀ (cs : List Sh) (vs : List AV), refsL (canL cs vs) = refsL vs
  | [], vs => by simp [canL]
  | c :: cs, [] => by simp [canL]
  | c :: cs, v :: vs => by simp only [canL, refsL, canC_refs, canL_refs cs vs]
theorem canV_refs (T : TypeId → Option TI) (t : TypeId) (v : AV) : refsV (canV T t v) = refsV v := by
  unfold canV
  split
  · split
    · simp only [refsV, refsB, canL_refs]
    · rfl
  · split
    · exact canC_refs _ _
    · rfl
theorem canA_refs (T : TypeId → Option TI) : ∀ (ts : List TypeId) (vs : List AV), refsL (canA T ts vs) = refsL vs
  | [], vs => by simp [canA]
  | t :: ts, [] => by simp [canA]
  | t :: ts, v :: vs => by simp only [canA, refsL, canV_refs, canA_refs T ts vs]
theorem reachN_acc (h : H) : ∀ (n : Nat) (ws acc : List Nat), ∀ b ∈ acc, b ∈ reachN h n ws acc
  | 0, ws, acc, b, hb => by simpa [reachN] using hb
  | n + 1, [], acc, b, hb => by simpa [reachN] using hb
  | n + 1, q :: ws, acc, b, hb => by
    simp only [reachN]
    split
    · exact reachN_acc h n ws acc b hb
    · exact reachN_acc h n _ _ b (List.mem_append_left _ hb)
theorem reachN_congr {h h' : H} : ∀ (n : Nat) (ws acc : List Nat), (∀ b ∈ reachN h n ws acc, h'[b]? = h[b]?) → reachN h' n ws acc = reachN h n ws acc
  | 0, _, _, _ => by simp [reachN]
  | n + 1, [], _, _ => by simp [reachN]
  | n + 1, q :: ws, acc, hb => by
    simp only [reachN] at hb ⊢
    cases hm : memN acc q with
    | true => rw [hm] at hb; exact reachN_congr n ws acc hb
    | false =>
      rw [hm] at hb
      simp only [] at hb ⊢
      have e : h'.getD q .dead = h.getD q .dead := by
        rw [List.getD_eq_getElem?_getD, List.getD_eq_getElem?_getD, hb q (reachN_acc h n _ _ q (by simp))]
      rw [e]
      exact reachN_congr n _ _ hb
theorem app_map {g : Nat → HB} : ∀ (ids : List Nat) (h : H), ids.Nodup → (∀ b ∈ ids, b < h.length) → ∀ b, (app (ids.map fun b => (b, g b)) h)[b]? = if b ∈ ids then some (g b) else h[b]?
  | [], h, _, _, b => by simp [app]
  | q :: r, h, hn, hl, b => by
    have hn := List.nodup_cons.1 hn
    simp only [List.map_cons, app]
    rw [app_map r _ hn.2 fun b hb => by simpa using hl b (List.mem_cons_of_mem _ hb)]
    by_cases hb : b ∈ r
    · simp [hb]
    · by_cases hq : b = q
      · subst hq
        simp only [hb, if_false, List.mem_cons, true_or, if_true]
        rw [List.getElem?_set_self (hl b List.mem_cons_self)]
      · simp only [hb, if_false, List.mem_cons, hq, false_or]
        rw [List.getElem?_set_ne (Ne.symm hq)]
theorem putBack_app {ids : List Nat} {h h1' : H} (ρ : Nat → Nat) (hn : ids.Nodup) (hl : ∀ b ∈ ids, b < h.length) : putBack ids ρ h1' 0 h = app (ids.map fun b => (b, (h1'.getD (idxN ids b) .dead).ren ρ)) h := by
  apply List.ext_getElem?
  intro b
  rw [app_map (g := fun b => (h1'.getD (idxN ids b) .dead).ren ρ) ids h hn hl b, putBack_get, Nat.zero_add]
  by_cases hb : b ∈ ids
  · simp only [hb, if_true, memN_iff.2 hb, List.getElem?_eq_getElem (hl b hb), Option.map_some]
  · have : memN ids b = false := by
      cases h : memN ids b with
      | false => rfl
      | true => exact absurd (memN_iff.1 h) hb
    simp only [hb, if_false, this]
    cases h[b]? <;> rfl
theorem app_snoc : ∀ (U : List (Nat × HB)) (p : Nat × HB) (h : H), app (U ++ [p]) h = (app U h).set p.1 p.2
  | [], _, _ => rfl
  | q :: U, p, h => by show app (U ++ [p]) (h.set q.1 q.2) = _; rw [app_snoc U p]; rfl
theorem mergeH_app {ids : List Nat} {h h1' : H} {slot : Nat} (hn : ids.Nodup) (hl : ∀ b ∈ ids, b < h.length) (hs : slot < h.length) : mergeH h ids slot h1' = app ((ids.map fun b => (b, (h1'.getD (idxN ids b) .dead).ren (backN ids h.length slot))) ++ (match h1'[ids.length]? with | some x => [(slot, x.ren (backN ids h.length slot))] | none => [])) h := by
  unfold mergeH
  rw [show Nat.blt slot h.length = true by simpa [Nat.blt_eq] using hs]
  cases h1'[ids.length]? with
  | none => rw [List.append_nil]; exact putBack_app _ hn hl
  | some x => simp only []; rw [app_snoc, putBack_app _ hn hl]
theorem evFun_loc {S : FuncId → Option Spec} {T : FuncId → Option HSpec} (hS : ∀ f sp, S f = some sp → SpecNat sp) (hT : ∀ f hs, T f = some hs → HNat hs) (d : Nat) : CallLoc E (evFun E S T d) := fun f args h h' slot v h1 he hs hl hl1 hi' => by
  have first : (E.vs f && refFree args) = true → h1 = h ∧ evFun E S T d f args h' slot (AV × H) (fun v h => some (v, h)) = some (v, h') := fun hv => by
    simp only [evFun, hv] at he ⊢
    split at he
    · rename_i sp hsp
      obtain ⟨h2, h3⟩ := pureLoc (F := fun R K => sp (canA E.T (parsOf E f) args) R K) (fun R S K J => hS f sp hsp _ _ _ _ _) he
      exact ⟨h2, h3 h'⟩
    · cases he
  refine ⟨first, fun hb => ?_⟩
  cases hv : (E.vs f && refFree args) with
  | true =>
    obtain ⟨rfl, h2⟩ := first hv
    exact ⟨[], (fun p hp => by cases hp), rfl, h2⟩
  | false =>
    simp only [evFun, hv] at he ⊢
    split at he
    · rename_i hsp hhs
      unfold viaRef at he ⊢
      rw [canA_refs] at he ⊢
      rw [reachN_congr _ _ _ hb]
      obtain ⟨hc, he⟩ := sel_iff.1 he
      generalize reachN h 100000 (refsL args) [] = ids at hb hc he
      have hget : ∀ b ∈ ids, h'.getD b .dead = h.getD b .dead := fun b hbi => by rw [List.getD_eq_getElem?_getD, List.getD_eq_getElem?_getD, hb b hbi]
      simp only [Bool.and_eq_true] at hc
      obtain ⟨⟨⟨⟨⟨hc1, hc2⟩, hc3⟩, hc4⟩, hc5⟩, hc6⟩ := hc
      have hc3' : ids.all (fun b => ((h'.getD b .dead).refs).all (memN ids)) = true := List.all_eq_true.2 fun b hbi => by rw [hget b hbi]; exact List.all_eq_true.1 hc3 b hbi
      have hc4' : ids.all (fun b => Nat.blt b h'.length) = true := by rw [hl]; exact hc4
      dsimp only
      rw [hc1, hc2, hc3', hc4', hi', hc6]
      have hmap : (ids.map fun b => (h'.getD b .dead).ren (idxN ids)) = ids.map fun b => (h.getD b .dead).ren (idxN ids) := List.map_congr_left fun b hbi => by rw [hget b hbi]
      rw [hmap]
      have e := hT f hsp hhs (renL (idxN ids) (canA E.T (parsOf E f) args)) (ids.map fun b => (h.getD b .dead).ren (idxN ids)) (AV × H) (AV × H) (fun v h => some (v, h)) (fun p => sel (oneNew h ids slot p.2) (some (renV (backN ids h.length slot) p.1, mergeH h ids slot p.2)) none)
      simp only [Option.bind_some] at e
      rw [← e] at he
      obtain ⟨⟨z0, h1'⟩, k1, k2⟩ := of_bind he
      obtain ⟨hone, k2⟩ := sel_iff.1 k2
      cases k2
      have e' := hT f hsp hhs (renL (idxN ids) (canA E.T (parsOf E f) args)) (ids.map fun b => (h.getD b .dead).ren (idxN ids)) (AV × H) (AV × H) (fun v h => some (v, h)) (fun p => sel (oneNew h' ids slot p.2) (some (renV (backN ids h'.length slot) p.1, mergeH h' ids slot p.2)) none)
      simp only [Option.bind_some] at e'
      have hnd := nodupN_nodup hc1
      have hlt : ∀ b ∈ ids, b < h.length := fun b hbi => by
        have := List.all_eq_true.1 hc4 b hbi
        simpa [Nat.blt_eq] using this
      refine ⟨_, ?_, mergeH_app hnd hlt hs, ?_⟩
      · intro p hp
        rcases List.mem_append.1 hp with hp | hp
        · obtain ⟨b, hb, rfl⟩ := List.mem_map.1 hp
          exact .inr hb
        · split at hp
          · rw [List.mem_singleton] at hp
            subst hp
            exact .inl rfl
          · cases hp
      · show sel true _ none = _
        rw [sel_true, ← e', k1]
        simp only [Option.bind_some]
        have hone' : oneNew h' ids slot h1' = true := by unfold oneNew at hone ⊢; rw [hl]; exact hone
        rw [hone', sel_true, mergeH_app hnd (by rw [hl]; exact hlt) (by rw [hl]; exact hs), hl]
    · cases he

/-- the same world, fewer places to write -/
theorem Step.of_wr {C C' : Cx} (hm : ∀ b g, C.m b = some g → C'.m b = some g) (hw : ∀ g, C'.Wr g → C.Wr g) (e : C'.w = C.w) : Step C C' :=
  ⟨hm, fun g _ h => hw g h, fun g _ _ => by rw [e], fun g arr T h => ⟨arr, by rw [e]; exact h, rfl⟩⟩
theorem L_nil {m : Nat → Option Nat} {g : Nat} : ¬ L [] m g := by rintro ⟨b, c, hb, _⟩; simp at hb

/-! ### what is handed back -/
section
variable {X : Nat → Prop} {h : H} {m : Nat → Option Nat} {w : World}
/-- a row of cells that lies in shut memory -/
theorem seqK_ok {R : Type} {r : R} {C C' : Cx} {f : AV → (AV → Option R) → Option R} (hf : ∀ v u K, f v K = some r → rel C v u → ∃ v', K v' = some r ∧ rel C' v' u) :
    ∀ (vs : List AV) (us : List Value) (K : List AV → Option R), seqK f vs K = some r → relL C vs us → ∃ vs', K vs' = some r ∧ relL C' vs' us ∧ vs'.length = vs.length
  | [], us, K, h, hr => ⟨[], h, hr, rfl⟩
  | v :: vs, _, K, h, ⟨u, q, he, h1, h2⟩ => by
    simp only [seqK] at h
    obtain ⟨v', h3, h4⟩ := hf v u _ h h1
    obtain ⟨vs', h5, h6, h7⟩ := seqK_ok hf vs q _ h3 h2
    exact ⟨_, h5, ⟨u, q, he, h4, h6⟩, by simp [h7]⟩

theorem relR_chunks {C : Cx} {sz : Nat} : ∀ (n : Nat) (cs : List AV) (us : List Value), cs.length = n * sz → relL C cs us → relR C sz (chunksN sz n cs) us
  | 0, cs, us, hl, h => by
    have : cs = [] := List.eq_nil_of_length_eq_zero (by simpa using hl)
    subst this; exact h
  | n + 1, cs, us, hl, h => by
    have hle : sz ≤ cs.length := by rw [hl, Nat.succ_mul]; omega
    refine ⟨us.take sz, us.drop sz, (List.take_append_drop sz us).symm, by simp; omega, relL_take sz h, ?_⟩
    exact relR_chunks n _ _ (by rw [List.length_drop, hl, Nat.succ_mul]; omega) (relL_drop sz h)
theorem chunksN_length (sz : Nat) : ∀ (n : Nat) (cs : List AV), (chunksN sz n cs).length = n
  | 0, _ => rfl
  | n + 1, cs => by simp [chunksN, chunksN_length sz n]

theorem frzV_ok (g : Good E X h m w) {R : Type} {r : R} : ∀ (n : Nat) (v : AV) (u : Value) (K : AV → Option R), frzV n h v K = some r → rel (cx X h m w) v u → ∃ z, K z = some r ∧ rel ⟨fun _ => none, X, w⟩ z u
  | 0, _, _, _, hf, _ => by cases hf
  | n + 1, v, u, K, hf, hr => by
    have ih := frzV_ok g (r := r) n
    have down : Step (cx X h m w).z ⟨fun _ => none, X, w⟩ := ⟨fun _ _ h => (by cases h), fun _ _ h => .inl h, fun _ _ _ => rfl, fun _ arr _ h => ⟨arr, h, rfl⟩⟩
    have own : ∀ (b : Nat) (c : Blk) (q : Nat), blkAt h b = some c → m b = some q → ¬ X q := fun b c q hb hm => (g.own b c q hb hm).1
    unfold frzV at hf
    split at hf
    · cases hf
    · cases hf
    · cases hf
    · rename_i b off len sz
      obtain ⟨c, hc, hf⟩ := readSl_then hf
      obtain ⟨a, cap, us, hu, hrc, hlen, hplace⟩ := readSl_ok (n := len) (sz := sz) g hc rfl (by simp [slSz]) hr
      -- the place is one of the state's blocks
      have hsh : us = [] ∨ ∃ p, a = some p ∧ p.spot = none ∧ ¬ X p.block ∧ cellsAt w p us := by
        obtain ⟨a', cap', hu', hl', hm', hp'⟩ := hr
        rw [hu] at hu'
        cases hu'
        rcases hp' with h0 | ⟨q, hq, ha, _⟩
        · refine .inl (List.eq_nil_of_length_eq_zero ?_)
          have : len = 0 := by omega
          rw [hlen, this, Nat.zero_mul]
        · rcases hplace with h1 | ⟨p, hp, hcells⟩
          · exact .inl h1
          · rw [ha] at hp
            cases hp
            have hq : m b = some q := hq
            have hb : ∃ c0, blkAt h b = some c0 := by
              simp only [readSl] at hc
              split at hc
              · rename_i c0 h0; exact ⟨c0, h0⟩
              · cases hc
            obtain ⟨c0, hb⟩ := hb
            exact .inr ⟨_, ha, rfl, own b c0 q hb hq, hcells⟩
      have hcap : len ≤ cap := by
        obtain ⟨a', cap', hu', hl', _⟩ := hr
        rw [hu] at hu'; cases hu'; exact hl'
      subst hu
      split at hf
      · rename_i k xs
        obtain ⟨h1, hf⟩ := sel_iff.1 hf
        have h1 := of_decide_eq_true h1
        subst h1
        have hrc : us = _ := hrc
        have e : xs.length = len := by rw [← Nat.mul_one len, ← hlen, hrc]; simp
        exact ⟨_, hf, a, cap, us, by rw [show (Blk.ints k xs).num = len from e], by rw [show (Blk.ints k xs).num = len from e]; exact hcap, hrc, by rw [hlen]; simp [Blk.num, Blk.esz, e], hsh⟩
      · rename_i xs
        obtain ⟨h1, hf⟩ := sel_iff.1 hf
        have h1 := of_decide_eq_true h1
        subst h1
        have hrc : us = _ := hrc
        have e : xs.length = len := by rw [← Nat.mul_one len, ← hlen, hrc]; simp
        exact ⟨_, hf, a, cap, us, by rw [show (Blk.bools xs).num = len from e], by rw [show (Blk.bools xs).num = len from e]; exact hcap, hrc, by rw [hlen]; simp [Blk.num, Blk.esz, e], hsh⟩
      · rename_i cs
        obtain ⟨cs', h1, h2, h3⟩ := seqK_ok (C' := ⟨fun _ => none, X, w⟩) (fun v u K h1 h2 => ih v u K h1 h2) cs us _ hf hrc
        have hl2 := relL_length h2
        split at h1
        · cases h1
        · have e : cs'.length = len := by rw [← hl2, hlen, Nat.mul_one]
          exact ⟨_, h1, a, cap, us, by rw [show (Blk.any cs').num = len from e], by rw [show (Blk.any cs').num = len from e]; exact hcap, h2, by rw [hlen]; simp [Blk.num, Blk.esz, e], hsh⟩
        · rename_i sz' hz0 hz1
          have e : (Blk.rows sz (chunksN sz len cs')).num = len := chunksN_length sz len cs'
          exact ⟨_, h1, a, cap, us, by rw [e], by rw [e]; exact hcap, ⟨Nat.pos_of_ne_zero hz0, relR_chunks len cs' us (by rw [← hl2, hlen]) h2⟩, by rw [hlen, e]; rfl, hsh⟩
      · cases hf
    · rename_i c
      obtain ⟨us, rfl, hrc⟩ := hr
      split at hf
      · rename_i cs
        obtain ⟨cs', h1, h2, _⟩ := seqK_ok (C' := ⟨fun _ => none, X, w⟩) (fun v u K h1 h2 => ih v u K h1 h2) cs us _ hf hrc
        exact ⟨_, h1, us, rfl, h2⟩
      · cases hf
      · rename_i hn1 hn2
        refine ⟨_, hf, us, rfl, ?_⟩
        cases c with
        | ints k xs => exact hrc
        | bools xs => exact hrc
        | any cs => exact absurd rfl (hn1 cs)
        | rows sz rs => exact absurd rfl (hn2 sz rs)
    · rename_i vs
      obtain ⟨us, rfl, hrc⟩ := hr
      obtain ⟨cs', h1, h2, _⟩ := seqK_ok (C' := ⟨fun _ => none, X, w⟩) (fun v u K h1 h2 => ih v u K h1 h2) vs us _ hf hrc
      exact ⟨_, h1, us, rfl, h2⟩
    · rename_i t x
      obtain ⟨u, rfl, hrx⟩ := hr
      obtain ⟨x', h1, h2⟩ := ih x u _ hf hrx
      exact ⟨_, h1, u, rfl, h2⟩
    · rename_i n1 n2 n3 n4 n5 n6 n7
      refine ⟨v, hf, ?_⟩
      have hz : rel (cx X h m w).z v u := by
        cases v with
        | undef => exact absurd rfl n1
        | ptr b o => exact absurd rfl (n2 b o)
        | fn f c => exact absurd rfl (n3 f c)
        | sl b o l s => exact absurd rfl (n4 b o l s)
        | agg c => exact absurd rfl (n5 c)
        | tup vs => exact absurd rfl (n6 vs)
        | iface t x => exact absurd rfl (n7 t x)
        | int k q => exact hr
        | bool b => exact hr
        | str s => exact hr
        | nilptr => exact hr
        | fptr c => exact hr
        | esl => exact hr
        | fsl c => exact hr
        | nilfn => exact hr
        | nilif => exact hr
      exact rel_step down _ _ hz
end

/-- the state at the begin of a call that is told of -/
theorem good_start {Wr : Nat → Prop} {w : World} (h1 : ∀ g, Wr g → g < w.heap.size) (h2 : GlobOk E Wr w) : Good E Wr [] (fun _ => none) w where
  hp := fun b c hb => by simp [blkAt] at hb
  inj := fun b b' c c' g hb => by simp [blkAt] at hb
  hi := fun _ _ => rfl
  own := fun b c g hb => by simp [blkAt] at hb
  xs := h1
  gl := fun g c hg => by
    obtain ⟨h3, h4, us, h5, h6⟩ := h2 g c hg
    refine ⟨h3, h4, us, ?_, h6⟩
    exact relB_step (C := ⟨fun _ => none, Wr, w⟩) (C' := (cx Wr [] (fun _ => none) w).z) (Step.of_wr (fun _ _ h => h) (fun q h => h.elim id fun h => absurd h L_nil) rfl) c us h5

/-- WHAT THE EVALUATOR COMES TO IS TRUE OF THE FUNCTION. -/
theorem evSpec_ok (hE : EnvOk E P) (hF : FunsOk E P) {S : FuncId → Option Spec} {T : FuncId → Option HSpec} (hS : ∀ f sp, S f = some sp → SpecOk P E f sp) (hT : ∀ f hs, T f = some hs → HSpecOk P E f hs) {O : Nat → Option PSpec} (hO : ONat O) (d : Nat) (f : FuncId) (ho : ∀ fn c, E.F f = some fn → fn.body = some c → OrcOk E (evFun E S T d) O f ([] : H).length 4000 c) : SpecOk P E f (evSpec E S T O d f) := by
  have hnat := fun f sp h => (hS f sp h).1
  have hnatT := fun f hs h => (hT f hs h).1
  refine ⟨evSpec_nat E hnat hnatT hO d f, ?_⟩
  intro Wr w args us z h1 h2 hr he
  unfold evSpec at he
  have e := evBody_push E (evFun_nat E hnat hnatT d) hO f args [] (fun v h => some (v, h)) (fun p => frzV 20 p.2 p.1 fun z => some (canR E.T (ressOf E f) z))
  simp only [Option.bind_some] at e
  rw [← e] at he
  obtain ⟨⟨v, h'⟩, h3, h4⟩ := of_bind he
  have g := good_start (E := E) h1 h2
  have hr' : relL (cx Wr [] (fun _ => none) w) args us := relL_step (C := ⟨fun _ => none, Wr, w⟩) (C' := cx Wr [] (fun _ => none) w) (Step.of_wr (fun _ _ h => h) (fun q h => h.elim id fun h => absurd h L_nil) rfl) args us hr
  obtain ⟨h5, h6⟩ := evBody_ok hE hF (evFun_loc hnat hnatT d) (evFun_ok hS hT d) (evFun_nat E hnat hnatT d) hO ho h3 g hr'
  refine ⟨h5, h6.mono ?_⟩
  rintro e w1 ⟨u, m1, rfl, A, hru, _⟩
  obtain ⟨z', h7, h8⟩ := frzV_ok A.good 20 v u _ h4 hru
  cases h7
  replace h8 := canR_ok E.T (ressOf E f) _ _ h8
  refine ⟨u, rfl, ⟨A.os, A.tape, A.output, A.size, fun k hk => A.frame k hk ?_⟩, h8⟩
  rintro ⟨b, c, hb, _⟩
  simp at hb

/-- THE SAME, WITH ITS BLOCKS. -/
theorem evH_ok (hE : EnvOk E P) (hF : FunsOk E P) {S : FuncId → Option Spec} {T : FuncId → Option HSpec} (hS : ∀ f sp, S f = some sp → SpecOk P E f sp) (hT : ∀ f hs, T f = some hs → HSpecOk P E f hs) {O : Nat → Option PSpec} (hO : ONat O) (d : Nat) (f : FuncId) (k : Nat)
    (ho : ∀ fn c, E.F f = some fn → fn.body = some c → OrcOk E (evFun E S T d) O f k 4000 c) {X : Nat → Prop} {args : List AV} {h : H} {m : Nat → Option Nat} {w : World} {us : List Value} {z : AV} {h1 : H} (hk : h.length = k)
    (he : evH E S T O d f args h (AV × H) (fun v h => some (v, h)) = some (z, h1)) (g : Good E X h m w) (hr : relL (cx X h m w) args us) :
    FnOk P f ∧ Calls P f us.toArray w fun e w1 => ∃ u m1, e = .returned u ∧ Adv E X h m w h1 m1 w1 ∧ rel (cx X h1 m1 w1) z u ∧ ∀ b, b < h.length → m1 b = m b := by
  subst hk
  have hnat := fun f sp h => (hS f sp h).1
  have hnatT := fun f hs h => (hT f hs h).1
  unfold evH at he
  have e := evBody_push E (evFun_nat E hnat hnatT d) hO f args h (fun v h => some (v, h)) (fun p => norm (some [0]) h.length ⟨[p.1], p.2⟩ fun st => some (st.t.getD 0 .undef, st.h))
  simp only [Option.bind_some] at e
  rw [← e] at he
  obtain ⟨⟨v, h'⟩, h3, h4⟩ := of_bind he
  obtain ⟨h5, h6⟩ := evBody_ok hE hF (evFun_loc hnat hnatT d) (evFun_ok hS hT d) (evFun_nat E hnat hnatT d) hO ho h3 g hr
  refine ⟨h5, h6.mono ?_⟩
  rintro e w1 ⟨u, m1, rfl, A, hru, hold⟩
  have hi : Inv E X h m w ⟨[v], h'⟩ m1 w1 { tmps := #[u], defers := [] } := ⟨⟨A.good, ⟨u, [], rfl, hru, rfl⟩, rfl⟩, A, hold⟩
  obtain ⟨st', m', h7, hi'⟩ := norm_ok g h4 hi
  cases h7
  have hv := hi'.sim.val (.tmp 0)
  exact ⟨u, m', rfl, hi'.adv, hv, hi'.old⟩
theorem HSpecOk.mk' {f : FuncId} {hs : HSpec} (hn : HNat hs) (h : ∀ (X : Nat → Prop) (args : List AV) (h : H) (m : Nat → Option Nat) (w : World) (us : List Value) (z : AV) (h1 : H),
    hs args h (AV × H) (fun v h => some (v, h)) = some (z, h1) → Good E X h m w → relL (cx X h m w) args us →
    FnOk P f ∧ Calls P f us.toArray w fun e w1 => ∃ u m1, e = .returned u ∧ Adv E X h m w h1 m1 w1 ∧ rel (cx X h1 m1 w1) z u ∧ ∀ b, b < h.length → m1 b = m b) : HSpecOk P E f hs := ⟨hn, h⟩

/-- A function told in other words. -/
theorem SpecOk.of {f : FuncId} {sp sp' : Spec} (h : SpecOk P E f sp) (hn : SpecNat sp') (hs : ∀ args z, sp' args AV some = some z → sp args AV some = some z) : SpecOk P E f sp' :=
  ⟨hn, fun Wr w args us z h1 h2 hr he => h.2 Wr w args us z h1 h2 hr (hs args z he)⟩
end
end Go.Ev
