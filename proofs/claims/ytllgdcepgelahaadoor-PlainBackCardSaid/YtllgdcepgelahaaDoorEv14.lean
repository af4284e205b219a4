/- One operation: what the evaluator tells of it is what the model does. -/
import Derived.Test.YtllgdcepgelahaaDoorEv13
namespace Go.Ev

structure Sim (E : Env) (X : Nat → Prop) (t : List AV) (h : H) (m : Nat → Option Nat) (w : World) (a : Act) : Prop where
  good : Good E X h m w
  tm : relL (cx X h m w) t a.tmps.toList
  df : a.defers = []

/-- the call of f is a call of Go text -/
def FnOk (P : Program) (f : FuncId) : Prop := ∃ fn c, P.funcs[f]? = some fn ∧ (fn.name == "runtime.NumGoroutine") = false ∧ fn.body = some c

/-- A way to tell calls that tells the truth. -/
def CallOk (P : Program) (E : Env) (call : CallF) : Prop := ∀ X f args h slot m w us z h1, call f args h slot (AV × H) (fun v h => some (v, h)) = some (z, h1) → Good E X h m w → Free h m slot → relL (cx X h m w) args us →
  FnOk P f ∧ Calls P f us.toArray w fun e w1 => ∃ u m1, e = .returned u ∧ Adv E X h m w h1 m1 w1 ∧ rel (cx X h1 m1 w1) z u ∧ ∀ b, b < h.length → b ≠ slot → m1 b = m b

section
variable {P : Program} {E : Env} {X : Nat → Prop} {t : List AV} {h h1 : H} {m : Nat → Option Nat} {w w1 : World} {a : Act} {slot : Nat}

theorem Sim.val (S : Sim E X t h m w a) (x : Operand) : rel (cx X h m w) (val E t x) (a.eval x) := by
  cases x with
  | tmp i =>
    have hl := relL_length S.tm
    simp only [Ev.val, Act.eval]
    by_cases hi : i < t.length
    · obtain ⟨u, h1, h2⟩ := relL_get i (t[i]'hi) S.tm (by rw [List.getElem?_eq_getElem hi])
      rw [Array.getElem?_toList] at h1
      rw [List.getD_eq_getElem?_getD, List.getElem?_eq_getElem hi, Array.getD_eq_getD_getElem?, h1]
      exact h2
    · have hn : t[i]? = none := List.getElem?_eq_none (Nat.le_of_not_lt hi)
      rw [List.getD_eq_getElem?_getD, hn]
      trivial
  | const v => exact rel_ofVal _ 3 v
  | global g =>
    simp only [Ev.val, Act.eval]
    cases hg : E.G g with
    | none => trivial
    | some c =>
      obtain ⟨_, h2, us, h3, h4⟩ := S.good.gl g c hg
      refine ⟨_, us, rfl, rfl, h3, .inr ?_, h4⟩
      rintro (hx | ⟨b, d, hb, hm⟩)
      · exact h2 hx
      · have := (S.good.own b d g (blkAt_live hb) hm).2
        rw [hg] at this; cases this
  | func f => exact ⟨[], rfl, rfl⟩

theorem Sim.vals (S : Sim E X t h m w a) : ∀ xs : List Operand, relL (cx X h m w) (xs.map (Ev.val E t)) (xs.map a.eval)
  | [] => rfl
  | x :: xs => ⟨_, _, rfl, S.val x, S.vals xs⟩

theorem run_callFunc {f : FuncId} {args : Array Value} (hf : FnOk P f) : (callFunc f args).run P w = .ok (.enter f args) w := by
  obtain ⟨fn, c, h1, h2, h3⟩ := hf
  simp [callFunc, h1, h3]
  intro h4
  simp [h4] at h2

theorem sliceArrA_ok (hE : EnvOk E P) (g : Good E X h m w) {ty : TypeId} {x z : AV} {u : Value} {lo hi mx : Option AV} {lv hv mv : Option Value} (hs : sliceArrA E h ty x lo hi mx some = some z) (hx : rel (cx X h m w) x u)
    (hlo : relO (cx X h m w) lo lv) (hhi : relO (cx X h m w) hi hv) (hmx : relO (cx X h m w) mx mv) : ∃ q, (Instr.sliceAt ty u lv hv mv).run P w = .ok q w ∧ rel (cx X h m w) z q := by
  unfold sliceArrA at hs
  split at hs
  · rename_i n e _ _ _ ht
    have hu := (hE _ _ ht).und_array rfl
    split at hs
    · rename_i ie he
      have hsz := fun w => (hE _ _ he).run_sizeOf (w := w)
      split at hs
      · rename_i b off
        obtain ⟨q, hq, rfl⟩ := hx
        split at hs
        · rename_i c hb
          split at hs
          · rename_i l gg hlo' hhi'
            have e1 := oInt_cases hlo' hlo
            have e2 := oInt_cases hhi' hhi
            obtain ⟨h0, hs⟩ := sel_iff.1 hs
            have h0 := of_decide_eq_true h0
            obtain ⟨h1, hs⟩ := sel_iff.1 hs
            obtain ⟨h2, hs⟩ := sel_iff.1 hs
            obtain ⟨h3, hs⟩ := sel_iff.1 hs
            obtain ⟨h4, hs⟩ := sel_iff.1 hs
            have h1 := of_decide_eq_true h1
            have h2 := of_decide_eq_true h2
            have h3 := of_decide_eq_true h3
            have h4 := of_decide_eq_true h4
            cases hs
            cases mv with
            | some _ => cases hmx
            | none =>
            have hbd := run_bounds (P := P) (w := w) false n n e1 e2 h2 h3 h4
            obtain ⟨us, arr, T, h5, h6, h7, _⟩ := g.block hb hq
            have hlen := relB_length h5
            refine ⟨_, by simp [Instr.sliceAt, run_underlying hu, Instr.sureAddr, hbd, hsz]; rfl, ?_⟩
            rw [nadd_eq, nmul_eq]
            refine ⟨_, n - l.toNat, rfl, by omega, ?_, ?_⟩
            · unfold maxLen; omega
            · by_cases e0 : n = l.toNat
              · exact .inl (by omega)
              · refine .inr ⟨q, hq, by rw [if_neg e0, add_mk], slotOk_cut (l := l.toNat) (m := n) (cap := n) ⟨arr, T, h6, by omega⟩ (by omega) (Nat.le_refl _)⟩
          · cases hs
        · cases hs
      · cases hs
    · cases hs
  · cases hs

theorem evOp_ok (hE : EnvOk E P) {call : CallF} (hcall : CallOk P E call) (S : Sim E X t h m w a) (f : Free h m slot) {o : Oper} {z : AV} (hm : evOp E call t h slot o (fun v h => some (v, h)) = some (z, h1)) {K : Act → World → Prop} {Q : Exit → Act → World → Prop}
    (hK : ∀ u m1 w1, Adv E X h m w h1 m1 w1 → rel (cx X h1 m1 w1) z u → (∀ b, b < h.length → b ≠ slot → m1 b = m b) → K (a.put o.dst u) w1) : o.wp P a w K Q := by
  have pure_ : ∀ {s : Sem Value} {q : Value}, h1 = h → s.run P w = .ok q w → rel (cx X h m w) z q → (do pure (.value (← s)) : Sem Next).run P w = .ok (.value q) w ∧ K (a.put o.dst q) w := by
    intro s q e hr hz
    subst e
    exact ⟨by simp [hr], hK q m w (Adv.refl S.good) hz fun _ _ _ => rfl⟩
  have made_ : ∀ {s : Sem Value}, Made P E X h m w slot s z h1 → ∃ q w1, (do pure (.value (← s)) : Sem Next).run P w = .ok (.value q) w1 ∧ K (a.put o.dst q) w1 := by
    rintro s ⟨u, m1, w1, h2, h3, h4, h5⟩
    exact ⟨u, w1, by simp [h2], hK u m1 w1 h3 h4 fun b _ hb => h5 b hb⟩
  unfold Oper.wp execOp
  unfold evOp at hm
  split at hm
  case h_1 x ho => cases hm; rw [ho]; exact hK _ m w (Adv.refl S.good) (S.val x) fun _ _ _ => rfl
  case h_2 x ho => cases hm; rw [ho]; exact hK _ m w (Adv.refl S.good) (S.val x) fun _ _ _ => rfl
  case h_3 c x y ho =>
    rw [ho]; dsimp only
    split at hm
    · rename_i u hu
      have hc := S.val c
      rw [hu] at hc
      have hc : a.eval c = .bool u := hc
      cases u with
      | true =>
        cases hm
        simp only [hc, asBool, Sem.run_bind, Sem.run_pure, Result.andThen_ok, if_true]
        exact hK _ m w (Adv.refl S.good) (S.val x) fun _ _ _ => rfl
      | false =>
        cases hm
        simp only [hc, asBool, Sem.run_bind, Sem.run_pure, Result.andThen_ok]
        exact hK _ m w (Adv.refl S.good) (S.val y) fun _ _ _ => rfl
    · cases hm
  case h_4 e ho =>
    rw [ho]; dsimp only
    split at hm
    · rename_i i hi
      cases hm
      obtain ⟨q, w1, h2, h3⟩ := made_ (alloc_ok (P := P) hE S.good f hi)
      simp only [h2]; exact h3
    · cases hm
  case h_5 e x ho =>
    rw [ho]; dsimp only
    have hx := S.val x
    split at hm
    · rename_i i hi
      split at hm
      · rename_i c hc
        rw [hc] at hx
        obtain ⟨_, hm⟩ := sel_iff.1 hm
        cases hm
        obtain ⟨q, w1, h2, h3⟩ := made_ (box_ok (P := P) (e := e) S.good f hx (.inl ⟨c, rfl⟩))
        simp only [h2]; exact h3
      · rename_i hne
        obtain ⟨hv, hm⟩ := sel_iff.1 hm
        cases hm
        have hb : (val E t x).blk = .any [val E t x] := by
          cases hq : val E t x <;> first | rfl | (rw [hq] at hv; simp [AV.isCell] at hv)
        have hbx := box_ok (P := P) (e := e) S.good f hx (.inr hv)
        rw [hb] at hbx
        obtain ⟨q, w1, h2, h3⟩ := made_ hbx
        simp only [h2]; exact h3
    · cases hm
  case h_6 ty ps ho =>
    rw [ho]; dsimp only
    split at hm
    · rename_i v hv
      cases hm
      have hq := relQ_map (C := cx X h m w) S.val ps.toList
      obtain ⟨q, h2, h3⟩ := buildA_ok (P := P) (w := w) hE hv hq
      have e : (ps.map fun (i, x) => (i, a.eval x)) = (ps.toList.map fun p => (p.1, a.eval p.2)).toArray := by
        apply Array.ext'; simp
      obtain ⟨h4, h5⟩ := pure_ rfl h2 h3
      rw [e]; simp only [h4]; exact h5
    · cases hm
  case h_7 ty len ps ho =>
    rw [ho]; dsimp only
    have hq := relQ_map (C := cx X h m w) S.val ps.toList
    have e : (ps.map fun (i, x) => (i, a.eval x)) = (ps.toList.map fun p => (p.1, a.eval p.2)).toArray := by
      apply Array.ext'; simp
    obtain ⟨q, w1, h2, h3⟩ := made_ (buildSlA_ok (P := P) hE S.good f hm hq)
    rw [e]; simp only [h2]; exact h3
  case h_8 ty x ho =>
    rw [ho]; dsimp only
    obtain ⟨v, h2, h3⟩ := of_bind (((loadA_push E h ty (val E t x) some fun v => some (v, h)).trans (by simp)).trans hm)
    cases h3
    obtain ⟨q, h4, h5⟩ := loadA_ok (P := P) hE S.good h2 (S.val x)
    obtain ⟨h6, h7⟩ := pure_ rfl h4 h5
    simp only [h6]; exact h7
  case h_9 ty x y ho =>
    rw [ho]; dsimp only
    obtain ⟨v, h2, h3⟩ := of_bind (((storeA_push E h ty (val E t x) (val E t y) some fun h' => some (AV.tup [], h')).trans (by simp)).trans hm)
    cases h3
    obtain ⟨w1, h4, h5⟩ := storeA_ok (P := P) hE S.good h2 (S.val x) (S.val y)
    simp only [Sem.run_bind, h4, Result.andThen_ok, Sem.run_pure]
    exact hK _ m w1 h5 ⟨[], rfl, rfl⟩ fun _ _ _ => rfl
  case h_10 x ho =>
    rw [ho]; dsimp only
    have hx := S.val x
    have done : ∀ {u : Value}, a.eval x = u → (h1 = h ∧ z = val E t x) → K (a.put o.dst u) w := by
      rintro u e ⟨e1, e2⟩
      subst e1; subst e2
      rw [← e]
      exact hK _ m w (Adv.refl S.good) hx fun _ _ _ => rfl
    split at hm
    · cases hm
    · cases hm
    · cases hm
    · cases hm
    · rename_i n1 n2 n3 n4
      have hm : h1 = h ∧ z = val E t x := by cases hm; exact ⟨rfl, rfl⟩
      cases hv : val E t x <;> rw [hv] at hx
      case undef => exact absurd hv n1
      case nilptr => exact absurd hv n2
      case nilif => exact absurd hv n3
      case nilfn => exact absurd hv n4
      case int => have hx : _ = _ := hx; simp only [hx]; exact done hx hm
      case bool => have hx : _ = _ := hx; simp only [hx]; exact done hx hm
      case str => have hx : _ = _ := hx; simp only [hx]; exact done hx hm
      case ptr => obtain ⟨_, _, hx⟩ := hx; simp only [hx]; exact done hx hm
      case fptr => obtain ⟨_, _, hx, _⟩ := hx; simp only [hx]; exact done hx hm
      case esl => obtain ⟨_, hx⟩ := hx; simp only [hx]; exact done hx hm
      case sl => obtain ⟨_, _, hx, _⟩ := hx; simp only [hx]; exact done hx hm
      case fsl => obtain ⟨_, _, _, hx, _⟩ := hx; simp only [hx]; exact done hx hm
      case agg => obtain ⟨_, hx, _⟩ := hx; simp only [hx]; exact done hx hm
      case tup => obtain ⟨_, hx, _⟩ := hx; simp only [hx]; exact done hx hm
      case fn => obtain ⟨_, hx, _⟩ := hx; simp only [hx]; exact done hx hm
      case iface => obtain ⟨_, hx, _⟩ := hx; simp only [hx]; exact done hx hm
  case h_11 op xt x y yt ho =>
    rw [ho]; dsimp only
    obtain ⟨v, h2, h3⟩ := of_bind (((binA_push E op xt (val E t x) (val E t y) some fun v => some (v, h)).trans (by simp)).trans hm)
    cases h3
    obtain ⟨hg, q, h4, h5⟩ := binA_ok (P := P) (w := w) x y hE h2 (S.val x) (S.val y)
    obtain ⟨h6, h7⟩ := pure_ (s := do eqGuard op xt x y (a.eval x) (a.eval y); binOp op xt (a.eval x) (a.eval y)) rfl (by simp [hg, h4]) h5
    simp only [h6]; exact h7
  case h_12 op xt x ho =>
    rw [ho]; dsimp only
    obtain ⟨v, h2, h3⟩ := of_bind (((unA_push op (val E t x) some fun v => some (v, h)).trans (by simp)).trans hm)
    cases h3
    obtain ⟨q, h4, h5⟩ := unA_ok (P := P) (w := w) h2 (S.val x)
    obtain ⟨h6, h7⟩ := pure_ rfl h4 h5
    simp only [h6]; exact h7
  case h_13 src dst x ho =>
    rw [ho]; dsimp only
    obtain ⟨v, h2, h3⟩ := of_bind (((cvtA_push E src dst (val E t x) some fun v => some (v, h)).trans (by simp)).trans hm)
    cases h3
    obtain ⟨q, h4, h5⟩ := cvtA_ok (P := P) (w := w) hE h2 (S.val x)
    obtain ⟨h6, h7⟩ := pure_ rfl h4 h5
    simp only [h6]; exact h7
  case h_14 ty x ho =>
    rw [ho]; dsimp only
    split at hm
    · rename_i i hi
      obtain ⟨d, hd, hk⟩ := (hE _ _ hi).und
      have key : (∀ ms, d ≠ .interface ms) → (Instr.makeInterface ty (a.eval x)).run P w = .ok (.iface ty (a.eval x)) w := by
        intro hne
        cases d <;> first | exact absurd rfl (hne _) | simp [Instr.makeInterface, run_underlying hd]
      have hni : ∀ ms, d ≠ .interface ms := by
        rintro ms rfl
        cases hkk : i.kind <;> rw [hkk] at hk hm <;> simp [KindOk] at hk hm
      have hz : z = .iface ty (val E t x) ∧ h1 = h := by
        split at hm
        · cases hm
        · cases hm
        · cases hm; exact ⟨rfl, rfl⟩
      obtain ⟨h6, h7⟩ := pure_ hz.2 (key hni) (by rw [hz.1]; exact ⟨_, rfl, S.val x⟩)
      simp only [h6]; exact h7
    · cases hm
  case h_15 g first caps ho =>
    rw [ho]; dsimp only
    split at hm
    · rename_i he
      cases hm
      have hv := S.vals caps.toList
      have he : first = #[] := by simpa using he
      subst he
      have e : caps.map a.eval = (caps.toList.map a.eval).toArray := by apply Array.ext'; simp
      exact hK _ m w (Adv.refl S.good) ⟨caps.toList.map a.eval, by rw [← e]; simp, hv⟩ fun _ _ _ => rfl
    · cases hm
  case h_16 ty l c ho =>
    rw [ho]; dsimp only
    obtain ⟨q, w1, h2, h3⟩ := made_ (makeSl_ok (P := P) hE S.good f hm (S.val l) (S.val c))
    simp only [h2]; exact h3
  case h_17 ty x lo hi mx ho =>
    rw [ho]; dsimp only
    have hlo := relO_map (C := cx X h m w) S.val lo
    have hhi := relO_map (C := cx X h m w) S.val hi
    have hmx := relO_map (C := cx X h m w) S.val mx
    cases harr : isArr E ty with
    | true =>
      rw [harr] at hm
      simp only [sel_true] at hm
      obtain ⟨v, h2, h3⟩ := of_bind (((sliceArrA_push E h ty (val E t x) (lo.map (val E t)) (hi.map (val E t)) (mx.map (val E t)) some fun v => some (v, h)).trans (by simp)).trans hm)
      cases h3
      obtain ⟨q, h4, h5⟩ := sliceArrA_ok (P := P) hE S.good h2 (S.val x) hlo hhi hmx
      obtain ⟨h6, h7⟩ := pure_ rfl h4 h5
      simp only [h6]; exact h7
    | false =>
      rw [harr] at hm
      simp only [sel_false] at hm
      obtain ⟨v, h2, h3⟩ := of_bind (((sliceA_push E ty (val E t x) (lo.map (val E t)) (hi.map (val E t)) (mx.map (val E t)) some fun v => some (v, h)).trans (by simp)).trans hm)
      cases h3
      obtain ⟨q, h4, h5⟩ := sliceA_ok (P := P) hE h2 (S.val x) hlo hhi hmx
      have h4 : (Instr.sliceAt ty (a.eval x) (lo.map a.eval) (hi.map a.eval) (mx.map a.eval)).run P w = .ok q w := h4
      obtain ⟨h6, h7⟩ := pure_ rfl h4 h5
      simp only [h6]; exact h7
  case h_18 s x fl ho =>
    rw [ho]; dsimp only
    obtain ⟨v, h2, h3⟩ := of_bind (((fldAddrA_push E s (val E t x) fl some fun v => some (v, h)).trans (by simp)).trans hm)
    cases h3
    obtain ⟨q, h4, h5⟩ := fldAddrA_ok (P := P) hE h2 (S.val x)
    have h4 : (Instr.fieldAt s (a.eval x) fl).run P w = .ok q w := h4
    obtain ⟨h6, h7⟩ := pure_ rfl h4 h5
    simp only [h6]; exact h7
  case h_19 s x fl ho =>
    rw [ho]; dsimp only
    obtain ⟨v, h2, h3⟩ := of_bind (((fldA_push E s (val E t x) fl some fun v => some (v, h)).trans (by simp)).trans hm)
    cases h3
    obtain ⟨q, h4, h5⟩ := fldA_ok (P := P) (w := w) hE h2 (S.val x)
    obtain ⟨h6, h7⟩ := pure_ rfl h4 h5
    simp only [h6]; exact h7
  case h_20 ty x i ho =>
    rw [ho]; dsimp only
    split at hm
    · rename_i k n hn
      have hi := S.val i
      rw [hn] at hi
      have hi : a.eval i = .int k n := hi
      obtain ⟨v, h2, h3⟩ := of_bind (((idxAddrA_push E ty (val E t x) n some fun v => some (v, h)).trans (by simp)).trans hm)
      cases h3
      obtain ⟨q, h4, h5⟩ := idxAddrA_ok (P := P) (k := k) hE h2 (S.val x)
      have h4 : (Instr.indexAt ty (a.eval x) (.int k n)).run P w = .ok q w := h4
      obtain ⟨h6, h7⟩ := pure_ rfl h4 h5
      simp only [hi, h6]; exact h7
    · cases hm
  case h_21 ty x i ho =>
    rw [ho]; dsimp only
    split at hm
    · rename_i k n hn
      have hi := S.val i
      rw [hn] at hi
      have hi : a.eval i = .int k n := hi
      obtain ⟨v, h2, h3⟩ := of_bind (((idxA_push E ty (val E t x) n some fun v => some (v, h)).trans (by simp)).trans hm)
      cases h3
      obtain ⟨q, h4, h5⟩ := idxA_ok (P := P) (w := w) (k := k) hE h2 (S.val x)
      obtain ⟨h6, h7⟩ := pure_ rfl h4 h5
      simp only [hi, h6]; exact h7
    · cases hm
  case h_22 x i ho =>
    rw [ho]; dsimp only
    split at hm
    · rename_i vs hvs
      have hx := S.val x
      rw [hvs] at hx
      obtain ⟨us, hu, hr⟩ := hx
      split at hm
      · rename_i v hv
        cases hm
        obtain ⟨q, h2, h3⟩ := relL_get i _ hr hv
        obtain ⟨h6, h7⟩ := pure_ (s := Instr.extract (a.eval x) i) rfl (by rw [hu]; simp [Instr.extract, h2]) h3
        simp only [h6]; exact h7
      · cases hm
    · cases hm
  case h_23 c ho =>
    rw [ho]; dsimp only
    have hargs := S.vals c.args.toList
    have eargs : (c.args.map a.eval) = (c.args.toList.map a.eval).toArray := by apply Array.ext'; simp
    split at hm
    · rename_i b hb
      obtain ⟨u, m1, w1, h2, h3, h4, h5⟩ := builtinA_ok (P := P) hE S.good f o.type hm hargs
      simp only [resolve, hb, Sem.run_bind, Sem.run_pure, Result.andThen_ok, invoke, eargs, h2]
      exact hK u m1 w1 h3 h4 fun b _ hb => h5 b hb
    · rename_i fv hb
      split at hm
      · rename_i g caps hg
        have hf := S.val fv
        rw [hg] at hf
        obtain ⟨cus, hcu, hcr⟩ := hf
        obtain ⟨hfn, hc⟩ := hcall X g _ h slot m w _ z h1 hm S.good f (relL_append hargs hcr)
        have e2 : (c.args.toList.map a.eval ++ cus).toArray = c.args.map a.eval ++ cus.toArray := by
          rw [eargs]; simp
        rw [e2] at hc
        simp only [resolve, hb, hcu, Deferred.ofValue, Sem.run_bind, Sem.run_pure, Result.andThen_ok, invoke, Array.empty_append, run_callFunc hfn]
        refine hc.mono ?_
        rintro e w1 ⟨u, m1, rfl, h2, h3, h4⟩
        exact hK u m1 w1 h2 h3 h4
      · cases hm
    · cases hm
  case h_24 => cases hm
end
end Go.Ev
