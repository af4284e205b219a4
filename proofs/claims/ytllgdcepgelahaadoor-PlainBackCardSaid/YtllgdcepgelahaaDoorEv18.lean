/- Code: what the evaluator tells of it is what the model does. -/
import Derived.Test.YtllgdcepgelahaaDoorEv26
import Derived.Orders
import Derived.LoopN
import Derived.ScopeJumps
namespace Go.Ev

def exOf : Ex → Exit
  | .normal => .normal
  | .exit id => .exit id
  | .goto l => .goto l
  | .ret => .ret

/-- A state on the way, told against the one at the begin of the function. -/
structure Inv (E : Env) (X : Nat → Prop) (h0 : H) (m0 : Nat → Option Nat) (w0 : World) (st : St) (m : Nat → Option Nat) (w : World) (a : Act) : Prop where
  sim : Sim E X st.t st.h m w a
  adv : Adv E X h0 m0 w0 st.h m w
  old : ∀ b, b < h0.length → m b = m0 b

section
variable {P : Program} {E : Env} {X : Nat → Prop} {h0 : H} {m0 : Nat → Option Nat} {w0 : World} {call : CallF}

theorem guard_ok {C : Cx} {ops : Array Oper} {t : List AV} {tmps : Array Value} {o : Oper} {b : Bool} (h : guardA ops.toList t o = some b) (ht : relL C t tmps.toList) : Region.wanted o (yielded ops tmps) = b := by
  unfold guardA at h
  unfold Region.wanted
  split at h
  · rename_i hg; rw [hg]; cases h; rfl
  · rename_i j want hg
    rw [hg]
    simp only
    rw [Array.getElem?_toList] at h
    split at h
    · rename_i hd
      cases h
      simp [yielded, hd]
    · rename_i d hd
      have hy : yielded ops tmps j = match tmps[d]? with | some (.bool b) => some b | _ => none := by
        unfold yielded; rw [hd]; rfl
      rw [hy]
      have hv : ∀ v, t.getD d .undef = v → v ≠ .undef → ∃ u, tmps[d]? = some u ∧ rel C v u := by
        intro v hv hne
        rw [List.getD_eq_getElem?_getD] at hv
        cases hq : t[d]? with
        | none => rw [hq] at hv; exact absurd hv.symm hne
        | some x =>
          rw [hq] at hv
          simp only [Option.getD_some] at hv
          subst hv
          obtain ⟨u, h1, h2⟩ := relL_get d x ht hq
          exact ⟨u, by rw [← Array.getElem?_toList]; exact h1, h2⟩
      split at h
      · rename_i b' hb
        obtain ⟨u, h1, h2⟩ := hv _ hb (by simp)
        have h2 : u = .bool b' := h2
        subst h2
        cases h
        rw [h1]
        cases want <;> cases b' <;> rfl
      · rename_i vs hb
        obtain ⟨u, h1, us, h2, _⟩ := hv _ hb (by simp)
        subst h2
        cases h
        rw [h1]; rfl
      · rename_i k n hb
        obtain ⟨u, h1, h2⟩ := hv _ hb (by simp)
        have h2 : u = .int k n := h2
        subst h2
        cases h
        rw [h1]; rfl
      · cases h

theorem Sim.put {t : List AV} {h : H} {m m1 : Nat → Option Nat} {w w1 : World} {h1 : H} {a : Act} {v : AV} {u : Value} {dst : Option Tmp} (S : Sim E X t h m w a) (A : Adv E X h m w h1 m1 w1) (hr : rel (cx X h1 m1 w1) v u) : Sim E X (setT t dst v) h1 m1 w1 (a.put dst u) := by
  have ht := relL_step A.step t _ S.tm
  refine ⟨A.good, ?_, ?_⟩
  · cases dst with
    | none => exact ht
    | some d =>
      simp only [setT, Act.put, Array.toList_setIfInBounds]
      exact relL_set d v u ht hr
  · cases dst <;> exact S.df

theorem set_self {t : List AV} {d : Nat} {b : Bool} (h : t.getD d .undef = .bool b) : t.set d (.bool b) = t := by
  rw [List.getD_eq_getElem?_getD] at h
  cases hq : t[d]? with
  | none => rw [hq] at h; cases h
  | some x =>
    rw [hq] at h
    simp only [Option.getD_some] at h
    subst h
    obtain ⟨h1, h2⟩ := List.getElem?_eq_some_iff.1 hq
    rw [← h2, List.set_getElem_self]
theorem evSeq_cons {tr : Bool} {all : List Oper} {o : Oper} {rest : List Oper} {t : List AV} {h : H} {R : Type} {K : List AV → H → Option R} {r : R} (hr : evSeq E call tr all (o :: rest) t h K = some r) :
    ∃ b, guardA all t o = some b ∧ (b = true → (evOp E call t h h.length o fun v h1 => evSeq E call tr all rest (setT t o.dst v) h1 K) = some r) ∧ (b = false → evSeq E call tr all rest (setT t o.dst (.tup [])) h K = some r) := by
  simp only [evSeq] at hr
  unfold guardA
  split at hr
  · rename_i hg
    exact ⟨true, by simp, fun _ => hr, (fun h => by cases h)⟩
  · rename_i j want hg
    split at hr
    · rename_i hd
      exact ⟨false, by simp, (fun h => by cases h), fun _ => hr⟩
    · rename_i d hd
      split at hr
      · rename_i b hb
        clear hg
        cases want with
        | true =>
          refine ⟨b, by simp, ?_⟩
          cases b with
          | true => rw [set_self hb] at hr; exact ⟨fun _ => hr, (fun h => by cases h)⟩
          | false =>
            rw [set_self hb] at hr
            cases tr with
            | true => cases hr
            | false => exact ⟨(fun h => by cases h), fun _ => hr⟩
        | false =>
          refine ⟨!b, by simp, ?_⟩
          cases b with
          | true => rw [set_self hb] at hr; exact ⟨(fun h => by cases h), fun _ => hr⟩
          | false => rw [set_self hb] at hr; exact ⟨fun _ => hr, (fun h => by cases h)⟩
      · rename_i vs hb
        exact ⟨false, rfl, (fun h => by cases h), fun _ => hr⟩
      · rename_i k n hb
        exact ⟨false, rfl, (fun h => by cases h), fun _ => hr⟩
      · cases hr

theorem evSeq_ok (hE : EnvOk E P) (hcall : CallOk P E call) (hn : CallNat call) {tr : Bool} {R : Type} {r : R} {ops : Array Oper} {Q : Exit → Act → World → Prop} :
    ∀ (l : List Oper) (i : Nat) (t : List AV) (h : H) (m : Nat → Option Nat) (w : World) (a : Act) (K : List AV → H → Option R), ops.toList.drop i = l → evSeq E call tr ops.toList l t h K = some r → Inv E X h0 m0 w0 ⟨t, h⟩ m w a →
      (∀ t' h' m' w' a', K t' h' = some r → Inv E X h0 m0 w0 ⟨t', h'⟩ m' w' a' → Q .normal a' w') → wpOps P ops Q (List.range' i l.length) a w
  | [], _, t, h, m, w, a, K, _, hr, hi, hK => hK t h m w a hr hi
  | o :: rest, i, t, h, m, w, a, K, hl, hr, hi, hK => by
    have ho : ops[i]? = some o := by
      have : ops.toList[i]? = some o := by
        have h1 : (ops.toList.drop i)[0]? = some o := by rw [hl]; rfl
        simpa using h1
      rwa [Array.getElem?_toList] at this
    have hl' : ops.toList.drop (i + 1) = rest := by
      rw [← List.drop_drop, hl]; rfl
    rw [List.length_cons, List.range'_succ, wpOps_cons]
    unfold wpOp
    rw [ho]
    obtain ⟨b, hb, hr1, hr2⟩ := evSeq_cons hr
    · have hw := guard_ok hb hi.sim.tm
      cases b with
      | true =>
        replace hr := hr1 rfl
        obtain ⟨v, h1, h2, h3⟩ := evOp_says E hn hr
        simp only [hw, if_true]
        left
        have f : Free h m h.length := ⟨Nat.le_refl _, hi.sim.good.hi _ (Nat.le_refl _), fun b hb => by rw [List.getElem?_eq_none (Nat.le_refl _)] at hb; cases hb⟩
        refine evOp_ok hE hcall hi.sim f h2 fun u m1 w1 A hrel hm => ?_
        refine evSeq_ok hE hcall hn rest (i + 1) _ _ m1 w1 _ K hl' h3 ⟨hi.sim.put A hrel, hi.adv.trans A, fun b hb => ?_⟩ hK
        have := hi.adv.len
        have hb' : b < h.length := Nat.lt_of_lt_of_le hb this
        rw [hm b hb' (by omega), hi.old b hb]
      | false =>
        replace hr := hr2 rfl
        simp only [hw]
        refine evSeq_ok hE hcall hn rest (i + 1) _ _ m w _ K hl' hr ⟨hi.sim.put (v := .tup []) (Adv.refl hi.sim.good) ⟨[], rfl, rfl⟩, hi.adv, hi.old⟩ hK

/-- a region that draws its order -/
theorem any_ok (hE : EnvOk E P) (hcall : CallOk P E call) (hloc : CallLoc E call) {opsA : Array Oper} {ops : List Oper} (hops : opsA.toList = ops) (R : RegOk ops) {s : Nat} {TT : Nat → List AV} {HH : Nat → H} {V : Nat → AV} {G : Nat → Bool} {M : Nat → Bool × List Nat} (T : TL E call ops s TT HH V G M 0)
    (hdead : ∀ j, j < ops.length → (HH 0)[s + j]? = some .dead) {Q : Exit → Act → World → Prop} (hs0 : h0.length ≤ s)
    (hfin : ∀ m w a, Inv E X h0 m0 w0 ⟨TT ops.length, HH ops.length⟩ m w a → Q .normal a w) :
    ∀ (fuel : Nat) (listed : Array Bool) (m : Nat → Option Nat) (w : World) (a : Act), listed.size = ops.length → cnt (fun k => listed.getD k false) ops.length + fuel = ops.length → Closed ops (fun k => listed.getD k false) →
      Inv E X h0 m0 w0 ⟨tL ops V (fun k => listed.getD k false) (TT 0) ops.length, hL HH M (fun k => listed.getD k false) ops.length (s + ops.length)⟩ m w a →
      (∀ j, j < ops.length → listed.getD j false = false → m (s + j) = none) → wpAny P .any opsA Q fuel listed a w := by
  have hget : ∀ k, opsA[k]? = ops[k]? := fun k => by rw [← hops, Array.getElem?_toList]
  have hsz : opsA.size = ops.length := by rw [← hops]; simp
  have all_fin : ∀ (L : Nat → Bool), (∀ k, k < ops.length → L k = true) → tL ops V L (TT 0) ops.length = TT ops.length ∧ hL HH M L ops.length (s + ops.length) = HH ops.length := fun L hL' => by
    constructor
    · rw [T.tt ops.length (Nat.le_refl _)]
      apply List.ext_getElem?
      intro u
      exact tL_agree _ fun j hj _ => hL' j hj
    · apply List.ext_getElem?
      intro b
      by_cases hb : b < s + ops.length
      · rw [hL_get hb, T.hh hloc b ops.length (Nat.le_refl _), lastW_agree (L' := fun _ => true) _ fun j hj _ => hL' j hj]
        have := T.len (lastW M (fun _ => true) b ops.length) (Nat.zero_le _) (lastW_le _ _)
        rw [List.getD_eq_getElem?_getD, List.getElem?_eq_getElem (by omega)]; rfl
      · have := T.len ops.length (Nat.zero_le _) (Nat.le_refl _)
        rw [List.getElem?_eq_none (by rw [hL_length]; omega), List.getElem?_eq_none (by omega)]
  intro fuel
  induction fuel with
  | zero =>
    intro listed m w a hls hcn hc hi hm
    have hall := cnt_all ops.length (by omega) (L := fun k => listed.getD k false)
    refine ⟨?_, ?_⟩
    · unfold Region.ready
      rw [List.filter_eq_nil_iff]
      intro i hir
      rw [List.mem_range, hsz] at hir
      have := hall i hir
      have h2 : listed.getD i true = true := by
        simp only [Array.getD_eq_getD_getElem?] at this ⊢
        rw [Array.getElem?_eq_getElem (by omega)] at this ⊢
        exact this
      simp [h2]
    · obtain ⟨e1, e2⟩ := all_fin _ hall
      rw [e1, e2] at hi
      exact hfin m w a hi
  | succ fuel ih =>
    intro listed m w a hls hcn hc hi hm
    have conv : ∀ k, k < ops.length → listed.getD k true = listed.getD k false := fun k hk => by
      simp only [Array.getD_eq_getD_getElem?]
      rw [Array.getElem?_eq_getElem (by omega)]; rfl
    have mem : ∀ i, i ∈ Region.ready .any opsA listed ↔ i < ops.length ∧ listed.getD i false = false ∧ ∃ o, ops[i]? = some o ∧ ∀ j ∈ edgesOf o, listed.getD j false = true := fun i => by
      rw [mem_ready]
      constructor
      · rintro ⟨h1, o, h2, h3⟩
        rw [hget] at h2
        have hlt := (List.getElem?_eq_some_iff.1 h2).1
        refine ⟨hlt, (conv i hlt).symm.trans h1, o, h2, fun j hj => ?_⟩
        simp only [edgesOf, List.mem_filterMap] at hj
        obtain ⟨e, he, hj⟩ := hj
        split at hj
        · rename_i hb
          cases hj
          exact h3 e (by simpa using he) hb
        · cases hj
      · rintro ⟨hlt, h1, o, h2, h3⟩
        refine ⟨(conv i hlt).trans h1, o, by rw [hget]; exact h2, fun e he hb => h3 e.on ?_⟩
        simp only [edgesOf, List.mem_filterMap]
        exact ⟨e, by simpa using he, by rw [hb]⟩
    refine ⟨fun hnil => ?_, fun i hir => ?_⟩
    · exfalso
      have : ¬ ∀ k, k < ops.length → listed.getD k false = true := fun hall => by
        have h1 : ∀ n, n ≤ ops.length → cnt (fun k => listed.getD k false) n = n := by
          intro n
          induction n with
          | zero => intro _; rfl
          | succ n ihn => intro hn; simp only [cnt, ihn (by omega), hall n (by omega), Bool.toNat_true]
        have := h1 ops.length (Nat.le_refl _)
        omega
      obtain ⟨k, hk⟩ : ∃ k, k < ops.length ∧ listed.getD k false = false := by
        apply Classical.byContradiction
        intro hno
        apply this
        intro k hk
        cases hq : listed.getD k false with
        | true => rfl
        | false => exact absurd ⟨k, hk, hq⟩ hno
      obtain ⟨i, hi1, hi2⟩ : ∃ k, (k < ops.length ∧ listed.getD k false = false) ∧ ∀ j, (j < ops.length ∧ listed.getD j false = false) → k ≤ j := by
        have : ∀ n, (∃ k, k ≤ n ∧ k < ops.length ∧ listed.getD k false = false) → ∃ k, (k < ops.length ∧ listed.getD k false = false) ∧ ∀ j, (j < ops.length ∧ listed.getD j false = false) → k ≤ j := by
          intro n
          induction n using Nat.strongRecOn with
          | _ n ihn =>
            rintro ⟨k, hkn, hk1, hk2⟩
            by_cases hj : ∃ j, j < k ∧ j < ops.length ∧ listed.getD j false = false
            · obtain ⟨j, h1, h2, h3⟩ := hj
              exact ihn j (by omega) ⟨j, Nat.le_refl _, h2, h3⟩
            · exact ⟨k, ⟨hk1, hk2⟩, fun j hjj => Nat.le_of_not_lt fun hlt => hj ⟨j, hlt, hjj.1, hjj.2⟩⟩
        exact this k ⟨k, Nat.le_refl _, hk.1, hk.2⟩
      have ho := List.getElem?_eq_getElem hi1.1
      have : i ∈ Region.ready .any opsA listed := (mem i).2 ⟨hi1.1, hi1.2, _, ho, fun j hj => by
        have hji := R.ed i _ ho j hj
        cases hq : listed.getD j false with
        | true => rfl
        | false => have := hi2 j ⟨by omega, hq⟩; omega⟩
      rw [hnil] at this
      cases this
    · obtain ⟨hlt, hli, o, ho, he⟩ := (mem i).1 hir
      have A := atL hloc R T hc ho hli he
      have hL' : (fun k => (listed.setIfInBounds i true).getD k false) = addL (fun k => listed.getD k false) i := by
        funext k
        simp only [addL]
        by_cases hk : k = i
        · subst hk
          simp only [Array.getD_eq_getD_getElem?]
          rw [Array.getElem?_setIfInBounds_self_of_lt (by omega)]
          simp
        · have h2 : k.beq i = false := by
            cases h : k.beq i with
            | false => rfl
            | true => exact absurd (Nat.eq_of_beq_eq_true h) hk
          simp only [Array.getD_eq_getD_getElem?, h2, Bool.or_false]
          rw [Array.getElem?_setIfInBounds_ne (Ne.symm hk)]
      have hcl' : Closed ops (fun k => (listed.setIfInBounds i true).getD k false) := by
        rw [hL']
        intro k ok hk hkl j hj
        simp only [addL, Bool.or_eq_true] at hkl ⊢
        rcases hkl with hkl | hkl
        · exact .inl (hc k ok hk hkl j hj)
        · have := Nat.eq_of_beq_eq_true hkl
          subst this
          rw [ho] at hk; cases hk
          exact .inl (he j hj)
      have hcn' : cnt (fun k => (listed.setIfInBounds i true).getD k false) ops.length + fuel = ops.length := by
        rw [hL', cnt_add hli, decide_eq_true hlt, Bool.toNat_true]; omega
      have hm' : ∀ m1 : Nat → Option Nat, (∀ b, b < s + ops.length → b ≠ s + i → m1 b = m b) → ∀ j, j < ops.length → (listed.setIfInBounds i true).getD j false = false → m1 (s + j) = none := fun m1 h1 j hj hjl => by
        have e : (listed.setIfInBounds i true).getD j false = addL (fun k => listed.getD k false) i j := congrFun hL' j
        rw [e] at hjl
        simp only [addL, Bool.or_eq_false_iff] at hjl
        have hne : ¬ j = i := by rintro rfl; rw [Nat.beq_refl] at hjl; cases hjl.2
        rw [h1 (s + j) (by omega) (by omega)]
        exact hm j hj hjl.1
      unfold wpOp
      rw [hget, ho]
      simp only []
      have hguard : Region.wanted o (yielded opsA a.tmps) = G i := guard_ok (by rw [hops]; exact A.guard) hi.sim.tm
      rw [hguard]
      cases hg : G i with
      | true =>
        simp only [if_true]
        left
        have hlenH : (hL HH M (fun k => listed.getD k false) ops.length (s + ops.length)).length = s + ops.length := hL_length
        have f : Free (hL HH M (fun k => listed.getD k false) ops.length (s + ops.length)) m (s + i) := ⟨by rw [hlenH]; omega, hm i hlt hli, fun b hb => by rw [A.slot (hdead i hlt)] at hb; exact (Option.some.inj hb).symm⟩
        refine evOp_ok hE hcall hi.sim f (A.op hg) fun u m1 w1 A1 hrel hm1 => ?_
        rw [hlenH] at hm1
        refine ih (listed.setIfInBounds i true) m1 w1 _ (by simpa using hls) hcn' hcl' ?_ (hm' m1 hm1)
        rw [hL', A.put]
        exact ⟨hi.sim.put A1 hrel, hi.adv.trans A1, fun b hb => by rw [hm1 b (by omega) (by omega), hi.old b hb]⟩
      | false =>
        obtain ⟨h1, h2⟩ := A.skip hg
        simp only [Bool.false_eq_true, if_false]
        refine ih (listed.setIfInBounds i true) m w _ (by simpa using hls) hcn' hcl' ?_ (hm' m fun _ _ _ => rfl)
        rw [hL', A.put, h1, h2]
        exact ⟨hi.sim.put (v := .tup []) (Adv.refl hi.sim.good) ⟨[], rfl, rfl⟩, hi.adv, hi.old⟩

theorem blkAt_pad (h : H) (n b : Nat) : blkAt (h ++ List.replicate n .dead) b = blkAt h b := by
  unfold blkAt
  by_cases hb : b < h.length
  · rw [List.getElem?_append_left hb]
  · rw [List.getElem?_append_right (by omega), List.getElem?_eq_none (l := h) (by omega)]
    by_cases hb2 : b - h.length < n
    · rw [List.getElem?_replicate]; simp [hb2]
    · rw [List.getElem?_eq_none (by simpa using hb2)]
theorem L_pad (h : H) (n : Nat) (m : Nat → Option Nat) (q : Nat) : L (h ++ List.replicate n .dead) m q ↔ L h m q := by
  have key : ∀ b c, (h ++ List.replicate n .dead)[b]? = some (HB.live c) ↔ h[b]? = some (HB.live c) := fun b c => by
    by_cases hb : b < h.length
    · rw [List.getElem?_append_left hb]
    · rw [List.getElem?_append_right (by omega), List.getElem?_eq_none (l := h) (by omega), List.getElem?_replicate]
      split <;> simp
  constructor
  · rintro ⟨b, c, h1, h2⟩; exact ⟨b, c, (key b c).1 h1, h2⟩
  · rintro ⟨b, c, h1, h2⟩; exact ⟨b, c, (key b c).2 h1, h2⟩
theorem cx_pad (h : H) (n : Nat) (m : Nat → Option Nat) (w : World) : cx X (h ++ List.replicate n .dead) m w = cx X h m w := by
  unfold cx
  congr 1
  funext q
  rw [L_pad]
theorem good_pad {h : H} {m : Nat → Option Nat} {w : World} (n : Nat) (g : Good E X h m w) : Good E X (h ++ List.replicate n .dead) m w where
  hp := fun b c hb => by rw [cx_pad]; exact g.hp b c (by rwa [blkAt_pad] at hb)
  inj := fun b b' c c' q hb hb' => g.inj b b' c c' q (by rwa [blkAt_pad] at hb) (by rwa [blkAt_pad] at hb')
  hi := fun b hb => g.hi b (by simp at hb; omega)
  own := fun b c q hb => g.own b c q (by rwa [blkAt_pad] at hb)
  xs := g.xs
  gl := fun q c hq => by rw [cx_pad]; exact g.gl q c hq
theorem inv_pad {t : List AV} {h : H} {m : Nat → Option Nat} {w : World} {a : Act} (n : Nat) (hi : Inv E X h0 m0 w0 ⟨t, h⟩ m w a) : Inv E X h0 m0 w0 ⟨t, h ++ List.replicate n .dead⟩ m w a := by
  refine ⟨⟨good_pad n hi.sim.good, by rw [cx_pad]; exact hi.sim.tm, hi.sim.df⟩, ⟨good_pad n hi.adv.good, hi.adv.ext, fun q hq => hi.adv.L q ((L_pad h n m q).1 hq), hi.adv.frame, hi.adv.shape, hi.adv.os, hi.adv.tape, hi.adv.output, hi.adv.size, ?_⟩, hi.old⟩
  have := hi.adv.len
  simp only [List.length_append]
  exact Nat.le_trans this (Nat.le_add_right _ _)
theorem adv_drawn {h : H} {m : Nat → Option Nat} {w : World} (k : Nat) (g : Good E X h m w) : Adv E X h m w h m { w with drawn := k } := by
  have S : Step (cx X h m w) (cx X h m { w with drawn := k }) := ⟨fun _ _ h => h, fun _ _ h => h, fun _ _ _ => rfl, fun _ arr _ h => ⟨arr, h, rfl⟩⟩
  refine ⟨⟨?_, g.inj, g.hi, g.own, g.xs, ?_⟩, fun _ _ h => h, fun _ h => .inl h, fun _ _ _ => rfl, fun _ arr _ h => ⟨arr, h, rfl⟩, rfl, rfl, rfl, Nat.le_refl _, Nat.le_refl _⟩
  · intro b c hb
    obtain ⟨us, h1, h2⟩ := g.hp b c hb
    exact ⟨us, relB_step S c us h1, h2⟩
  · intro q c hq
    obtain ⟨h1, h2, us, h3, h4⟩ := g.gl q c hq
    exact ⟨h1, h2, us, relB_step S.z c us h3, h4⟩
theorem evDraw_ok (hE : EnvOk E P) (hm : P.follows .mixedOrders = true) (hcall : CallOk P E call) (hn : CallNat call) (hloc : CallLoc E call) {R : Type} {r : R} {id : Nat} {opsA : Array Oper} {Q : Exit → Act → World → Prop} {t : List AV} {h : H} {K : List AV → H → Option R} {m : Nat → Option Nat} {w : World} {a : Act}
    (hr : evDraw E call opsA.toList t h K = some r) (hi : Inv E X h0 m0 w0 ⟨t, h⟩ m w a) (hK : ∀ t' h' m' w' a', K t' h' = some r → Inv E X h0 m0 w0 ⟨t', h'⟩ m' w' a' → Q .normal a' w') : (Code.region id opsA true).wp P Q a w := by
  unfold evDraw at hr
  obtain ⟨hc, hr⟩ := sel_iff.1 hr
  simp only [Bool.and_eq_true] at hc
  have R := regOk_spec hc.1
  have hni : noIce (h ++ List.replicate opsA.toList.length .dead) = true := noIce_iff.2 fun b c hb => by
    by_cases hbl : b < h.length
    · rw [List.getElem?_append_left hbl] at hb
      exact noIce_iff.1 hc.2 b c hb
    · rw [List.getElem?_append_right (by omega), List.getElem?_replicate] at hb
      split at hb <;> simp at hb
  obtain ⟨TT, HH, V, G, M, e1, e2, T, _, _, hfin⟩ := evAny_tl (s := h.length) hn (fun h => set_self h) opsA.toList 0 t _ [] (by omega) rfl hr (by simp) hni (fun _ h => by cases h)
  refine wp_region_any hm ?_
  have hL0 : (fun k => (Array.replicate opsA.size false).getD k false) = fun _ => false := by
    funext k
    simp only [Array.getD_eq_getD_getElem?]
    cases h : (Array.replicate opsA.size false)[k]? with
    | none => rfl
    | some b =>
      have := Array.mem_of_getElem? h
      simp only [Array.mem_replicate] at this
      rw [this.2]; rfl
  have hz : ∀ n, cnt (fun _ => false) n = 0 := fun n => by
    induction n with
    | zero => rfl
    | succ n ih => simp [cnt, ih]
  have ht0 : ∀ n, tL opsA.toList V (fun _ => false) (TT 0) n = TT 0 := fun n => by
    induction n with
    | zero => rfl
    | succ n ih => simp [tL, ih]
  have hw0 : ∀ b n, lastW M (fun _ => false) b n = 0 := fun b n => by
    induction n with
    | zero => rfl
    | succ n ih => simp [lastW, ih]
  have hh0 : hL HH M (fun _ => false) opsA.toList.length (h.length + opsA.toList.length) = HH 0 := by
    apply List.ext_getElem?
    intro b
    have hl0 := T.len 0 (Nat.le_refl _) (Nat.zero_le _)
    by_cases hb : b < h.length + opsA.toList.length
    · rw [hL_get hb, hw0, List.getD_eq_getElem?_getD, List.getElem?_eq_getElem (by omega)]; rfl
    · rw [List.getElem?_eq_none (by rw [hL_length]; omega), List.getElem?_eq_none (by omega)]
  refine any_ok (X := X) (h0 := h0) (m0 := m0) (w0 := w0) hE hcall hloc rfl R T (fun j hj => ?_) (by have := hi.adv.len; exact this) (fun m w a hinv => hK _ _ m w a hfin hinv) opsA.size _ m _ a (by simp) ?_ ?_ ?_ ?_
  · rw [e2, List.getElem?_append_right (by omega), List.getElem?_replicate]
    have : h.length + j - h.length < opsA.toList.length := by omega
    simp only [this, if_true]
  · rw [hL0, hz]; simp
  · rw [hL0]
    intro i o _ h
    cases h
  · rw [hL0, ht0, hh0, e1, e2]
    have h1 := inv_pad opsA.toList.length hi
    have h2 := adv_drawn (w.drawn + 1) h1.sim.good
    exact ⟨⟨h2.good, relL_step h2.step _ _ h1.sim.tm, h1.sim.df⟩, h1.adv.trans h2, h1.old⟩
  · intro j hj _
    exact hi.sim.good.hi _ (Nat.le_add_right _ _)

theorem firstN_get {ids : List Nat} : ∀ {n : Nat}, firstN ids n = true → ∀ b, b < n → ids[b]? = some b
  | 0, _, b, hb => absurd hb (Nat.not_lt_zero _)
  | n + 1, h, b, hb => by
    simp only [firstN, Bool.and_eq_true] at h
    by_cases e : b = n
    · subst e
      have h2 := h.2
      split at h2
      · rename_i q hq; rw [hq, Nat.eq_of_beq_eq_true h2]
      · cases h2
    · exact firstN_get h.1 b (by omega)
theorem norm_ok {R : Type} {r : R} {ks : Option (List Nat)} {st : St} {K : St → Option R} {m : Nat → Option Nat} {w : World} {a : Act} (g0 : Good E X h0 m0 w0) (h : norm ks h0.length st K = some r) (hi : Inv E X h0 m0 w0 st m w a) :
    ∃ st' m', K st' = some r ∧ Inv E X h0 m0 w0 st' m' w a := by
  unfold norm at h
  split at h
  · exact ⟨st, m, h, hi⟩
  · rename_i ks
    obtain ⟨t1, h1', hk1, gd1, tm1, hL1, hlen1⟩ := frzIf_good hi.sim.good (relL_keep ks 0 _ _ hi.sim.tm) h
    obtain ⟨hc, hk⟩ := sel_iff.1 hk1
    simp only [Bool.and_eq_true] at hc
    obtain ⟨⟨⟨hc1, hc2⟩, hc3⟩, hc4⟩ := hc
    obtain ⟨m', hm', h1, h2, h3'⟩ := norm_good gd1 tm1 hc1 hc2 hc3
    have h3 := fun q hq => hL1 q (h3' q hq)
    have hf := firstN_get hc4
    have hold : ∀ b, b < h0.length → m' b = m b := fun b hb => by rw [hm', hf b hb]; rfl
    refine ⟨_, m', hk, ⟨h1, h2, hi.sim.df⟩, ⟨h1, ?_, fun q hq => hi.adv.L q (h3 q hq), hi.adv.frame, hi.adv.shape, hi.adv.os, hi.adv.tape, hi.adv.output, hi.adv.size, ?_⟩, fun b hb => by rw [hold b hb, hi.old b hb]⟩
    · intro b g hb
      by_cases hl : b < h0.length
      · rw [hold b hl]; exact hi.adv.ext b g hb
      · rw [g0.hi b (by omega)] at hb
        cases hb
    · rw [List.length_map]
      by_cases hl : h0.length = 0
      · omega
      · have := (List.getElem?_eq_some_iff.1 (hf (h0.length - 1) (by omega))).1
        omega

theorem wp_region_seq {id : Nat} {ops : Array Oper} {Q : Exit → Act → World → Prop} {a : Act} {w : World} (h : wpOps P ops Q (List.range' 0 ops.toList.length) a w) : (Code.region id ops false).wp P Q a w := by
  refine wp_region ?_
  rw [List.range_eq_range', ← Array.length_toList]
  exact h

/-- the least of what there is -/
theorem least {p : Nat → Prop} (h : ∃ k, p k) : ∃ k, p k ∧ ∀ j, p j → k ≤ j := by
  obtain ⟨k, hk⟩ := h
  induction k using Nat.strongRecOn with
  | _ k ih =>
    by_cases hj : ∃ j, j < k ∧ p j
    · obtain ⟨j, h1, h2⟩ := hj; exact ih j h1 h2
    · refine ⟨k, hk, fun j hp => ?_⟩
      rcases Nat.lt_or_ge j k with h1 | h1
      · exact absurd ⟨j, h1, hp⟩ hj
      · exact h1
open Classical in
noncomputable def leastOf (p : Nat → Prop) : Nat := if h : ∃ k, p k then (least h).choose else 0
theorem leastOf_spec {p : Nat → Prop} (h : ∃ k, p k) : p (leastOf p) ∧ ∀ j, p j → leastOf p ≤ j := by
  unfold leastOf
  rw [dif_pos h]
  exact (least h).choose_spec

theorem kOut_ok {R : Type} {r : R} {fid key : Nat} {K : Ex → St → Option R} {Q : Exit → Act → World → Prop} (g0 : Good E X h0 m0 w0) (hK : ∀ ex st' m' w' a', K ex st' = some r → Inv E X h0 m0 w0 st' m' w' a' → Q (exOf ex) a' w') :
    ∀ ex st' m' w' a', kOut E fid h0.length key K ex st' = some r → Inv E X h0 m0 w0 st' m' w' a' → Q (exOf ex) a' w' := by
  intro ex st' m' w' a' h hi
  obtain ⟨st'', m'', h1, hi'⟩ := norm_ok g0 h hi
  exact hK ex st'' m'' w' a' h1 hi'

/-- what is told of the pieces of a code is so -/
def OrcOk (E : Env) (call : CallF) (O : Nat → Option PSpec) (fid base : Nat) : Nat → Code → Prop
  | 0, _ => True
  | n + 1, c => match c with
    | .seq a b => OrcOk E call O fid base n a ∧ OrcOk E call O fid base n b ∧ ∀ sp, O (keyOf b * 1000) = some sp → ∀ (R : Type) (r : R) st K, sp st R K = some r → evCode E call O fid base n b st (kOut E fid base (keyOf b * 1000 + 1) K) = some r
    | .cond _ a b => OrcOk E call O fid base n a ∧ OrcOk E call O fid base n b
    | .block _ c => OrcOk E call O fid base n c
    | .loop c => OrcOk E call O fid base n c ∧ ∀ sp, O (keyOf c * 1000 + 400) = some sp → ∀ (R : Type) (r : R) st K, sp st R K = some r → evLoop (norm (E.keep fid (keyOf c * 1000 + 400)) base) (evCode E call O fid base n c) E.rounds st (kOut E fid base (keyOf c * 1000 + 401) K) = some r
    | .scope c => OrcOk E call O fid base n c ∧ ∀ l rest, labOf c = l + 1 → findLabel c l = some rest → OrcOk E call O fid base n rest ∧ ∀ sp, O (keyOf rest * 1000 + 700) = some sp → ∀ (R : Type) (r : R) st K, sp st R K = some r → evJump (norm (E.keep fid (keyOf rest * 1000 + 700)) base) (evCode E call O fid base n rest) l E.rounds st (kOut E fid base (keyOf rest * 1000 + 701) K) = some r
    | _ => True
theorem OrcOk.none {E : Env} {call : CallF} {fid base : Nat} : ∀ n c, OrcOk E call (fun _ => none) fid base n c
  | 0, _ => trivial
  | n + 1, c => by
    have ih := OrcOk.none (E := E) (call := call) (fid := fid) (base := base) n
    cases c <;> first | trivial | exact ⟨ih _, ih _, fun sp h => nomatch h⟩ | exact ⟨ih _, ih _⟩ | exact ih _ | exact ⟨ih _, fun _ _ _ _ => ⟨ih _, fun sp h => nomatch h⟩⟩ | exact ⟨ih _, fun sp h => nomatch h⟩
theorem of_orcOr {R : Type} {o : Option PSpec} {f : St → (Ex → St → Option R) → Option R} {out : (Ex → St → Option R) → Ex → St → Option R} {st : St} {K : Ex → St → Option R} {r : R} (h : orcOr o f out st K = some r) (hs : ∀ sp, o = some sp → sp st R K = some r → f st (out K) = some r) : f st (out K) = some r := by
  unfold orcOr at h
  split at h
  · exact hs _ rfl h
  · exact h
/-- the pieces of which something is told: how deep, a loop or not, which -/
def orcs (O : Nat → Option PSpec) : Nat → Code → Option (List (Nat × Nat × Code))
  | 0, _ => some []
  | n + 1, c => match c with
    | .seq a b => match orcs O n a, orcs O n b with
      | some l, some l' => (match O (keyOf b * 1000) with | some _ => some ((n, 0, b) :: (l ++ l')) | Option.none => some (l ++ l'))
      | _, _ => Option.none
    | .cond _ a b => match orcs O n a, orcs O n b with
      | some l, some l' => some (l ++ l')
      | _, _ => Option.none
    | .block _ c => orcs O n c
    | .loop c => match orcs O n c with
      | some l => (match O (keyOf c * 1000 + 400) with | some _ => some ((n, 1, c) :: l) | Option.none => some l)
      | Option.none => Option.none
    | .scope c => match orcs O n c with
      | some l => (match labOf c with
        | 0 => some l
        | q + 1 => (match findLabel c q with
          | some rest => (match orcs O n rest with
            | some l' => (match O (keyOf rest * 1000 + 700) with | some _ => some ((n, q + 2, rest) :: (l ++ l')) | Option.none => some (l ++ l'))
            | Option.none => Option.none)
          | Option.none => some l))
      | Option.none => Option.none
    | _ => some []
/-- what is told of one is so -/
def PieceOk (E : Env) (call : CallF) (O : Nat → Option PSpec) (fid base : Nat) : Nat × Nat × Code → Prop
  | (n, 0, b) => ∀ sp, O (keyOf b * 1000) = some sp → ∀ (R : Type) (r : R) st K, sp st R K = some r → evCode E call O fid base n b st (kOut E fid base (keyOf b * 1000 + 1) K) = some r
  | (n, 1, c) => ∀ sp, O (keyOf c * 1000 + 400) = some sp → ∀ (R : Type) (r : R) st K, sp st R K = some r → evLoop (norm (E.keep fid (keyOf c * 1000 + 400)) base) (evCode E call O fid base n c) E.rounds st (kOut E fid base (keyOf c * 1000 + 401) K) = some r
  | (n, q + 2, rest) => ∀ sp, O (keyOf rest * 1000 + 700) = some sp → ∀ (R : Type) (r : R) st K, sp st R K = some r → evJump (norm (E.keep fid (keyOf rest * 1000 + 700)) base) (evCode E call O fid base n rest) q E.rounds st (kOut E fid base (keyOf rest * 1000 + 701) K) = some r
theorem OrcOk.of {E : Env} {call : CallF} {O : Nat → Option PSpec} {fid base : Nat} : ∀ n c l, orcs O n c = some l → (∀ x ∈ l, PieceOk E call O fid base x) → OrcOk E call O fid base n c
  | 0, _, _, _, _ => trivial
  | n + 1, c, l, hl, h => by
    have ih := OrcOk.of (E := E) (call := call) (O := O) (fid := fid) (base := base) n
    cases c <;> simp only [orcs] at hl <;> try trivial
    case seq a b =>
      split at hl
      · rename_i l1 l2 h1 h2
        split at hl
        · cases hl
          exact ⟨ih a l1 h1 fun x hx => h x (by simp [hx]), ih b l2 h2 fun x hx => h x (by simp [hx]), h (n, 0, b) (by simp)⟩
        · rename_i hn
          cases hl
          exact ⟨ih a l1 h1 fun x hx => h x (by simp [hx]), ih b l2 h2 fun x hx => h x (by simp [hx]), fun sp hsp => by rw [hn] at hsp; cases hsp⟩
      · cases hl
    case cond c a b =>
      split at hl
      · rename_i l1 l2 h1 h2
        cases hl
        exact ⟨ih a l1 h1 fun x hx => h x (by simp [hx]), ih b l2 h2 fun x hx => h x (by simp [hx])⟩
      · cases hl
    case block id c => exact ih c l hl h
    case loop c =>
      split at hl
      · rename_i l1 h1
        split at hl
        · cases hl
          exact ⟨ih c l1 h1 fun x hx => h x (by simp [hx]), h (n, 1, c) (by simp)⟩
        · rename_i hn
          cases hl
          exact ⟨ih c l h1 h, fun sp hsp => by rw [hn] at hsp; cases hsp⟩
      · cases hl
    case scope c =>
      split at hl
      · rename_i l1 h1
        split at hl
        · rename_i h0
          cases hl
          exact ⟨ih c l h1 h, fun q rest e => by rw [h0] at e; cases e⟩
        · rename_i q h0
          split at hl
          · rename_i rest hr
            split at hl
            · rename_i l2 h2
              split at hl
              · cases hl
                refine ⟨ih c l1 h1 fun x hx => h x (by simp [hx]), fun q' rest' e e2 => ?_⟩
                obtain rfl : q = q' := by omega
                rw [hr] at e2
                cases e2
                exact ⟨ih _ l2 h2 fun x hx => h x (by simp [hx]), h (n, q + 2, rest) (by simp)⟩
              · rename_i hn
                cases hl
                refine ⟨ih c l1 h1 fun x hx => h x (by simp [hx]), fun q' rest' e e2 => ?_⟩
                obtain rfl : q = q' := by omega
                rw [hr] at e2
                cases e2
                exact ⟨ih _ l2 h2 fun x hx => h x (by simp [hx]), fun sp hsp => by rw [hn] at hsp; cases hsp⟩
            · cases hl
          · rename_i hr
            cases hl
            refine ⟨ih c l h1 h, fun q' rest' e e2 => ?_⟩
            obtain rfl : q = q' := by omega
            rw [hr] at e2; cases e2
      · cases hl

theorem evCode_ok (hE : EnvOk E P) (hm : P.follows .mixedOrders = true) (hloc : CallLoc E call) (hcall : CallOk P E call) (hn : CallNat call) {O : Nat → Option PSpec} (hO : ONat O) (g0 : Good E X h0 m0 w0) (fid : FuncId) : ∀ (n : Nat) {R : Type} {r : R} (c : Code) (st : St) (K : Ex → St → Option R) (m : Nat → Option Nat) (w : World) (a : Act) (Q : Exit → Act → World → Prop),
    OrcOk E call O fid h0.length n c → evCode E call O fid h0.length n c st K = some r → Inv E X h0 m0 w0 st m w a → (∀ ex st' m' w' a', K ex st' = some r → Inv E X h0 m0 w0 st' m' w' a' → Q (exOf ex) a' w') → c.wp P Q a w
  | 0, _, _, _, _, _, _, _, _, _, _, h, _, _ => by cases h
  | n + 1, R, r, c, st, K, m, w, a, Q, ho, h, hi, hK => by
    have ih := fun {R : Type} {r : R} => evCode_ok hE hm hloc hcall hn hO g0 fid n (R := R) (r := r)
    cases c <;> simp only [evCode] at h
    case skip => exact wp_skip (hK _ st m w a h hi)
    case label l => exact wp_label (hK _ st m w a h hi)
    case exit id => exact wp_exit (hK _ st m w a h hi)
    case goto l => exact wp_goto (hK _ st m w a h hi)
    case ret => exact wp_ret (hK _ st m w a h hi)
    case region id ops draw =>
      cases draw with
      | true => exact evDraw_ok hE hm hcall hn hloc h hi fun t' h' m'' w' a' hk hi'' => hK _ _ m'' w' a' hk hi''
      | false =>
        refine wp_region_seq ?_
        exact evSeq_ok hE hcall hn ops.toList 0 st.t st.h m w a _ rfl h hi fun t' h' m'' w' a' hk hi'' => hK _ _ m'' w' a' hk hi''
    case seq x y =>
      refine wp_seq ?_
      refine ih x st _ m w a _ ho.1 h hi fun ex st' m' w' a' hk hi' => ?_
      cases ex with
      | normal =>
        obtain ⟨st'', m'', h1, hi''⟩ := norm_ok g0 hk hi'
        exact ih y st'' _ m'' w' a' Q ho.2.1 (of_orcOr h1 fun sp hsp he => ho.2.2 sp hsp _ _ _ _ he) hi'' (kOut_ok g0 hK)
      | exit id => exact hK _ st' m' w' a' hk hi'
      | goto l => exact hK _ st' m' w' a' hk hi'
      | ret => exact hK _ st' m' w' a' hk hi'
    case cond c x y =>
      split at h
      · rename_i u hu
        have hc := hi.sim.val c
        rw [hu] at hc
        have hc : a.eval c = .bool u := hc
        cases u with
        | true => exact wp_cond_true hc (ih x st K m w a Q ho.1 h hi hK)
        | false => exact wp_cond_false hc (ih y st K m w a Q ho.2 h hi hK)
      · cases h
    case block id c =>
      refine wp_block ?_
      refine ih c st _ m w a _ ho h hi fun ex st' m' w' a' hk hi' => ?_
      have := hK _ st' m' w' a' hk hi'
      cases ex with
      | normal => exact this
      | exit j =>
        by_cases e : j = id
        · subst e
          simp only [exOf, Exit.inBlock, if_true]
          simpa [exIn, Nat.beq_refl, exOf] using this
        · simp only [exOf, Exit.inBlock, if_neg e]
          have hb : j.beq id = false := by
            cases hq : j.beq id with
            | false => rfl
            | true => exact absurd (Nat.eq_of_beq_eq_true hq) e
          simpa [exIn, hb, exOf] using this
      | goto l => exact this
      | ret => exact this
    case loop c =>
      refine wp_loop_rounds E.rounds ?_
      obtain ⟨st1, m1, h1, hi1⟩ := norm_ok g0 h hi
      replace h1 := of_orcOr h1 fun sp hsp he => ho.2 sp hsp _ _ _ _ he
      clear h hi
      have hK' := kOut_ok (key := keyOf c * 1000 + 401) (fid := fid) g0 hK
      generalize kOut E fid h0.length (keyOf c * 1000 + 401) K = K' at h1 hK'
      generalize E.rounds = N at h1
      induction N generalizing st1 m1 w a with
      | zero => cases h1
      | succ N ihN =>
        rw [rounds_succ]
        refine ih c st1 _ m1 w a _ ho.1 h1 hi1 fun ex st' m' w' a' hk hi' => ?_
        cases ex with
        | normal =>
          obtain ⟨st'', m'', h2, hi''⟩ := norm_ok g0 hk hi'
          exact ihN w' a' st'' m'' hi'' h2
        | exit id => exact hK' _ st' m' w' a' hk hi'
        | goto l => exact hK' _ st' m' w' a' hk hi'
        | ret => exact hK' _ st' m' w' a' hk hi'
    case scope c =>
      have e := evCode_push E hn hO fid h0.length (fun p : Ex × St => (match p.1 with | .goto l => (match (labOf c).beq (l + 1) with | true => (match findLabel c l with | some rest => norm (E.keep fid (keyOf rest * 1000 + 700)) h0.length p.2 (fun st'' => orcOr (O (keyOf rest * 1000 + 700)) (evJump (norm (E.keep fid (keyOf rest * 1000 + 700)) h0.length) (evCode E call O fid h0.length n rest) l E.rounds) (kOut E fid h0.length (keyOf rest * 1000 + 701)) st'' K) | none => none) | false => none) | ex => K ex p.2 : Option R)) n c st (fun ex st => some (ex, st))
      simp only [Option.bind_some] at e
      have h' := e.trans h
      obtain ⟨⟨ex0, st0⟩, h1, h2⟩ := of_bind h'
      have done : ∀ {ex : Ex} {st' : St}, some (ex, st') = some (ex0, st0) → ex = ex0 ∧ st' = st0 := fun h => by cases h; exact ⟨rfl, rfl⟩
      have straight : (∀ l, ex0 ≠ .goto l) → K ex0 st0 = some r → (Code.scope c).wp P Q a w := by
        intro hne hk0
        refine wp_scope_straight ?_
        refine ih c st _ m w a _ ho.1 h1 hi fun ex st' m' w' a' hk hi' => ?_
        obtain ⟨rfl, rfl⟩ := done hk
        have := hK _ _ m' w' a' hk0 hi'
        cases ex with
        | normal => exact this
        | exit id => exact this
        | goto l => exact absurd rfl (hne l)
        | ret => exact this
      cases ex0 with
      | normal => exact straight (fun _ h => by cases h) h2
      | exit id => exact straight (fun _ h => by cases h) h2
      | ret => exact straight (fun _ h => by cases h) h2
      | goto l =>
        simp only at h2
        cases hlb : (labOf c).beq (l + 1) with
        | false => rw [hlb] at h2; cases h2
        | true =>
        rw [hlb] at h2
        have hlab := Nat.eq_of_beq_eq_true hlb
        simp only at h2
        split at h2
        · rename_i rest hrest
          obtain ⟨hor, hoj⟩ := ho.2 l rest hlab hrest
          have hK' := kOut_ok (key := keyOf rest * 1000 + 701) (fid := fid) g0 hK
          have h2 : norm (E.keep fid (keyOf rest * 1000 + 700)) h0.length st0 (fun st'' => orcOr (O (keyOf rest * 1000 + 700)) (evJump (norm (E.keep fid (keyOf rest * 1000 + 700)) h0.length) (evCode E call O fid h0.length n rest) l E.rounds) (kOut E fid h0.length (keyOf rest * 1000 + 701)) st'' K) = some r := h2
          let J : Nat → Act → World → Prop := fun k a' w' => ∃ st' m', evJump (norm (E.keep fid (keyOf rest * 1000 + 700)) h0.length) (evCode E call O fid h0.length n rest) l k st' (kOut E fid h0.length (keyOf rest * 1000 + 701) K) = some r ∧ Inv E X h0 m0 w0 st' m' w' a'
          refine wp_scope_jumps l (fun a' w' => ∃ k, J k a' w') (fun a' w' => leastOf fun k => J k a' w') hrest ?_ ?_
          · refine ih c st _ m w a _ ho.1 h1 hi fun ex st' m' w' a' hk hi' => ?_
            obtain ⟨rfl, rfl⟩ := done hk
            obtain ⟨st'', m'', h3, hi''⟩ := norm_ok g0 h2 hi'
            exact ⟨rfl, _, _, m'', of_orcOr h3 fun sp hsp he => hoj sp hsp _ _ _ _ he, hi''⟩
          · intro a1 w1 hJ
            obtain ⟨⟨st1, m1, h3, hi1⟩, hmin⟩ := leastOf_spec hJ
            generalize hk0 : (leastOf fun k => J k a1 w1) = k0 at h3 hmin ⊢
            cases k0 with
            | zero => cases h3
            | succ k0 =>
              refine ih rest st1 _ m1 w1 a1 _ hor h3 hi1 fun ex st' m' w' a' hk hi' => ?_
              cases ex with
              | normal => exact hK' _ st' m' w' a' hk hi'
              | exit id => exact hK' _ st' m' w' a' hk hi'
              | ret => exact hK' _ st' m' w' a' hk hi'
              | goto l' =>
                simp only at hk
                split at hk
                · rename_i hb
                  have hl : l' = l := Nat.eq_of_beq_eq_true hb
                  subst hl
                  obtain ⟨st'', m'', hk2, hi''⟩ := norm_ok g0 hk hi'
                  have hj : J k0 a' w' := ⟨st'', m'', hk2, hi''⟩
                  have := (leastOf_spec (p := fun k => J k a' w') ⟨k0, hj⟩).2 k0 hj
                  exact ⟨rfl, ⟨k0, hj⟩, by show leastOf _ < k0 + 1; omega⟩
                · cases hk
        · cases h2
    all_goals cases h
end
end Go.Ev
