/- Regions that draw their order, first part: where an operation looks, and what it changes. -/
import Derived.Test.YtllgdcepgelahaaDoorEv17
import Derived.Orders
namespace Go.Ev

/-- blocks put in their places -/
def app : List (Nat × HB) → H → H
  | [], h => h
  | p :: r, h => app r (h.set p.1 p.2)
theorem app_length : ∀ (U : List (Nat × HB)) (h : H), (app U h).length = h.length
  | [], _ => rfl
  | p :: r, h => by simp [app, app_length r]
theorem app_off : ∀ (U : List (Nat × HB)) (h : H) (b : Nat), (∀ p ∈ U, p.1 ≠ b) → (app U h)[b]? = h[b]?
  | [], _, _, _ => rfl
  | p :: r, h, b, hb => by
    rw [app, app_off r _ b fun q hq => hb q (List.mem_cons_of_mem _ hq), List.getElem?_set_ne (hb p List.mem_cons_self)]
theorem app_on : ∀ (U : List (Nat × HB)) (h h' : H) (b : Nat), h.length = h'.length → h[b]? = h'[b]? → (app U h)[b]? = (app U h')[b]?
  | [], _, _, _, _, e => e
  | p :: r, h, h', b, hl, e => by
    refine app_on r _ _ b (by simpa using hl) ?_
    by_cases hp : p.1 = b
    · rw [hp, List.getElem?_set_self', List.getElem?_set_self', e]
    · rw [List.getElem?_set_ne hp, List.getElem?_set_ne hp, e]

theorem val_congr {E : Env} {t t' : List AV} {x : Operand} (h : ∀ u, x = .tmp u → t'.getD u .undef = t.getD u .undef) : val E t' x = val E t x := by
  cases x with
  | tmp u => exact h u rfl
  | const v => rfl
  | global g => rfl
  | func f => rfl
theorem vals_congr {E : Env} {t t' : List AV} {o : Oper} (h : ∀ u ∈ opTmps o, t'.getD u .undef = t.getD u .undef) (x : Operand) (hx : x ∈ o.op.operands.toList) : val E t' x = val E t x :=
  val_congr fun u hu => h u (by
    unfold opTmps
    exact List.mem_filterMap.2 ⟨x, hx, by rw [hu]⟩)
theorem map_congr {E : Env} {t t' : List AV} {xs : List Operand} (h : ∀ x ∈ xs, val E t' x = val E t x) : xs.map (val E t') = xs.map (val E t) := List.map_congr_left h
theorem omap_congr {E : Env} {t t' : List AV} {x : Option Operand} (h : ∀ y, x = some y → val E t' y = val E t y) : x.map (val E t') = x.map (val E t) := by
  cases x with
  | none => rfl
  | some y => simp [h y rfl]

section
variable {E : Env} {call : CallF} {R : Type}
theorem evOp_tmps {t t' : List AV} {o : Oper} (ht : ∀ u ∈ opTmps o, t'.getD u .undef = t.getD u .undef) (h : H) (slot : Nat) (K : AV → H → Option R) : evOp E call t' h slot o K = evOp E call t h slot o K := by
  have hv := fun x hx => vals_congr (E := E) ht x hx
  clear ht
  obtain ⟨dst, op, ty, pos, after, guard⟩ := o
  simp only at hv
  cases op <;> simp only [evOp] <;> simp only [Op.operands] at hv
  case move x => rw [hv x (by simp)]
  case assign x => rw [hv x (by simp)]
  case pick c a b => rw [hv c (by simp), hv a (by simp), hv b (by simp)]
  case box e x => rw [hv x (by simp)]
  case build ty ps =>
    have e : (ps.toList.map fun p => (p.1, val E t' p.2)) = ps.toList.map fun p => (p.1, val E t p.2) := List.map_congr_left fun p hp => by
      rw [hv p.2 (by simp only [List.mem_map]; exact ⟨p, hp, rfl⟩)]
    rw [e]
  case buildSlice ty n ps =>
    have e : (ps.toList.map fun p => (p.1, val E t' p.2)) = ps.toList.map fun p => (p.1, val E t p.2) := List.map_congr_left fun p hp => by
      rw [hv p.2 (by simp only [List.mem_map]; exact ⟨p, hp, rfl⟩)]
    rw [e]
  case load ty a => rw [hv a (by simp)]
  case store ty a x => rw [hv a (by simp), hv x (by simp)]
  case nilCheck x => rw [hv x (by simp)]
  case binOp op xt x y yt => rw [hv x (by simp), hv y (by simp)]
  case unOp op ty x => rw [hv x (by simp)]
  case convert src dst x => rw [hv x (by simp)]
  case makeInterface ty x => rw [hv x (by simp)]
  case makeFunc callee first caps =>
    cases callee <;> simp only []
    have e : caps.toList.map (val E t') = caps.toList.map (val E t) := map_congr fun x hx => hv x (by simp only [Array.toList_append, List.mem_append]; exact .inr hx)
    rw [e]
  case makeSlice ty l c => rw [hv l (by simp), hv c (by simp)]
  case slice ty x lo hi mx =>
    rw [hv x (by simp), omap_congr (x := lo) fun y hy => hv y (by subst hy; simp), omap_congr (x := hi) fun y hy => hv y (by subst hy; simp), omap_congr (x := mx) fun y hy => hv y (by subst hy; simp)]
  case fieldAddr s x f => rw [hv x (by simp)]
  case field s x f => rw [hv x (by simp)]
  case indexAddr ty x i => rw [hv x (by simp), hv i (by simp)]
  case index ty x i => rw [hv x (by simp), hv i (by simp)]
  case extract x i => rw [hv x (by simp)]
  case call c =>
    have ha : c.args.toList.map (val E t') = c.args.toList.map (val E t) := map_congr fun x hx => hv x (by
      unfold Call.operands
      simp only [Array.toList_append, List.mem_append]
      first | exact .inr hx | exact .inl hx)
    rw [ha]
    cases hc : c.callee with
    | value f =>
      simp only []
      rw [hv f (by unfold Call.operands; rw [hc]; simp)]
    | _ => rfl

theorem pureLoc {F : (R : Type) → (AV → Option R) → Option R} (hF : ∀ (R S : Type) (K : AV → Option R) (J : R → Option S), (F R K).bind J = F S fun v => (K v).bind J) {h h1 : H} {v : AV}
    (he : F (AV × H) (fun v => some (v, h)) = some (v, h1)) : h1 = h ∧ ∀ h', F (AV × H) (fun v => some (v, h')) = some (v, h') := by
  have e := hF AV (AV × H) some (fun v => some (v, h))
  simp only [Option.bind_some] at e
  rw [← e] at he
  obtain ⟨u, h2, h3⟩ := of_bind he
  cases h3
  refine ⟨rfl, fun h' => ?_⟩
  have e' := hF AV (AV × H) some (fun v => some (v, h'))
  simp only [Option.bind_some] at e'
  rw [← e', h2]; rfl

/-- a way to tell calls looks but where it may -/
def CallLoc (E : Env) (call : CallF) : Prop := ∀ (f : FuncId) (args : List AV) (h h' : H) (slot : Nat) (v : AV) (h1 : H), call f args h slot (AV × H) (fun v h => some (v, h)) = some (v, h1) → slot < h.length → h'.length = h.length → h1.length = h.length → noIce h' = true →
  ((E.vs f && refFree args) = true → h1 = h ∧ call f args h' slot (AV × H) (fun v h => some (v, h)) = some (v, h')) ∧
  ((∀ b ∈ reachN h 100000 (refsL args) [], h'[b]? = h[b]?) → ∃ U : List (Nat × HB), (∀ p ∈ U, p.1 = slot ∨ p.1 ∈ reachN h 100000 (refsL args) []) ∧ h1 = app U h ∧ call f args h' slot (AV × H) (fun v h => some (v, h)) = some (v, app U h'))

theorem blkAt_congr {h h' : H} {b : Nat} (e : h'[b]? = h[b]?) : blkAt h' b = blkAt h b := by unfold blkAt; rw [e]
theorem hput_set {h : H} {s : Nat} {x : HB} (hs : s < h.length) : hput h s x = h.set s x := by unfold hput; rw [if_pos hs]

theorem loadA_congr {h h' : H} {ty : TypeId} {a : AV} {K : AV → Option R} (e : ∀ b ∈ refsV a, h'[b]? = h[b]?) : loadA E h' ty a K = loadA E h ty a K := by
  unfold loadA
  cases a <;> simp only []
  rename_i b off
  rw [blkAt_congr (e b (by simp [refsV]))]
theorem sliceArrA_congr {h h' : H} {ty : TypeId} {x : AV} {lo hi mx : Option AV} {K : AV → Option R} (e : ∀ b ∈ refsV x, h'[b]? = h[b]?) : sliceArrA E h' ty x lo hi mx K = sliceArrA E h ty x lo hi mx K := by
  unfold sliceArrA
  cases x <;> simp only []
  rename_i b off
  rw [blkAt_congr (e b (by simp [refsV]))]
theorem readSl_congr {h h' : H} {x : AV} {K : Blk → Option R} (e : ∀ b ∈ refsV x, h'[b]? = h[b]?) : readSl h' x K = readSl h x K := by
  unfold readSl
  cases x <;> simp only []
  rename_i b off len sz
  rw [blkAt_congr (e b (by simp [refsV]))]

theorem blkLoc {F : (R : Type) → (Blk → Option R) → Option R} (hF : ∀ (R S : Type) (K : Blk → Option R) (J : R → Option S), (F R K).bind J = F S fun c => (K c).bind J) {α : Type} {g : Blk → Option α} {r : α} (he : F α g = some r) :
    ∃ c, g c = some r ∧ ∀ (β : Type) (g' : Blk → Option β), F β g' = g' c := by
  have e := hF Blk α some g
  simp only [Option.bind_some] at e
  rw [← e] at he
  obtain ⟨c, h2, h3⟩ := of_bind he
  refine ⟨c, h3, fun β g' => ?_⟩
  have e' := hF Blk β some g'
  simp only [Option.bind_some] at e'
  rw [← e', h2]; rfl
theorem storeA_loc {h h1 : H} {ty : TypeId} {a x z v : AV} (he : storeA E h ty a x (fun h' => some (z, h')) = some (v, h1)) :
    ∃ b c, b ∈ refsV a ∧ h1 = h.set b (.live c) ∧ ∀ h', h'[b]? = h[b]? → storeA E h' ty a x (fun h' => some (z, h')) = some (v, h'.set b (.live c)) := by
  unfold storeA at he ⊢
  cases hT : E.T ty with
  | none => rw [hT] at he; cases he
  | some i =>
    simp only [hT] at he ⊢
    cases a <;> simp only [] at he ⊢ <;> try (cases he; done)
    rename_i b off
    split at he
    · rename_i c hc
      split at he
      · rename_i d
        obtain ⟨h2, h3⟩ := sel_iff.1 he
        obtain ⟨c', h4, h5⟩ := blkLoc (F := fun R K => c.put off d K) (fun _ _ _ _ => Blk.put_push _ _ _ _ _) h3
        cases h4
        refine ⟨b, c', by simp [refsV], rfl, fun h' e => ?_⟩
        rw [e, hc]
        simp only [h2, sel_true]
        exact h5 _ _
      · rename_i hx
        obtain ⟨h2, h3⟩ := sel_iff.1 he
        obtain ⟨c', h4, h5⟩ := blkLoc (F := fun R K => c.set off x K) (fun _ _ _ _ => Blk.set_push _ _ _ _ _) h3
        cases h4
        refine ⟨b, c', by simp [refsV], rfl, fun h' e => ?_⟩
        rw [e, hc]
        cases x <;> first | exact absurd rfl (hx _) | (simp only [h2, sel_true]; exact h5 _ _)
    · cases he
theorem buildSlA_loc {h h1 : H} {slot : Nat} {ty : TypeId} {n : Nat} {ps : List (Nat × AV)} {v : AV} (he : buildSlA E h slot ty n ps (fun v h => some (v, h)) = some (v, h1)) :
    (h1 = h ∧ ∀ h', buildSlA E h' slot ty n ps (fun v h => some (v, h)) = some (v, h')) ∨ ∃ x, h1 = hput h slot x ∧ ∀ h', buildSlA E h' slot ty n ps (fun v h => some (v, h)) = some (v, hput h' slot x) := by
  unfold buildSlA at he ⊢
  split at he
  · rename_i e size bytes zero hT
    try simp only []
    split at he
    · rename_i k hk
      try simp only []
      obtain ⟨h2, h3⟩ := sel_iff.1 he
      simp only [h2]
      split at h3
      · split at h3
        · cases h3; exact .inl ⟨rfl, fun _ => rfl⟩
        · cases h3
      · rename_i hne
        split at h3
        · rename_i ps' hps
          split at h3
          · rename_i cs hcs
            split at h3
            · rename_i c hc
              cases h3
              refine .inr ⟨_, rfl, fun h' => ?_⟩
              simp only [sel_true]
            · cases h3
          · cases h3
        · cases h3
    · cases he
  · cases he
theorem makeSl_loc {h h1 : H} {slot : Nat} {ty : TypeId} {l c v : AV} (he : makeSl E h slot ty l c (fun v h => some (v, h)) = some (v, h1)) :
    ∃ x, h1 = hput h slot x ∧ ∀ h', makeSl E h' slot ty l c (fun v h => some (v, h)) = some (v, hput h' slot x) := by
  unfold makeSl at he ⊢
  split at he
  · split at he
    · rename_i ie hie
      try simp only []
      obtain ⟨h2, h3⟩ := sel_iff.1 he
      obtain ⟨h4, h5⟩ := sel_iff.1 h3
      obtain ⟨h6, h7⟩ := sel_iff.1 h5
      obtain ⟨h8, h9⟩ := sel_iff.1 h7
      cases h9
      exact ⟨_, rfl, fun h' => by simp only [h2, h4, h6, h8, sel_true]⟩
    · cases he
  · cases he
theorem appendA_loc {h h1 : H} {slot : Nat} {ty : TypeId} {s x v : AV} (hs : slot < h.length) (he : appendA E h slot ty s x (fun v h => some (v, h)) = some (v, h1)) :
    ∃ U : List (Nat × HB), (∀ p ∈ U, p.1 = slot ∨ p.1 ∈ refsV s) ∧ h1 = app U h ∧ ∀ h', h'.length = h.length → (∀ b ∈ refsV s, h'[b]? = h[b]?) → (∀ b ∈ refsV x, h'[b]? = h[b]?) → appendA E h' slot ty s x (fun v h => some (v, h)) = some (v, app U h') := by
  unfold appendA at he ⊢
  split at he
  · rename_i e size bytes zero hT
    try simp only []
    split at he
    · rename_i ie hie
      try simp only []
      obtain ⟨a1, he⟩ := sel_iff.1 he
      obtain ⟨a2, he⟩ := sel_iff.1 he
      obtain ⟨a3, he⟩ := sel_iff.1 he
      simp only [a1, a2, a3, sel_true]
      split at he
      · rename_i m hm
        try simp only []
        obtain ⟨d, b1, b2⟩ := blkLoc (F := fun R K => readSl h x K) (fun _ _ _ _ => readSl_push _ _ _ _) he
        obtain ⟨c1, b1⟩ := sel_iff.1 b1
        cases s with
        | esl =>
          obtain ⟨c2, b1⟩ := sel_iff.1 b1
          cases b1
          refine ⟨[(slot, .live d)], by simp, by rw [hput_set hs]; rfl, fun h' hl _ e2 => ?_⟩
          rw [readSl_congr e2, b2]
          simp only [c1, c2, sel_true, hput_set (show slot < h'.length by omega)]; rfl
        | sl b off len sz =>
          cases off with
          | succ _ => cases b1
          | zero =>
            simp only [] at b1
            cases hq : h[b]? with
            | none => rw [hq] at b1; cases b1
            | some y =>
              rw [hq] at b1
              cases y with
              | live c =>
                simp only [] at b1
                obtain ⟨c2, b1⟩ := sel_iff.1 b1
                obtain ⟨c3, b1⟩ := sel_iff.1 b1
                obtain ⟨c4, b1⟩ := sel_iff.1 b1
                obtain ⟨c', b3, b4⟩ := blkLoc (F := fun R K => c.app d K) (fun _ _ _ _ => Blk.app_push _ _ _ _) b1
                cases b3
                refine ⟨[(b, .dead), (slot, .live c')], by simp [refsV], by rw [hput_set (by simpa using hs)]; rfl, fun h' hl e1 e2 => ?_⟩
                rw [readSl_congr e2, b2]
                simp only [c1, sel_true, e1 b (by simp [refsV]), hq, c2, c3, c4]
                rw [b4, hput_set (by simp; omega)]; rfl
              | _ => cases b1
        | _ => cases b1
      · cases he
    · cases he
  · cases he
theorem copyA_loc {h h1 : H} {ty : TypeId} {d x v : AV} (he : copyA E h ty d x (fun v h => some (v, h)) = some (v, h1)) :
    ∃ b c, b ∈ refsV d ∧ h1 = h.set b (.live c) ∧ ∀ h', (∀ b ∈ refsV d, h'[b]? = h[b]?) → (∀ b ∈ refsV x, h'[b]? = h[b]?) → copyA E h' ty d x (fun v h => some (v, h)) = some (v, h'.set b (.live c)) := by
  unfold copyA at he ⊢
  split at he
  · rename_i e size bytes zero hT
    try simp only []
    split at he
    · rename_i ie hie
      try simp only []
      obtain ⟨a1, he⟩ := sel_iff.1 he
      obtain ⟨a2, he⟩ := sel_iff.1 he
      simp only [a1, a2, sel_true]
      split at he
      · rename_i m hm
        try simp only []
        cases d with
        | sl b off len sz =>
          simp only [] at he
          cases hq : h[b]? with
          | none => rw [hq] at he; cases he
          | some y0 =>
            rw [hq] at he
            cases y0 with
            | live c =>
              simp only [] at he
              obtain ⟨a3, he⟩ := sel_iff.1 he
              obtain ⟨a4, he⟩ := sel_iff.1 he
              obtain ⟨y, b1, b2⟩ := blkLoc (F := fun R K => readSl h x K) (fun _ _ _ _ => readSl_push _ _ _ _) he
              obtain ⟨a5, b1⟩ := sel_iff.1 b1
              cases hd : decide (m ≤ len) with
              | true =>
                rw [hd, sel_true] at b1
                obtain ⟨c', b3, b4⟩ := blkLoc (F := fun R K => c.put off y K) (fun _ _ _ _ => Blk.put_push _ _ _ _ _) b1
                cases b3
                refine ⟨b, c', by simp [refsV], rfl, fun h' e1 e2 => ?_⟩
                simp only [e1 b (by simp [refsV]), hq, a3, a4, sel_true]
                rw [readSl_congr e2, b2]
                simp only [a5, hd, sel_true]
                exact b4 _ _
              | false =>
                rw [hd, sel_false] at b1
                obtain ⟨y', b3, b4⟩ := blkLoc (F := fun R K => y.sub 0 len K) (fun _ _ _ _ => Blk.sub_push _ _ _ _ _) b1
                obtain ⟨c', b5, b6⟩ := blkLoc (F := fun R K => c.put off y' K) (fun _ _ _ _ => Blk.put_push _ _ _ _ _) b3
                cases b5
                refine ⟨b, c', by simp [refsV], rfl, fun h' e1 e2 => ?_⟩
                simp only [e1 b (by simp [refsV]), hq, a3, a4, sel_true]
                rw [readSl_congr e2, b2]
                simp only [a5, hd, sel_true, sel_false]
                rw [b4]
                exact b6 _ _
            | _ => cases he
        | _ => cases he
      · cases he
    · cases he
  · cases he

theorem evOp_loc (hcall : CallLoc E call) {t : List AV} {h h' h1 : H} {slot : Nat} {o : Oper} {v : AV} (hl : h'.length = h.length) (hs : slot < h.length) (hi' : noIce h' = true)
    (hb : ∀ b ∈ (mine slot (touch E t h o)).2, h'[b]? = h[b]?) (he : evOp E call t h slot o (fun v h => some (v, h)) = some (v, h1)) (hl1 : h1.length = h.length) :
    ∃ U : List (Nat × HB), (∀ p ∈ U, p.1 ∈ (mine slot (touch E t h o)).2) ∧ h1 = app U h ∧ evOp E call t h' slot o (fun v h => some (v, h)) = some (v, app U h') ∧ ((touch E t h o).1 = false → U = []) := by
  have pure_ : ∀ {F : (R : Type) → (AV → Option R) → Option R}, (∀ (R S : Type) (K : AV → Option R) (J : R → Option S), (F R K).bind J = F S fun v => (K v).bind J) → F (AV × H) (fun v => some (v, h)) = some (v, h1) →
      ∃ U : List (Nat × HB), (∀ p ∈ U, p.1 ∈ (mine slot (touch E t h o)).2) ∧ h1 = app U h ∧ F (AV × H) (fun v => some (v, h')) = some (v, app U h') ∧ ((touch E t h o).1 = false → U = []) := fun hF he => by
    obtain ⟨h2, h3⟩ := pureLoc hF he
    exact ⟨[], by simp, h2, h3 h', fun _ => rfl⟩
  have hmine : ∀ D, touch E t h o = (true, D) → (mine slot (touch E t h o)).2 = slot :: D := fun D e => by rw [e]; rfl
  have hmine' : ∀ D, touch E t h o = (false, D) → (mine slot (touch E t h o)).2 = D := fun D e => by rw [e]; rfl
  obtain ⟨dst, op, ty, pos, after, guard⟩ := o
  cases op <;> simp only [evOp] at he ⊢
  case move x => exact pure_ (F := fun R K => K (val E t x)) (fun _ _ _ _ => rfl) he
  case assign x => exact pure_ (F := fun R K => K (val E t x)) (fun _ _ _ _ => rfl) he
  case pick c a b =>
    refine pure_ (F := fun R K => match val E t c with | .bool u => sel u (K (val E t a)) (K (val E t b)) | _ => none) (fun R S K J => ?_) he
    simp only []
    split
    · exact sel_bind _ _ _ _
    · rfl
  case alloc e =>
    cases hq : E.T e with
    | none => simp [hq] at he
    | some i =>
      simp only [hq, Option.some.injEq, Prod.mk.injEq] at he ⊢
      obtain ⟨rfl, rfl⟩ := he
      refine ⟨[(slot, .live i.zero.blk)], ?_, by rw [hput_set hs]; rfl, by rw [hput_set (by omega)]; exact ⟨rfl, rfl⟩, fun h => by simp [touch] at h⟩
      intro p hp
      rw [List.mem_singleton] at hp
      subst hp
      simp [mine, touch]
  case box e x =>
    cases hq : E.T e with
    | none => simp [hq] at he
    | some i =>
      simp only [hq] at he ⊢
      split at he
      all_goals
        obtain ⟨h2, h3⟩ := sel_iff.1 he
        cases h3
        rw [h2]
        exact ⟨[(slot, _)], by simp [mine, touch], by rw [hput_set hs]; rfl, by rw [hput_set (by omega)]; rfl, fun h => by simp [touch] at h⟩
  case build ty ps =>
    refine pure_ (F := fun R K => match buildA E ty (ps.toList.map fun p => (p.1, val E t p.2)) with | some v => K v | none => none) (fun R S K J => ?_) he
    simp only []
    split <;> rfl
  case buildSlice ty n ps =>
    rcases buildSlA_loc he with ⟨rfl, h2⟩ | ⟨x, rfl, h2⟩
    · exact ⟨[], by simp, rfl, h2 h', fun _ => rfl⟩
    · exact ⟨[(slot, x)], by simp [mine, touch], by rw [hput_set hs]; rfl, by rw [h2, hput_set (by omega)]; rfl, fun h => by simp [touch] at h⟩
  case load ty a =>
    rw [loadA_congr fun b hb' => hb b (by rw [hmine' _ rfl]; exact hb')]
    exact pure_ (F := fun R K => loadA E h ty (val E t a) K) (fun _ _ _ _ => loadA_push _ _ _ _ _ _) he
  case store ty a x =>
    obtain ⟨b, c, h2, rfl, h3⟩ := storeA_loc he
    exact ⟨[(b, .live c)], by simp [mine, touch, h2], rfl, h3 h' (hb b (by simp [mine, touch, h2])), fun h => by simp [touch] at h⟩
  case nilCheck x =>
    refine pure_ (F := fun R K => match val E t x with | .undef | .nilptr | .nilif | .nilfn => none | v => K v) (fun R S K J => ?_) he
    simp only []
    split <;> rfl
  case binOp op xt x y yt => exact pure_ (F := fun R K => binA E op xt (val E t x) (val E t y) K) (fun _ _ _ _ => binA_push _ _ _ _ _ _ _) he
  case unOp op ty x => exact pure_ (F := fun R K => unA op (val E t x) K) (fun _ _ _ _ => unA_push _ _ _ _) he
  case convert src dst x => exact pure_ (F := fun R K => cvtA E src dst (val E t x) K) (fun _ _ _ _ => cvtA_push _ _ _ _ _ _) he
  case makeInterface ty x =>
    refine pure_ (F := fun R K => match E.T ty with | some i => (match i.kind with | .iface => none | .other => none | _ => K (.iface ty (val E t x))) | none => none) (fun R S K J => ?_) he
    simp only []
    split
    · split <;> rfl
    · rfl
  case makeFunc callee first caps =>
    cases callee <;> try (cases he; done)
    rename_i f
    refine pure_ (F := fun R K => if first.isEmpty then K (.fn f (caps.toList.map (val E t))) else none) (fun R S K J => ?_) he
    simp only []
    split <;> rfl
  case makeSlice ty l c =>
    obtain ⟨x, rfl, h2⟩ := makeSl_loc he
    exact ⟨[(slot, x)], by simp [mine, touch], by rw [hput_set hs]; rfl, by rw [h2, hput_set (by omega)]; rfl, fun h => by simp [touch] at h⟩
  case slice ty x lo hi mx =>
    rw [sliceArrA_congr (h := h) fun b hb' => hb b (by rw [hmine' _ rfl]; exact hb')]
    refine pure_ (F := fun R K => sel (isArr E ty) (sliceArrA E h ty (val E t x) (lo.map (val E t)) (hi.map (val E t)) (mx.map (val E t)) K) (sliceA E ty (val E t x) (lo.map (val E t)) (hi.map (val E t)) (mx.map (val E t)) K)) (fun R S K J => ?_) he
    simp only [sel_bind, sliceArrA_push, sliceA_push]
  case fieldAddr s x f => exact pure_ (F := fun R K => fldAddrA E s (val E t x) f K) (fun _ _ _ _ => fldAddrA_push _ _ _ _ _ _) he
  case field s x f => exact pure_ (F := fun R K => fldA E s (val E t x) f K) (fun _ _ _ _ => fldA_push _ _ _ _ _ _) he
  case indexAddr ty x i =>
    refine pure_ (F := fun R K => match val E t i with | .int _ n => idxAddrA E ty (val E t x) n K | _ => none) (fun R S K J => ?_) he
    try simp only []
    split
    · exact idxAddrA_push _ _ _ _ _ _
    · rfl
  case index ty x i =>
    refine pure_ (F := fun R K => match val E t i with | .int _ n => idxA E ty (val E t x) n K | _ => none) (fun R S K J => ?_) he
    try simp only []
    split
    · exact idxA_push _ _ _ _ _ _
    · rfl
  case extract x i =>
    refine pure_ (F := fun R K => match val E t x with | .tup vs => (match vs[i]? with | some v => K v | none => none) | _ => none) (fun R S K J => ?_) he
    simp only []
    split
    · split <;> rfl
    · rfl
  case call c =>
    cases hc : c.callee with
    | builtin b =>
      rw [hc] at he
      simp only [] at he ⊢
      cases b <;> simp only [builtinA] at he ⊢ <;> try (cases he; done)
      case len =>
        refine pure_ (F := fun R K => match c.argTypes.toList, c.args.toList.map (val E t) with | ty :: _, [x] => lenA E ty x K | _, _ => none) (fun R S K J => ?_) he
        try simp only []
        split
        · exact lenA_push _ _ _ _ _
        · rfl
      case max =>
        refine pure_ (F := fun R K => match maxA (c.args.toList.map (val E t)) with | some v => K v | none => none) (fun R S K J => ?_) he
        simp only []
        split <;> rfl
      case min =>
        refine pure_ (F := fun R K => match minA (c.args.toList.map (val E t)) with | some v => K v | none => none) (fun R S K J => ?_) he
        simp only []
        split <;> rfl
      case append =>
        have hm2 : (mine slot (touch E t h { dst := dst, op := Op.call c, type := ty, pos := pos, after := after, guard := guard })).2 = slot :: refsL (c.args.toList.map (val E t)) := by
          simp only [mine, touch, hc]
        have ht1 : (touch E t h { dst := dst, op := Op.call c, type := ty, pos := pos, after := after, guard := guard }).1 = true := by simp only [touch, hc]
        rw [hm2] at hb ⊢
        rw [ht1]
        split at he
        · rename_i s x hts hxs
          rename_i t1 u1
          obtain ⟨h2, h3⟩ := sel_iff.1 he
          obtain ⟨U, a1, a2, a3⟩ := appendA_loc hs h3
          rw [hxs] at hb ⊢
          refine ⟨U, fun p hp => ?_, a2, ?_, fun h => by cases h⟩
          · rcases a1 p hp with a | a
            · rw [a]; exact List.mem_cons_self
            · exact List.mem_cons_of_mem _ (by simp [refsL, a])
          · simp only [h2, sel_true]
            exact a3 h' hl (fun b hb' => hb b (by simp [refsL, hb'])) (fun b hb' => hb b (by simp [refsL, hb']))
        · cases he
      case copy =>
        have hm2 : (mine slot (touch E t h { dst := dst, op := Op.call c, type := ty, pos := pos, after := after, guard := guard })).2 = slot :: refsL (c.args.toList.map (val E t)) := by
          simp only [mine, touch, hc]
        have ht1 : (touch E t h { dst := dst, op := Op.call c, type := ty, pos := pos, after := after, guard := guard }).1 = true := by simp only [touch, hc]
        rw [hm2] at hb ⊢
        rw [ht1]
        split at he
        · rename_i d x hts hxs
          obtain ⟨b, c', a1, rfl, a3⟩ := copyA_loc he
          rw [hxs] at hb ⊢
          refine ⟨[(b, .live c')], fun p hp => ?_, rfl, ?_, fun h => by cases h⟩
          · rw [List.mem_singleton] at hp
            subst hp
            exact List.mem_cons_of_mem _ (by simp [refsL, a1])
          · try simp only []
            exact a3 h' (fun b hb' => hb b (by simp [refsL, hb'])) (fun b hb' => hb b (by simp [refsL, hb']))
        · cases he
    | value f =>
      rw [hc] at he
      simp only [] at he ⊢
      split at he
      · rename_i g caps hf
        try simp only []
        obtain ⟨k1, k2⟩ := hcall g _ h h' slot v h1 he hs hl hl1 hi'
        cases hv : (E.vs g && refFree (c.args.toList.map (val E t) ++ caps)) with
        | true =>
          obtain ⟨rfl, k3⟩ := k1 hv
          exact ⟨[], by simp, rfl, k3, fun _ => rfl⟩
        | false =>
          have ht : touch E t h { dst := dst, op := Op.call c, type := ty, pos := pos, after := after, guard := guard } = (true, reachN h 100000 (refsL (c.args.toList.map (val E t) ++ caps)) []) := by
            simp only [touch, hc, hf, hv]
          rw [ht] at hb ⊢
          obtain ⟨U, k4, k5, k6⟩ := k2 fun b hb' => hb b (List.mem_cons_of_mem _ hb')
          exact ⟨U, fun p hp => List.mem_cons.2 (k4 p hp), k5, k6, fun h => by cases h⟩
      · cases he
    | _ => rw [hc] at he; cases he
  all_goals cases he
end
end Go.Ev
