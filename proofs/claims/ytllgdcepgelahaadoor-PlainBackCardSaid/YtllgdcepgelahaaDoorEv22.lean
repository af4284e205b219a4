/- A law that the evaluator finds true keeps its row's contract. -/
import Derived.Test.YtllgdcepgelahaaDoorEv21
import Derived.Handed
import Derived.RowKit
namespace Go.Ev
open Go.RowKit (Below)

/-- an argument -/
inductive Pa where
  | one (s : Sh)
  | st (cs : List Sh)
def Pa.has : Pa → AV → Prop
  | .one s, v => s.has v
  | .st cs, v => ∃ vs, v = .agg (.any vs) ∧ hasL cs vs
def pasHas : List Pa → List AV → Prop
  | [], vs => vs = []
  | p :: ps, vs => ∃ v r, vs = v :: r ∧ p.has v ∧ pasHas ps r
def paOf (T : TypeId → Option TI) (t : TypeId) : Option Pa := match T t with
  | none => none
  | some i => match i.kind with
    | .struct _ => (match shs T 20 t with | some cs => some (.st cs) | none => none)
    | .array _ _ => none
    | _ => match shs T 20 t with | some [c] => some (.one c) | _ => none
def pasOf (T : TypeId → Option TI) : List TypeId → Option (List Pa)
  | [] => some []
  | t :: r => match paOf T t, pasOf T r with | some p, some ps => some (p :: ps) | _, _ => none

section
variable {P : Program} {E : Env} {w : World} {H : Type} {enc : TypeId × Value → H} {base : Nat} {sp : Nat → Bool} {held : Bool}

theorem cellOk_notAgg {r : Reach} {b : Nat} {t : TypeId} {v : Value} (h1 : ∀ fs, P.underlying t ≠ some (.struct fs)) (h2 : ∀ n e, P.underlying t ≠ some (.array n e)) (h : Value.okWide P w r b t v) : ∀ cs, v ≠ .agg cs := by
  rintro cs rfl
  unfold Value.okWide at h
  split at h
  · rename_i heq; exact h1 _ heq
  · rename_i heq; exact h2 _ _ heq
  · unfold Cell.okWide at h
    split at h <;> simp_all [Cell.ok]

theorem paOf_ok (hE : EnvOk E P) {t : TypeId} {p : Pa} {v : Value} {r : Reach} {b : Nat} {d : DataW H} {ps : List MemPlace} (hp : paOf E.T t = some p) (hv : Value.okWide P w r b t v) (hd : DataW.Trod enc P w base sp held t v d ps) : ∃ z, p.has z ∧ rel (wd w) z v := by
  obtain ⟨fuel, hf⟩ := hd
  unfold paOf at hp
  split at hp
  · cases hp
  rename_i i hi
  have ht := hE t i hi
  split at hp
  · rename_i fs hk
    split at hp
    · rename_i cs hcs
      cases hp
      obtain ⟨d, h1, h2⟩ := ht.und
      rw [hk] at h2
      obtain ⟨fields, rfl, h2⟩ := h2
      unfold Value.okWide at hv
      rw [h1] at hv
      obtain ⟨cells, rfl, _, _⟩ := hv
      obtain ⟨vs, h3, h4, _⟩ := shs_ok hE 20 fuel t cs _ _ hcs hf
      exact ⟨.agg (.any vs), ⟨vs, rfl, h3⟩, cells.toList, by simp, h4⟩
    · cases hp
  · cases hp
  · rename_i n1 n2
    split at hp
    · rename_i c hcs
      cases hp
      have hna : ∀ cs, v ≠ .agg cs := by
        obtain ⟨d, h1, h2⟩ := ht.und
        refine cellOk_notAgg (fun fs h => ?_) (fun n e h => ?_) hv
        · rw [h] at h1; cases h1
          cases hk : i.kind <;> rw [hk] at h2 <;> simp [KindOk] at h2
          exact n1 _ hk
        · rw [h] at h1; cases h1
          cases hk : i.kind <;> rw [hk] at h2 <;> simp [KindOk] at h2
          exact n2 _ _ hk
      have hcells : v.cells.toList = [v] := by
        unfold Value.cells
        split
        · exact absurd rfl (hna _)
        · rfl
      rw [hcells] at hf
      obtain ⟨vs, ⟨z, q, rfl, h3, h3'⟩, ⟨u, q', he, h4, h4'⟩, _⟩ := shs_ok hE 20 fuel t _ _ _ hcs hf
      cases he
      exact ⟨z, h3, h4⟩
    · cases hp

theorem pasOf_ok (hE : EnvOk E P) {r : Reach} {b : Nat} : ∀ {ts : List TypeId} {pas : List Pa} {vs : List Value} {ds : List (DataW H)} {ps : List MemPlace}, pasOf E.T ts = some pas →
    (∀ (j : Nat) t v, ts[j]? = some t → vs[j]? = some v → Value.okWide P w r b t v) → DataW.TrodAll enc P w base sp held ts vs ds ps → ∃ zs, pasHas pas zs ∧ relL (wd w) zs vs
  | [], _, [], _, _, hp, _, _ => by cases hp; exact ⟨[], rfl, rfl⟩
  | t :: ts, pas, v :: vs, d :: ds, ps, hp, hv, ⟨p, q, hd, hr, e⟩ => by
    simp only [pasOf] at hp
    split at hp
    · rename_i p' ps' h1 h2
      cases hp
      obtain ⟨z, h3, h4⟩ := paOf_ok hE h1 (hv 0 t v rfl rfl) hd
      obtain ⟨zs, h5, h6⟩ := pasOf_ok hE h2 (fun j t v h h' => hv (j + 1) t v (by simpa using h) (by simpa using h')) hr
      exact ⟨z :: zs, ⟨z, zs, rfl, h3, h5⟩, v, vs, rfl, h4, h6⟩
    · cases hp

theorem trodAll_below (hl : laidOutB P = true) {W W' : World} (hb : Below W.heap.size W W') : ∀ {ts : List TypeId} {vs : List Value} {ds : List (DataW H)} {ps : List MemPlace},
    ts.all (fun t => P.readableRec t && decide (t < P.types.size)) = true → DataW.TrodAll enc P W 0 (fun _ => true) true ts vs ds ps → (∀ x ∈ ps, x.block < W.heap.size) → DataW.TrodAll enc P W' 0 (fun b => decide (b < W.heap.size)) true ts vs ds ps
  | [], [], [], _, _, h, _ => h
  | t :: ts, v :: vs, d :: ds, _, ht, ⟨p, q, h1, h2, e⟩, hlt => by
    subst e
    simp only [List.all_cons, Bool.and_eq_true, decide_eq_true_eq] at ht
    exact ⟨p, q, Below.trod hl ht.1.1 ht.1.2 h1 hb (fun x hx => hlt x (List.mem_append_left _ hx)), trodAll_below hl hb (by simpa using ht.2) h2 (fun x hx => hlt x (List.mem_append_right _ hx)), rfl⟩

/-- A LAW'S CONTRACT. -/
theorem law_contract (hE : EnvOk E P) {f : FuncId} {fn : Func} {sp : Spec} (hsp : SpecOk P E f sp) {s : ChangeSpec} {pas : List Pa} {tb : TypeId} {apart fresh handsOn : Bool}
    (hl : laidOutB P = true) (hr : fn.params.toList.all (fun t => P.readableRec t && decide (t < P.types.size)) = true) (hp : pasOf E.T fn.params.toList = some pas)
    (hres : fn.resultTypes = #[tb]) (htb : P.underlying tb = some .bool) (hvars : s.vars = [])
    (hfn : ∀ (H : Type) (ds : List (DataW H)), ds.length = pas.length → s.fn H ds = { results := [.lit (.bool true)], args := ds })
    (law : ∀ vs, pasHas pas vs → sp vs AV some = some (.bool true))
    {W : World} {b : Nat} {args : Array Value} {ds gs : List (DataW H)} {before : List MemPlace}
    (hval : ∀ (j : Nat) t v, fn.params[j]? = some t → args[j]? = some v → Value.okWide P W .any b t v)
    (hW : DataW.Whole enc P fn.params.toList s.vars apart W args.toList ds gs before) (hg : GlobOk E (fun _ => False) W) :
    Calls P f args W fun e W' => ∃ v, e = .returned v ∧ s.post enc P fn apart fresh handsOn false W args v W' := by
  have hW' := hW
  obtain ⟨p, q, hA, hV, rfl, hfz, hnd⟩ := hW
  obtain ⟨zs, h1, h2⟩ := pasOf_ok hE hp (fun j t v h h' => hval j t v (by simpa using h) (by simpa using h')) hA
  have h3 := law zs h1
  obtain ⟨_, h4⟩ := hsp.2 (fun _ => False) W zs args.toList (.bool true) (fun _ h => h.elim) hg h2 h3
  have e : args.toList.toArray = args := by simp
  rw [e] at h4
  refine h4.mono ?_
  rintro e W' ⟨u, rfl, hb, hu⟩
  have hu : u = .bool true := hu
  subst hu
  have hgs : gs = [] ∧ q = [] := by
    rw [hvars] at hV
    cases gs with
    | nil => exact ⟨rfl, hV⟩
    | cons g r => exact absurd hV (by intro h; cases h)
  obtain ⟨rfl, rfl⟩ := hgs
  have hlen : ds.length = pas.length := by
    have len1 : ∀ {ts : List TypeId} {pas : List Pa}, pasOf E.T ts = some pas → pas.length = ts.length := by
      intro ts
      induction ts with
      | nil => intro pas h; cases h; rfl
      | cons t ts ih =>
        intro pas h
        simp only [pasOf] at h
        split at h
        · rename_i p' ps' h1 h2
          cases h
          simp [ih h2]
        · cases h
    have len2 : ∀ {ts : List TypeId} {vs : List Value} {ds : List (DataW H)} {ps : List MemPlace}, DataW.TrodAll enc P W 0 (fun _ => true) true ts vs ds ps → ds.length = ts.length := by
      intro ts
      induction ts with
      | nil =>
        intro vs ds ps h
        cases vs <;> cases ds <;> first | rfl | exact h.elim
      | cons t ts ih =>
        intro vs ds ps h
        cases vs with
        | nil => exact h.elim
        | cons v vs =>
          cases ds with
          | nil => exact h.elim
          | cons d ds =>
            obtain ⟨_, _, _, h2, _⟩ := h
            simp [ih h2]
    rw [len1 hp, len2 hA]
  have hs : s.fn H (ds ++ []) = { results := [.lit (.bool true)], args := ds } := by rw [List.append_nil]; exact hfn H ds hlen
  refine ⟨_, rfl, ds, [], _, [], p, [], hW', ?_, ?_, ?_, hb.frame _, fun h => by cases h⟩
  · rw [hs, hres]
    exact ⟨[], [], RowKit.shut_bool htb true, rfl, rfl⟩
  · rw [hs]
    exact trodAll_below hl hb hr hA hA.lt
  · rw [hs, hvars]; rfl
end
end Go.Ev
