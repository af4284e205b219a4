/- What a law's arguments may be, told by the types' table; and that what a row's reading meets is told so. -/
import Derived.Test.YtllgdcepgelahaaDoorEv20
import Derived.Carry
import Derived.ChangeShapes
import Derived.ChangeSlices
namespace Go.Ev
open Go.RowKit (Below)

mutual
def Sh.has : Sh → AV → Prop
  | .int k, v => ∃ n, v = .int k n ∧ k.has n
  | .bool, v => ∃ b, v = .bool b
  | .str, v => ∃ s : ByteArray, v = .str s ∧ s.size ≤ maxLen
  | .ints k, v => ∃ xs, v = .fsl (.ints k xs) ∧ xs.length ≤ maxLen ∧ ∀ x ∈ xs, k.has x
  | .bools, v => ∃ xs, v = .fsl (.bools xs) ∧ xs.length ≤ maxLen
  | .rows cs, v => ∃ rs, v = .fsl (.rows cs.length rs) ∧ rs.length ≤ maxLen ∧ ∀ r ∈ rs, hasL cs r
def hasL : List Sh → List AV → Prop
  | [], vs => vs = []
  | c :: cs, vs => ∃ v r, vs = v :: r ∧ c.has v ∧ hasL cs r
end

theorem hasL_append : ∀ {cs ds : List Sh} {us vs : List AV}, hasL cs us → hasL ds vs → hasL (cs ++ ds) (us ++ vs)
  | [], _, _, _, h, h2 => by have h : _ = [] := h; subst h; exact h2
  | _ :: _, _, _, _, ⟨v, r, e, h1, h2⟩, h3 => ⟨v, r ++ _, by rw [e]; rfl, h1, hasL_append h2 h3⟩
theorem hasL_length : ∀ {cs : List Sh} {us : List AV}, hasL cs us → us.length = cs.length
  | [], _, h => by have h : _ = [] := h; subst h; rfl
  | _ :: _, _, ⟨v, r, e, _, h2⟩ => by rw [e]; simp [hasL_length h2]

section
variable {P : Program} {E : Env} {w : World} {H : Type} {enc : TypeId × Value → H} {base : Nat} {sp : Nat → Bool} {held : Bool}
/-- the world alone -/
abbrev wd (w : World) : Cx := ⟨fun _ => none, fun _ => False, w⟩

theorem cell_spot {a : Addr} {v : Value} (h : w.cell? a = some v) : a.spot = none := by
  unfold World.cell? at h
  split at h
  · cases hs : a.spot with
    | none => rfl
    | some s => simp [hs] at h
  · cases h
theorem add_add (a : Addr) (i j : Nat) : (a.add i).add j = a.add (i + j) := by
  unfold Addr.add
  by_cases h1 : i = 0
  · subst h1; simp
  · by_cases h2 : j = 0
    · subst h2; simp
    · simp [h1, h2, Nat.add_assoc]
theorem cellsAt_spot {a : Addr} {us : List Value} (h : cellsAt w a us) : us = [] ∨ a.spot = none := by
  cases us with
  | nil => exact .inl rfl
  | cons u r =>
    right
    have := h 0 u rfl
    simpa [Addr.add] using cell_spot this
theorem cellsAt_append {a : Addr} {us vs : List Value} (h : cellsAt w a us) (h2 : cellsAt w (a.add us.length) vs) : cellsAt w a (us ++ vs) := by
  intro i u hi
  by_cases hl : i < us.length
  · rw [List.getElem?_append_left hl] at hi; exact h i u hi
  · rw [List.getElem?_append_right (by omega)] at hi
    have := h2 _ _ hi
    rwa [add_add, show us.length + (i - us.length) = i by omega] at this
theorem mapM_at {α β : Type} {f : α → Option β} : ∀ {l : List α} {r : List β}, l.mapM f = some r → r.length = l.length ∧ ∀ (i : Nat) (a : α), l[i]? = some a → ∃ b, r[i]? = some b ∧ f a = some b
  | [], r, h => by simp only [List.mapM_nil, Option.pure_def, Option.some.injEq] at h; subst h; simp
  | x :: l, r, h => by
    simp only [List.mapM_cons, Option.bind_eq_bind, Option.bind_eq_some_iff, Option.pure_def, Option.some.injEq] at h
    obtain ⟨b, hb, r', hr', rfl⟩ := h
    obtain ⟨h1, h2⟩ := mapM_at hr'
    refine ⟨by simp [h1], fun i a ha => ?_⟩
    cases i with
    | zero => simp only [List.getElem?_cons_zero, Option.some.injEq] at ha; subst ha; exact ⟨b, rfl, hb⟩
    | succ i => exact h2 i a (by simpa using ha)
theorem cells_at {a : Addr} {n : Nat} {cs : List Value} (h : w.cells? base a n = some cs) : cs.length = n ∧ cellsAt w a cs := by
  unfold World.cells? at h
  split at h
  · obtain ⟨h1, h2⟩ := mapM_at h
    refine ⟨by simpa using h1, fun i u hi => ?_⟩
    have hl : i < n := by have := (List.getElem?_eq_some_iff.1 hi).1; simp at h1; omega
    obtain ⟨b, hb, hf⟩ := h2 i i (by simp [hl])
    rw [hi] at hb; cases hb; exact hf
  · cases h

theorem wf_has {k : IntKind} {n : Int} (h : (Lit.int k n).wf = true) : k.has n := by
  simp only [Lit.wf, Bool.and_eq_true, decide_eq_true_eq] at h; exact h

/-- rows of structs, one behind the other -/
theorem rows_of {a : Addr} {sz : Nat} {cs : List Sh} (hsz : cs.length = sz) : ∀ (n : Nat),
    (∀ i, i < n → ∃ vs us, hasL cs vs ∧ relL (wd w) vs us ∧ us.length = sz ∧ cellsAt w (a.add (i * sz)) us) →
    ∃ rs us, rs.length = n ∧ (∀ r ∈ rs, hasL cs r) ∧ relR (wd w) sz rs us ∧ us.length = n * sz ∧ cellsAt w a us := by
  intro n
  induction n generalizing a with
  | zero => intro _; exact ⟨[], [], rfl, by simp, rfl, by simp, fun i u hi => by simp at hi⟩
  | succ n ih =>
    intro h
    obtain ⟨vs, us, h1, h2, h3, h4⟩ := h 0 (by omega)
    obtain ⟨rs, us', h5, h6, h7, h8, h9⟩ := ih (a := a.add sz) fun i hi => by
      obtain ⟨vs, us, h1, h2, h3, h4⟩ := h (i + 1) (by omega)
      exact ⟨vs, us, h1, h2, h3, by rwa [add_add, show sz + i * sz = (i + 1) * sz by rw [Nat.succ_mul]; omega]⟩
    refine ⟨vs :: rs, us ++ us', by simp [h5], ?_, ⟨us, us', rfl, by rw [hasL_length h1, hsz], h2, h7⟩, by rw [List.length_append, h3, h8, Nat.succ_mul]; omega, ?_⟩
    · intro r hr
      rcases List.mem_cons.1 hr with rfl | hr
      · exact h1
      · exact h6 r hr
    · have e : a.add (0 * sz) = a := by simp [Addr.add]
      rw [e] at h4
      exact cellsAt_append h4 (by rw [h3]; exact h9)

theorem cellsOf_eq (hE : EnvOk E P) {t : TypeId} {i : TI} (hi : E.T t = some i) : P.cellsOf t = i.size := by
  have h := (hE t i hi).info
  cases hq : P.info? t with
  | none => rw [hq] at h; cases h
  | some q =>
    rw [hq] at h
    simp only [Option.map_some, Option.some.injEq, Prod.mk.injEq] at h
    unfold Program.cellsOf
    rw [hq]
    exact h.2.1

theorem shF_ok (hE : EnvOk E P) {f : TypeId → Option (List Sh)} {m : Nat}
    (ih : ∀ (t : TypeId) (cs : List Sh) (us : List Value) (x : DataW H × List MemPlace), f t = some cs → DataW.trod enc P w base sp held m t us = some x → ∃ vs, hasL cs vs ∧ relL (wd w) vs us ∧ us.length = cs.length) :
    ∀ (fs : List (TypeId × Nat)) (o : Nat) (cs : List Sh) (us : List Value), shF E.T f o fs = some cs →
      (∀ (j : Nat) (q : TypeId × Nat), fs[j]? = some q → ∃ x, DataW.trod enc P w base sp held m q.1 ((us.drop q.2).take (P.cellsOf q.1)) = some x) →
      us.length = o + cs.length → ∃ vs, hasL cs vs ∧ relL (wd w) vs (us.drop o)
  | [], o, cs, us, hs, _, hl => by
    simp only [shF, Option.some.injEq] at hs
    subst hs
    refine ⟨[], rfl, ?_⟩
    show us.drop o = []
    simp at hl
    simp [hl]
  | (t, off) :: r, o, cs, us, hs, hx, hl => by
    simp only [shF] at hs
    split at hs
    · rename_i c1 i hc1 hi
      split at hs
      · rename_i hb
        rw [Bool.and_eq_true] at hb
        obtain ⟨hb1, hb2⟩ := hb
        obtain rfl := Nat.eq_of_beq_eq_true hb1
        have hsz := Nat.eq_of_beq_eq_true hb2
        split at hs
        · rename_i c2 hc2
          simp only [Option.some.injEq] at hs
          subst hs
          obtain ⟨x, hx0⟩ := hx 0 _ rfl
          obtain ⟨vs1, h1, h2, h3⟩ := ih t c1 _ x hc1 hx0
          obtain ⟨vs2, h4, h5⟩ := shF_ok hE ih r (off + c1.length) c2 us hc2 (fun j q hq => hx (j + 1) q (by simpa using hq)) (by rw [hl, List.length_append]; omega)
          refine ⟨vs1 ++ vs2, hasL_append h1 h4, ?_⟩
          have e : P.cellsOf t = c1.length := by rw [cellsOf_eq hE hi, ← hsz]
          have h2' : relL (wd w) vs1 ((us.drop off).take c1.length) := by rw [← e]; exact h2
          have := relL_append h2' h5
          rwa [show us.drop (off + c1.length) = (us.drop off).drop c1.length by rw [List.drop_drop], List.take_append_drop] at this
        · cases hs
      · cases hs
    · cases hs

theorem shs_ok (hE : EnvOk E P) : ∀ (n m : Nat) (t : TypeId) (cs : List Sh) (us : List Value) (x : DataW H × List MemPlace), shs E.T n t = some cs → DataW.trod enc P w base sp held m t us = some x →
    ∃ vs, hasL cs vs ∧ relL (wd w) vs us ∧ us.length = cs.length
  | 0, _, _, _, _, _, hs, _ => by cases hs
  | n + 1, m, t, cs, us, x, hs, hx => by
    simp only [shs] at hs
    split at hs
    · cases hs
    rename_i i hi
    have ht := hE t i hi
    split at hs
    · rename_i k hk
      cases hs
      obtain ⟨z, rfl, _, hw⟩ := DataW.trod_int (ht.und_int hk) hx
      exact ⟨[.int k z], ⟨_, _, rfl, ⟨z, rfl, wf_has hw⟩, rfl⟩, ⟨_, _, rfl, rfl, rfl⟩, rfl⟩
    · rename_i hk
      cases hs
      obtain ⟨b, rfl, _⟩ := DataW.trod_bool (ht.und_bool hk) hx
      exact ⟨[.bool b], ⟨_, _, rfl, ⟨b, rfl⟩, rfl⟩, ⟨_, _, rfl, rfl, rfl⟩, rfl⟩
    · rename_i hk
      cases hs
      obtain ⟨s, rfl, _, hl⟩ := DataW.trod_string (ht.und_str hk) hx
      exact ⟨[.str s], ⟨_, _, rfl, ⟨s, rfl, hl⟩, rfl⟩, ⟨_, _, rfl, rfl, rfl⟩, rfl⟩
    · rename_i fs hk
      split at hs
      · rename_i cs' hf
        split at hs
        · rename_i hb
          cases hs
          have hb := Nat.eq_of_beq_eq_true hb
          obtain ⟨d, h1, h2⟩ := ht.und
          rw [hk] at h2
          obtain ⟨fields, rfl, h2⟩ := h2
          obtain ⟨xs, m', rfl, _, hl, _, hxs⟩ := DataW.trod_struct h1 hx
          have hlen : us.length = cs.length := by rw [hl, cellsOf_eq hE hi, ← hb]
          obtain ⟨vs, h3, h4⟩ := shF_ok hE (m := m') (fun t cs us x h1 h2 => shs_ok hE n m' t cs us x h1 h2) fs 0 cs us hf (fun j q hq => by
            rw [← h2] at hq
            simp only [List.getElem?_map, Option.map_eq_some_iff] at hq
            obtain ⟨f, hf, rfl⟩ := hq
            have := hxs j f (by simpa using hf)
            have hj : j < xs.length := by
              have := (List.getElem?_eq_some_iff.1 hf).1
              simp at this
              omega
            exact ⟨xs[j], by rw [this]; simp [hj]⟩) (by simpa using hlen)
          exact ⟨vs, h3, by simpa using h4, hlen⟩
        · cases hs
      · cases hs
    · rename_i e hk
      split at hs
      · cases hs
      rename_i ie hie
      have hte := hE e ie hie
      have hce := cellsOf_eq hE hie
      split at hs
      · rename_i k hke
        split at hs
        · rename_i hb
          cases hs
          have hb := Nat.eq_of_beq_eq_true hb
          rcases ChangeShapes.open_ints (ht.und_slice hk) (hte.und_int hke) (by rw [hce, hb]) hx with ⟨rfl, _⟩ | ⟨a, len, cap, zs, rfl, _, hlc, hcm, hzl, _, hcell, hwf⟩
          · exact ⟨[.fsl (.ints k [])], ⟨_, _, rfl, ⟨[], rfl, by simp, by simp⟩, rfl⟩, ⟨_, _, rfl, ⟨none, 0, [], rfl, Nat.le_refl _, rfl, by simp [Blk.num], .inl rfl⟩, rfl⟩, rfl⟩
          · have hle : len ≤ zs.length := by rw [hzl]; split <;> omega
            have hnum : (Blk.ints k (zs.take len)).num = len := by simp [Blk.num]; omega
            have hat : cellsAt w a ((zs.take len).map (Value.int k)) := by
              intro i u hi
              simp only [List.getElem?_map, List.getElem?_take, Option.map_eq_some_iff] at hi
              obtain ⟨z, hz, rfl⟩ := hi
              split at hz
              · rename_i hil
                rw [hcell i (by omega), List.getD_eq_getElem?_getD, hz]; rfl
              · cases hz
            refine ⟨[.fsl (.ints k (zs.take len))], ⟨_, _, rfl, ⟨_, rfl, by simp; omega, fun x hx => wf_has (hwf x (List.mem_of_mem_take hx))⟩, rfl⟩, ⟨_, _, rfl, ⟨some a, cap, _, by rw [hnum], by rw [hnum]; exact hlc, rfl, by rw [hnum]; simp [Blk.esz]; omega, ?_⟩, rfl⟩, rfl⟩
            rcases cellsAt_spot hat with h | h
            · exact .inl h
            · exact .inr ⟨a, rfl, h, fun h => h, hat⟩
        · cases hs
      · rename_i hke
        split at hs
        · rename_i hb
          cases hs
          have hb := Nat.eq_of_beq_eq_true hb
          rcases DataW.trod_slice (ht.und_slice hk) hx with ⟨rfl, _⟩ | ⟨a, len, cap, elems, rest, m', rfl, rfl, _, _, hlc, hcm, hel, hat, _⟩
          · exact ⟨[.fsl (.bools [])], ⟨_, _, rfl, ⟨[], rfl, by simp⟩, rfl⟩, ⟨_, _, rfl, ⟨none, 0, [], rfl, Nat.le_refl _, rfl, by simp [Blk.num], .inl rfl⟩, rfl⟩, rfl⟩
          · have hall : ∀ i, i < len → ∃ b, w.cell? (a.add i) = some (.bool b) := by
              intro i hi
              have h1 := hat i hi
              rw [List.getElem?_eq_getElem (by omega), Option.bind_eq_some_iff] at h1
              obtain ⟨cs, h2, h3⟩ := h1
              obtain ⟨b, rfl, _⟩ := DataW.trod_bool (hte.und_bool hke) h3
              obtain ⟨_, h4⟩ := cells_at h2
              refine ⟨b, ?_⟩
              have := h4 0 _ rfl
              rwa [hce, hb, Nat.mul_one, add_add, Nat.add_zero] at this
            have hex : ∀ n, n ≤ len → ∃ bs : List Bool, bs.length = n ∧ ∀ i b, bs[i]? = some b → w.cell? (a.add i) = some (.bool b) := by
              intro n
              induction n with
              | zero => exact fun _ => ⟨[], rfl, by simp⟩
              | succ n ih =>
                intro hn
                obtain ⟨bs, h1, h2⟩ := ih (by omega)
                obtain ⟨b, h3⟩ := hall n (by omega)
                refine ⟨bs ++ [b], by simp [h1], fun i b' hi => ?_⟩
                by_cases hlt : i < bs.length
                · rw [List.getElem?_append_left hlt] at hi; exact h2 i b' hi
                · rw [List.getElem?_append_right (by omega)] at hi
                  have : i = n := by
                    have := (List.getElem?_eq_some_iff.1 hi).1
                    simp at this
                    omega
                  subst this
                  simp [h1] at hi
                  subst hi
                  exact h3
            obtain ⟨bs, hbl, hbs⟩ := hex len (Nat.le_refl _)
            have hnum : (Blk.bools bs).num = len := by simp [Blk.num, hbl]
            have hat : cellsAt w a (bs.map Value.bool) := by
              intro i u hi
              simp only [List.getElem?_map, Option.map_eq_some_iff] at hi
              obtain ⟨z, hz, rfl⟩ := hi
              exact hbs i z hz
            refine ⟨[.fsl (.bools bs)], ⟨_, _, rfl, ⟨_, rfl, by omega⟩, rfl⟩, ⟨_, _, rfl, ⟨some a, cap, _, by rw [hnum], by rw [hnum]; exact hlc, rfl, by rw [hnum]; simp [Blk.esz, hbl], ?_⟩, rfl⟩, rfl⟩
            rcases cellsAt_spot hat with h | h
            · exact .inl h
            · exact .inr ⟨a, rfl, h, fun h => h, hat⟩
        · cases hs
      · rename_i fs hke
        split at hs
        · rename_i cs' hcs
          split at hs
          · rename_i hb
            cases hs
            rw [Bool.and_eq_true, Nat.blt_eq] at hb
            obtain ⟨hb1, hb2⟩ := hb
            have hb1 := Nat.eq_of_beq_eq_true hb1
            rcases DataW.trod_slice (ht.und_slice hk) hx with ⟨rfl, _⟩ | ⟨a, len, cap, elems, rest, m', rfl, rfl, _, _, hlc, hcm, hel, hat, _⟩
            · exact ⟨[.fsl (.rows cs'.length [])], ⟨_, _, rfl, ⟨[], rfl, by simp, by simp⟩, rfl⟩, ⟨_, _, rfl, ⟨none, 0, [], rfl, Nat.le_refl _, ⟨hb2, rfl⟩, by simp [Blk.num], .inl rfl⟩, rfl⟩, rfl⟩
            · obtain ⟨rs, us, h1, h2, h3, h4, h5⟩ := rows_of (w := w) (a := a) (cs := cs') (sz := cs'.length) rfl len fun i hi => by
                have h1 := hat i hi
                rw [List.getElem?_eq_getElem (by omega), Option.bind_eq_some_iff] at h1
                obtain ⟨cs, h2, h3⟩ := h1
                obtain ⟨vs, h4, h5, h6⟩ := shs_ok hE n m' e cs' cs _ hcs h3
                obtain ⟨_, h7⟩ := cells_at h2
                exact ⟨vs, cs, h4, h5, h6, by rw [hb1, ← hce]; exact h7⟩
              have hnum : (Blk.rows cs'.length rs).num = len := by simp [Blk.num, h1]
              refine ⟨[.fsl (.rows cs'.length rs)], ⟨_, _, rfl, ⟨_, rfl, by omega, h2⟩, rfl⟩, ⟨_, _, rfl, ⟨some a, cap, us, by rw [hnum], by rw [hnum]; exact hlc, ⟨hb2, h3⟩, by rw [hnum]; simp [Blk.esz, h4], ?_⟩, rfl⟩, rfl⟩
              rcases cellsAt_spot h5 with h | h
              · exact .inl h
              · exact .inr ⟨a, rfl, h, fun h => h, h5⟩
          · cases hs
        · cases hs
      · cases hs
    · cases hs
end
end Go.Ev
