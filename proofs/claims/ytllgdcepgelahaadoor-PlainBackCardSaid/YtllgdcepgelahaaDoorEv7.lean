/- How a state goes on where one block is made, written, or takes another's place. -/
import Derived.Test.YtllgdcepgelahaaDoorEv6
namespace Go.Ev
section
variable {E : Env} {X : Nat → Prop} {h h1 : H} {m : Nat → Option Nat} {w w1 : World}

def upd (m : Nat → Option Nat) (slot : Nat) (g : Option Nat) : Nat → Option Nat := fun b => if b = slot then g else m b

/-- One block (slot) is new or anew: its place is g1; Kd: blocks that go. -/
structure Turn (E : Env) (X : Nat → Prop) (h : H) (m : Nat → Option Nat) (w : World) (slot : Nat) (c1 : Blk) (g1 : Option Nat) (Kd : Nat → Prop) (h1 : H) (w1 : World) : Prop where
  good : Good E X h m w
  blk : ∀ b c, blkAt h1 b = some c → (b = slot ∧ c = c1) ∨ (b ≠ slot ∧ ¬ Kd b ∧ blkAt h b = some c)
  live : ∀ b c, h1[b]? = some (.live c) → b = slot ∨ (b ≠ slot ∧ h[b]? = some (.live c))
  lt : slot < h1.length
  len : h.length ≤ h1.length
  ms : m slot = none ∨ m slot = g1
  place : ∀ q, g1 = some q → w.heap.size ≤ q ∨ ∃ b0 c0, h[b0]? = some (.live c0) ∧ m b0 = some q ∧ (b0 = slot ∨ Kd b0)
  same : ∀ q, q < w.heap.size → g1 ≠ some q → w1.heap[q]? = w.heap[q]?
  shape : ∀ q, g1 = some q → ∀ (arr : Array Value) (T : TypeId), w.heap[q]? = some (.cells arr T (0, 0)) → ∃ arr' : Array Value, w1.heap[q]? = some (.cells arr' T (0, 0)) ∧ arr'.size = arr.size
  os : w1.os = w.os
  tape : w1.tape = w.tape
  output : w1.output = w.output
  size : w.heap.size ≤ w1.heap.size

variable {slot : Nat} {c1 : Blk} {g1 : Option Nat} {Kd : Nat → Prop}

theorem Turn.ext (t : Turn E X h m w slot c1 g1 Kd h1 w1) : ∀ b g, m b = some g → upd m slot g1 b = some g := by
  intro b g hb
  unfold upd
  split
  · rename_i e; subst e
    rcases t.ms with h' | h' <;> rw [h'] at hb
    · cases hb
    · exact hb
  · exact hb
theorem Turn.L (t : Turn E X h m w slot c1 g1 Kd h1 w1) : ∀ g, Ev.L h1 (upd m slot g1) g → Ev.L h m g ∨ w.heap.size ≤ g := by
  rintro q ⟨b, c, hb, hm⟩
  rcases t.live b c hb with rfl | ⟨hne, hb'⟩
  · have hm : g1 = some q := by simpa [upd] using hm
    rcases t.place q hm with h' | ⟨b0, c0, h2, h3, _⟩
    · exact .inr h'
    · exact .inl ⟨b0, c0, h2, h3⟩
  · exact .inl ⟨b, c, hb', by simpa [upd, hne] using hm⟩
theorem Turn.frame (t : Turn E X h m w slot c1 g1 Kd h1 w1) : ∀ g, g < w.heap.size → ¬ Ev.L h m g → w1.heap[g]? = w.heap[g]? := by
  intro q hq hl
  refine t.same q hq fun e => ?_
  rcases t.place q e with h' | ⟨b0, c0, h2, h3, _⟩
  · omega
  · exact hl ⟨b0, c0, h2, h3⟩
theorem Turn.shapes (t : Turn E X h m w slot c1 g1 Kd h1 w1) : ∀ (g : Nat) (arr : Array Value) (T : TypeId), w.heap[g]? = some (.cells arr T (0, 0)) → ∃ arr' : Array Value, w1.heap[g]? = some (.cells arr' T (0, 0)) ∧ arr'.size = arr.size := by
  intro q arr T hq
  by_cases e : g1 = some q
  · exact t.shape q e arr T hq
  · have hl := (Array.getElem?_eq_some_iff.1 hq).1
    exact ⟨arr, by rw [t.same q hl e, hq], rfl⟩
theorem Turn.step (t : Turn E X h m w slot c1 g1 Kd h1 w1) : Step (cx X h m w) (cx X h1 (upd m slot g1) w1) where
  m := t.ext
  wr := fun g hg hw => by
    rcases hw with hx | hl
    · exact .inl hx
    · rcases t.L g hl with h' | h'
      · exact .inr h'
      · exact absurd hg (by simp only [cx]; omega)
  keep := fun g hg hw => t.frame g hg (fun hl => hw (.inr hl))
  shape := t.shapes

theorem Turn.adv (t : Turn E X h m w slot c1 g1 Kd h1 w1)
    (hnew : Step (cx X h m w) (cx X h1 (upd m slot g1) w1) → ∃ us, relB (cx X h1 (upd m slot g1) w1) c1 us ∧ (us = [] ∧ g1 = none ∨ ∃ (q : Nat) (arr : Array Value) (T : TypeId), g1 = some q ∧ w1.heap[q]? = some (.cells arr T (0, 0)) ∧ us.length ≤ arr.size ∧ ∀ (i : Nat) u, us[i]? = some u → arr[i]? = some u)) :
    Adv E X h m w h1 (upd m slot g1) w1 := by
  have g := t.good
  have hold : ∀ b c q, b ≠ slot → ¬ Kd b → blkAt h b = some c → m b = some q → g1 ≠ some q := by
    intro b c q hne hk hb hm e
    rcases t.place q e with h' | ⟨b0, c0, h2, h3, h4⟩
    · have := L_blk g hb hm; omega
    · have := g.inj b b0 c c0 q hb (blkAt_live h2) hm h3
      subst this
      rcases h4 with h4 | h4
      · exact hne h4
      · exact hk h4
  have hgl : ∀ q c, E.G q = some c → g1 ≠ some q := by
    intro q c hq e
    rcases t.place q e with h' | ⟨b0, c0, h2, h3, _⟩
    · have := (g.gl q c hq).1; omega
    · have := (g.own b0 c0 q (blkAt_live h2) h3).2; rw [hq] at this; cases this
  refine ⟨⟨?_, ?_, ?_, ?_, ?_, ?_⟩, t.ext, t.L, t.frame, t.shapes, t.os, t.tape, t.output, t.size, t.len⟩
  · intro b c hb
    rcases t.blk b c hb with ⟨rfl, rfl⟩ | ⟨hne, hk, hb'⟩
    · obtain ⟨us, h2, h3⟩ := hnew t.step
      exact ⟨us, h2, h3.imp (fun ⟨a, b⟩ => ⟨a, by simp [upd, b]⟩) fun ⟨q, arr, T, h4, h5⟩ => ⟨q, arr, T, by simp [upd, h4], h5⟩⟩
    · obtain ⟨us, h2, h3⟩ := g.hp b c hb'
      refine ⟨us, relB_step t.step c us h2, ?_⟩
      rcases h3 with ⟨h4, h5⟩ | ⟨q, arr, T, h4, h5, h6⟩
      · exact .inl ⟨h4, by simp [upd, hne, h5]⟩
      · have hq := (Array.getElem?_eq_some_iff.1 h5).1
        exact .inr ⟨q, arr, T, by simp [upd, hne, h4], by rw [t.same q hq (hold b c q hne hk hb' h4), h5], h6⟩
  · intro b b' c c' q hb hb' hm hm'
    rcases t.blk b c hb with ⟨rfl, rfl⟩ | ⟨hne, hk, hb2⟩
    · rcases t.blk b' c' hb' with ⟨rfl, rfl⟩ | ⟨hne', hk', hb2'⟩
      · rfl
      · exact absurd (by simpa [upd] using hm) (hold b' c' q hne' hk' hb2' (by simpa [upd, hne'] using hm'))
    · rcases t.blk b' c' hb' with ⟨rfl, rfl⟩ | ⟨hne', hk', hb2'⟩
      · exact absurd (by simpa [upd] using hm') (hold b c q hne hk hb2 (by simpa [upd, hne] using hm))
      · exact g.inj b b' c c' q hb2 hb2' (by simpa [upd, hne] using hm) (by simpa [upd, hne'] using hm')
  · intro b hb
    have h2 := t.lt
    have h3 := t.len
    simp only [upd, if_neg (show ¬ b = slot by omega)]
    exact g.hi b (by omega)
  · intro b c q hb hm
    rcases t.blk b c hb with ⟨rfl, rfl⟩ | ⟨hne, hk, hb'⟩
    · rcases t.place q (by simpa [upd] using hm) with h' | ⟨b0, c0, h2, h3, _⟩
      · refine ⟨fun hx => ?_, ?_⟩
        · have := g.xs q hx; omega
        · cases hq : E.G q with
          | none => rfl
          | some c => have := (g.gl q c hq).1; omega
      · exact g.own b0 c0 q (blkAt_live h2) h3
    · exact g.own b c q hb' (by simpa [upd, hne] using hm)
  · intro q hq
    exact Nat.lt_of_lt_of_le (g.xs q hq) t.size
  · intro q c hq
    obtain ⟨h2, h3, us, h4, h5⟩ := g.gl q c hq
    refine ⟨Nat.lt_of_lt_of_le h2 t.size, h3, us, relB_step t.step.z c us h4, ?_⟩
    intro i u hi
    rw [← h5 i u hi]
    exact World.cell?_of_block (by rw [block_add]; exact t.same q h2 (hgl q c hq))

/-! ### the ways -/
theorem hput_get {slot : Nat} {b : HB} (hs : slot ≤ h.length) (j : Nat) : (hput h slot b)[j]? = if j = slot then some b else h[j]? := by
  unfold hput
  split
  · rename_i hl
    rw [List.getElem?_set]
    split
    · rename_i e; subst e; simp
    · rename_i e; rw [if_neg (Ne.symm e)]
  · have e : slot = h.length := by omega
    subst e
    rw [List.getElem?_append]
    split
    · rw [if_neg (by omega)]
    · rename_i hj
      by_cases e : j = h.length
      · subst e; simp
      · rw [if_neg e, List.getElem?_eq_none (by simp; omega), List.getElem?_eq_none (by omega)]
theorem hput_len {slot : Nat} {b : HB} (hs : slot ≤ h.length) : h.length ≤ (hput h slot b).length ∧ slot < (hput h slot b).length := by
  unfold hput; split
  · simp; omega
  · simp; omega

/-- may a block be put there? -/
structure Free (h : H) (m : Nat → Option Nat) (slot : Nat) : Prop where
  le : slot ≤ h.length
  no : m slot = none
  dead : ∀ b, h[slot]? = some b → b = .dead

/-- a new block of cells -/
theorem adv_new {c : Blk} {us : List Value} {arr : Array Value} {T : TypeId} (g : Good E X h m w) (f : Free h m slot) (hc : relB (cx X h m w) c us) (ha : us.length ≤ arr.size ∧ ∀ (i : Nat) u, us[i]? = some u → arr[i]? = some u)
    (hw : w1.heap = w.heap.push (.cells arr T (0, 0))) (hos : w1.os = w.os) (ht : w1.tape = w.tape) (ho : w1.output = w.output) :
    Adv E X h m w (hput h slot (.live c)) (upd m slot (some w.heap.size)) w1 := by
  have hs : w1.heap.size = w.heap.size + 1 := by rw [hw]; simp
  have t : Turn E X h m w slot c (some w.heap.size) (fun _ => False) (hput h slot (.live c)) w1 := {
    good := g
    blk := fun b d hb => by
      unfold blkAt at hb
      rw [hput_get f.le] at hb
      by_cases e : b = slot
      · subst e; simp at hb; exact .inl ⟨rfl, hb.symm⟩
      · rw [if_neg e] at hb; exact .inr ⟨e, id, by unfold blkAt; exact hb⟩
    live := fun b d hb => by
      rw [hput_get f.le] at hb
      by_cases e : b = slot
      · exact .inl e
      · rw [if_neg e] at hb; exact .inr ⟨e, hb⟩
    lt := (hput_len f.le).2
    len := (hput_len f.le).1
    ms := .inl f.no
    place := fun q hq => .inl (by cases hq; exact Nat.le_refl _)
    same := fun q hq _ => by rw [hw, Array.getElem?_push, if_neg (by omega)]
    shape := fun q hq arr T hh => by cases hq; rw [Array.getElem?_eq_none (Nat.le_refl _)] at hh; cases hh
    os := hos, tape := ht, output := ho, size := by omega }
  refine t.adv fun S => ⟨us, relB_step S c us hc, .inr ⟨_, arr, T, rfl, ?_, ha⟩⟩
  rw [hw]; simp

/-- a block is written -/
theorem adv_set {b q : Nat} {c c' : Blk} {us' : List Value} {arr arr' : Array Value} {T : TypeId} (g : Good E X h m w) (hb : h[b]? = some (.live c)) (hm : m b = some q) (hq : w.heap[q]? = some (.cells arr T (0, 0)))
    (hc : relB (cx X h m w) c' us') (ha : us'.length ≤ arr'.size ∧ ∀ (i : Nat) u, us'[i]? = some u → arr'[i]? = some u) (hsz : arr'.size = arr.size)
    (hw : w1.heap[q]? = some (.cells arr' T (0, 0))) (hf : ∀ k, k ≠ q → w1.heap[k]? = w.heap[k]?) (hs : w1.heap.size = w.heap.size) (hos : w1.os = w.os) (ht : w1.tape = w.tape) (ho : w1.output = w.output) :
    Adv E X h m w (h.set b (.live c')) m w1 := by
  have hbl := (List.getElem?_eq_some_iff.1 hb).1
  have hl := (Array.getElem?_eq_some_iff.1 hq).1
  have t : Turn E X h m w b c' (some q) (fun _ => False) (h.set b (.live c')) w1 := {
    good := g
    blk := fun b' d hb' => by
      unfold blkAt at hb'
      rw [List.getElem?_set] at hb'
      by_cases e : b' = b
      · subst e; simp [hbl] at hb'; exact .inl ⟨rfl, hb'.symm⟩
      · rw [if_neg (Ne.symm e)] at hb'; exact .inr ⟨e, id, by unfold blkAt; exact hb'⟩
    live := fun b' d hb' => by
      rw [List.getElem?_set] at hb'
      by_cases e : b' = b
      · exact .inl e
      · rw [if_neg (Ne.symm e)] at hb'; exact .inr ⟨e, hb'⟩
    lt := by simpa using hbl
    len := by simp
    ms := .inr hm
    place := fun k hk => .inr ⟨b, c, hb, by rw [hm, hk], .inl rfl⟩
    same := fun k _ hne => hf k (fun e => hne (by rw [e]))
    shape := fun k hk arr0 T0 hh => by
      cases hk
      rw [hq] at hh; cases hh
      exact ⟨arr', hw, hsz⟩
    os := hos, tape := ht, output := ho, size := by omega }
  have e : upd m b (some q) = m := by funext k; unfold upd; split <;> simp_all
  have := t.adv fun S => ⟨us', relB_step S c' us' hc, .inr ⟨q, arr', T, rfl, hw, ha⟩⟩
  rwa [e] at this

/-- nothing is made: an empty row -/
theorem adv_none {c : Blk} (g : Good E X h m w) (f : Free h m slot) (hc : ∀ C, relB C c []) : Adv E X h m w (hput h slot (.live c)) (upd m slot none) w := by
  have t : Turn E X h m w slot c none (fun _ => False) (hput h slot (.live c)) w := {
    good := g
    blk := fun b d hb => by
      unfold blkAt at hb
      rw [hput_get f.le] at hb
      by_cases e : b = slot
      · subst e; simp at hb; exact .inl ⟨rfl, hb.symm⟩
      · rw [if_neg e] at hb; exact .inr ⟨e, id, by unfold blkAt; exact hb⟩
    live := fun b d hb => by
      rw [hput_get f.le] at hb
      by_cases e : b = slot
      · exact .inl e
      · rw [if_neg e] at hb; exact .inr ⟨e, hb⟩
    lt := (hput_len f.le).2
    len := (hput_len f.le).1
    ms := .inl f.no
    place := fun q hq => by cases hq
    same := fun _ _ _ => rfl
    shape := fun q hq => by cases hq
    os := rfl, tape := rfl, output := rfl, size := Nat.le_refl _ }
  exact t.adv fun _ => ⟨[], hc _, .inl ⟨rfl, rfl⟩⟩

/-- an empty row goes, and another empty one takes its place -/
theorem adv_none_kill {b : Nat} {c c' : Blk} (g : Good E X h m w) (f : Free h m slot) (hb : h[b]? = some (.live c)) (hc : ∀ C, relB C c' []) : Adv E X h m w (hput (h.set b .dead) slot (.live c')) (upd m slot none) w := by
  have fle : slot ≤ (h.set b .dead).length := by simpa using f.le
  have t : Turn E X h m w slot c' none (fun k => k = b) (hput (h.set b .dead) slot (.live c')) w := {
    good := g
    blk := fun b' d hb' => by
      unfold blkAt at hb'
      rw [hput_get fle] at hb'
      by_cases e : b' = slot
      · subst e; simp at hb'; exact .inl ⟨rfl, hb'.symm⟩
      · rw [if_neg e, List.getElem?_set] at hb'
        by_cases e2 : b = b'
        · subst e2
          rw [if_pos rfl, if_pos (List.getElem?_eq_some_iff.1 hb).1] at hb'
          cases hb'
        · rw [if_neg e2] at hb'; exact .inr ⟨e, fun e => e2 e.symm, by unfold blkAt; exact hb'⟩
    live := fun b' d hb' => by
      rw [hput_get fle] at hb'
      by_cases e : b' = slot
      · exact .inl e
      · rw [if_neg e, List.getElem?_set] at hb'
        by_cases e2 : b = b'
        · subst e2
          rw [if_pos rfl, if_pos (List.getElem?_eq_some_iff.1 hb).1] at hb'
          cases hb'
        · rw [if_neg e2] at hb'; exact .inr ⟨e, hb'⟩
    lt := (hput_len fle).2
    len := by have := (hput_len (b := .live c') fle).1; simpa using this
    ms := .inl f.no
    place := fun q hq => by cases hq
    same := fun _ _ _ => rfl
    shape := fun q hq => by cases hq
    os := rfl, tape := rfl, output := rfl, size := Nat.le_refl _ }
  exact t.adv fun _ => ⟨[], hc _, .inl ⟨rfl, rfl⟩⟩

/-- a block goes, and its cells, with more behind them, are another's: where they lay -/
theorem adv_onto {b q : Nat} {c c' : Blk} {us' : List Value} {arr arr' : Array Value} {T : TypeId} (g : Good E X h m w) (f : Free h m slot) (hb : h[b]? = some (.live c)) (hm : m b = some q) (hq : w.heap[q]? = some (.cells arr T (0, 0)))
    (hc : relB (cx X h m w) c' us') (ha : us'.length ≤ arr'.size ∧ ∀ (i : Nat) u, us'[i]? = some u → arr'[i]? = some u) (hsz : arr'.size = arr.size)
    (hw : w1.heap[q]? = some (.cells arr' T (0, 0))) (hf : ∀ k, k ≠ q → w1.heap[k]? = w.heap[k]?) (hs : w1.heap.size = w.heap.size) (hos : w1.os = w.os) (ht : w1.tape = w.tape) (ho : w1.output = w.output) :
    Adv E X h m w (hput (h.set b .dead) slot (.live c')) (upd m slot (some q)) w1 := by
  have hl := (Array.getElem?_eq_some_iff.1 hq).1
  have fle : slot ≤ (h.set b .dead).length := by simpa using f.le
  have t : Turn E X h m w slot c' (some q) (fun k => k = b) (hput (h.set b .dead) slot (.live c')) w1 := {
    good := g
    blk := fun b' d hb' => by
      unfold blkAt at hb'
      rw [hput_get fle] at hb'
      by_cases e : b' = slot
      · subst e; simp at hb'; exact .inl ⟨rfl, hb'.symm⟩
      · rw [if_neg e, List.getElem?_set] at hb'
        by_cases e2 : b = b'
        · subst e2
          rw [if_pos rfl, if_pos (List.getElem?_eq_some_iff.1 hb).1] at hb'
          cases hb'
        · rw [if_neg e2] at hb'; exact .inr ⟨e, fun e => e2 e.symm, by unfold blkAt; exact hb'⟩
    live := fun b' d hb' => by
      rw [hput_get fle] at hb'
      by_cases e : b' = slot
      · exact .inl e
      · rw [if_neg e, List.getElem?_set] at hb'
        by_cases e2 : b = b'
        · subst e2
          rw [if_pos rfl, if_pos (List.getElem?_eq_some_iff.1 hb).1] at hb'
          cases hb'
        · rw [if_neg e2] at hb'; exact .inr ⟨e, hb'⟩
    lt := (hput_len fle).2
    len := by have := (hput_len (b := .live c') fle).1; simpa using this
    ms := .inl f.no
    place := fun k hk => .inr ⟨b, c, hb, by rw [hm, hk], .inr rfl⟩
    same := fun k _ hne => hf k (fun e => hne (by rw [e]))
    shape := fun k hk arr0 T0 hh => by
      cases hk
      rw [hq] at hh; cases hh
      exact ⟨arr', hw, hsz⟩
    os := hos, tape := ht, output := ho, size := by omega }
  exact t.adv fun S => ⟨us', relB_step S c' us' hc, .inr ⟨q, arr', T, rfl, hw, ha⟩⟩

/-- the same, in new memory -/
theorem adv_over {b : Nat} {c c' : Blk} {us' : List Value} {arr' : Array Value} {T : TypeId} (g : Good E X h m w) (f : Free h m slot) (hb : h[b]? = some (.live c))
    (hc : relB (cx X h m w) c' us') (ha : us'.length ≤ arr'.size ∧ ∀ (i : Nat) u, us'[i]? = some u → arr'[i]? = some u)
    (hw : w1.heap = w.heap.push (.cells arr' T (0, 0))) (hos : w1.os = w.os) (ht : w1.tape = w.tape) (ho : w1.output = w.output) :
    Adv E X h m w (hput (h.set b .dead) slot (.live c')) (upd m slot (some w.heap.size)) w1 := by
  have fle : slot ≤ (h.set b .dead).length := by simpa using f.le
  have hs : w1.heap.size = w.heap.size + 1 := by rw [hw]; simp
  have t : Turn E X h m w slot c' (some w.heap.size) (fun k => k = b) (hput (h.set b .dead) slot (.live c')) w1 := {
    good := g
    blk := fun b' d hb' => by
      unfold blkAt at hb'
      rw [hput_get fle] at hb'
      by_cases e : b' = slot
      · subst e; simp at hb'; exact .inl ⟨rfl, hb'.symm⟩
      · rw [if_neg e, List.getElem?_set] at hb'
        by_cases e2 : b = b'
        · subst e2
          rw [if_pos rfl, if_pos (List.getElem?_eq_some_iff.1 hb).1] at hb'
          cases hb'
        · rw [if_neg e2] at hb'; exact .inr ⟨e, fun e => e2 e.symm, by unfold blkAt; exact hb'⟩
    live := fun b' d hb' => by
      rw [hput_get fle] at hb'
      by_cases e : b' = slot
      · exact .inl e
      · rw [if_neg e, List.getElem?_set] at hb'
        by_cases e2 : b = b'
        · subst e2
          rw [if_pos rfl, if_pos (List.getElem?_eq_some_iff.1 hb).1] at hb'
          cases hb'
        · rw [if_neg e2] at hb'; exact .inr ⟨e, hb'⟩
    lt := (hput_len fle).2
    len := by have := (hput_len (b := .live c') fle).1; simpa using this
    ms := .inl f.no
    place := fun q hq => .inl (by cases hq; exact Nat.le_refl _)
    same := fun q hq _ => by rw [hw, Array.getElem?_push, if_neg (by omega)]
    shape := fun q hq arr T hh => by cases hq; rw [Array.getElem?_eq_none (Nat.le_refl _)] at hh; cases hh
    os := hos, tape := ht, output := ho, size := by omega }
  refine t.adv fun S => ⟨us', relB_step S c' us' hc, .inr ⟨_, arr', T, rfl, ?_, ha⟩⟩
  rw [hw]; simp

/-- only what is drawn turns -/
theorem adv_drew (g : Good E X h m w) (n : Nat) : Adv E X h m w h m { w with drawn := w.drawn + n } := by
  have S : Step (cx X h m w) (cx X h m { w with drawn := w.drawn + n }) := ⟨fun _ _ h => h, fun _ _ h => h, fun _ _ _ => rfl, fun _ arr _ h => ⟨arr, h, rfl⟩⟩
  refine ⟨⟨?_, g.inj, g.hi, g.own, g.xs, ?_⟩, fun _ _ h => h, fun _ h => .inl h, fun _ _ _ => rfl, fun _ arr _ h => ⟨arr, h, rfl⟩, rfl, rfl, rfl, Nat.le_refl _, Nat.le_refl _⟩
  · intro b c hb
    obtain ⟨us, h1, h2⟩ := g.hp b c hb
    exact ⟨us, relB_step S c us h1, h2⟩
  · intro q c hq
    obtain ⟨h1, h2, us, h3, h4⟩ := g.gl q c hq
    exact ⟨h1, h2, us, relB_step S.z c us h3, h4⟩

/-- a block of the state, in the world -/
theorem Good.block {b : Nat} {c : Blk} (g : Good E X h m w) (hb : blkAt h b = some c) {q : Nat} (hm : m b = some q) :
    ∃ (us : List Value) (arr : Array Value) (T : TypeId), relB (cx X h m w) c us ∧ w.heap[q]? = some (.cells arr T (0, 0)) ∧ us.length ≤ arr.size ∧ (∀ (i : Nat) u, us[i]? = some u → arr[i]? = some u) ∧ cellsAt w ⟨q, 0, none⟩ us := by
  obtain ⟨us, h1, h2⟩ := g.hp b c hb
  rcases h2 with ⟨_, h2⟩ | ⟨q', arr, T, h2, h3, h4, h5⟩
  · rw [h2] at hm; cases hm
  · rw [h2] at hm; cases hm
    refine ⟨us, arr, T, h1, h3, h4, h5, fun i u hi => ?_⟩
    rw [add_mk]
    simp only [World.cell?, h3, Nat.zero_add]
    exact h5 i u hi
end
end Go.Ev
