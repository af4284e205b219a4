/- What an abstract value says of a value of the model, in a world; what an abstract state says of a frame and a world; and how that outlasts what else happens. -/
import Derived.Test.YtllgdcepgelahaaDoorEv1
import Derived.Below
import Derived.Laws.CopyRow
namespace Go.Ev

/-- Where the abstract blocks lie ('none': a block without cells that lies nowhere), which blocks may be written, and the world. -/
structure Cx where
  m : Nat → Option Nat
  Wr : Nat → Prop
  w : World

/-- what is shut holds nothing of the abstract heap -/
def Cx.z (C : Cx) : Cx := ⟨fun _ => none, C.Wr, C.w⟩

/-- cells from a place on -/
def cellsAt (w : World) (a : Addr) (us : List Value) : Prop := ∀ i u, us[i]? = some u → w.cell? (a.add i) = some u

/-- a slice's place: nowhere (nothing to hold), or in a block, with so many cells of it its own -/
def slotOk (w : World) (b off n : Nat) : Prop := ∃ arr T, w.heap[b]? = some (.cells arr T (0, 0)) ∧ off + n ≤ arr.size

mutual
def rel (C : Cx) : AV → Value → Prop
  | .undef, _ => True
  | .int k n, v => v = .int k n
  | .bool b, v => v = .bool b
  | .str s, v => v = .string s
  | .nilptr, v => v = .pointer none
  | .ptr b off, v => ∃ g, C.m b = some g ∧ v = .pointer (some ⟨g, off, none⟩)
  | .fptr c, v => ∃ a us, v = .pointer (some a) ∧ a.spot = none ∧ relB C.z c us ∧ (us = [] ∨ ¬ C.Wr a.block) ∧ cellsAt C.w a us
  | .esl, v => ∃ a, v = .slice a 0 0
  | .sl b off len sz, v => ∃ a cap, v = .slice a len cap ∧ len ≤ cap ∧ cap ≤ maxLen ∧ (cap = 0 ∨ ∃ g, C.m b = some g ∧ a = some ⟨g, off, none⟩ ∧ slotOk C.w g off (cap * sz))
  | .fsl c, v => ∃ a cap us, v = .slice a c.num cap ∧ c.num ≤ cap ∧ relB C.z c us ∧ us.length = c.num * c.esz ∧ (us = [] ∨ ∃ p, a = some p ∧ p.spot = none ∧ ¬ C.Wr p.block ∧ cellsAt C.w p us)
  | .agg c, v => ∃ us, v = .agg us.toArray ∧ relB C c us
  | .tup vs, v => ∃ us, v = .tuple us.toArray ∧ relL C vs us
  | .fn f caps, v => ∃ us, v = .func (.func f) #[] us.toArray ∧ relL C caps us
  | .nilfn, v => v = .nilFunc
  | .nilif, v => v = .nilIface
  | .iface t x, v => ∃ u, v = .iface t u ∧ rel C x u
def relB (C : Cx) : Blk → List Value → Prop
  | .ints k xs, us => us = xs.map (Value.int k)
  | .bools xs, us => us = xs.map Value.bool
  | .any cs, us => relL C cs us
  | .rows sz rs, us => 0 < sz ∧ relR C sz rs us
def relL (C : Cx) : List AV → List Value → Prop
  | [], us => us = []
  | c :: cs, us => ∃ u r, us = u :: r ∧ rel C c u ∧ relL C cs r
def relR (C : Cx) (sz : Nat) : List (List AV) → List Value → Prop
  | [], us => us = []
  | r :: rs, us => ∃ u1 u2, us = u1 ++ u2 ∧ r.length = sz ∧ relL C r u1 ∧ relR C sz rs u2
end

/-! ### what outlasts a step -/
/-- What a step may do to what is told: blocks keep their places, no block that was there and not open is opened, what is not open stays, rows keep their size. -/
structure Step (C C' : Cx) : Prop where
  m : ∀ b g, C.m b = some g → C'.m b = some g
  wr : ∀ g, g < C.w.heap.size → C'.Wr g → C.Wr g
  keep : ∀ g, g < C.w.heap.size → ¬ C.Wr g → C'.w.heap[g]? = C.w.heap[g]?
  shape : ∀ (g : Nat) (arr : Array Value) (T : TypeId), C.w.heap[g]? = some (.cells arr T (0, 0)) → ∃ arr' : Array Value, C'.w.heap[g]? = some (.cells arr' T (0, 0)) ∧ arr'.size = arr.size

theorem Step.refl (C : Cx) : Step C C := ⟨fun _ _ h => h, fun _ _ h => h, fun _ _ _ => rfl, fun _ arr _ h => ⟨arr, h, rfl⟩⟩

theorem cell_lt {w : World} {a : Addr} {u : Value} (h : w.cell? a = some u) : a.block < w.heap.size := by
  unfold World.cell? at h
  split at h
  · next heq => exact (Array.getElem?_eq_some_iff.1 heq).1
  · simp at h

theorem block_add (a : Addr) (i : Nat) : (a.add i).block = a.block := by unfold Addr.add; split <;> rfl

theorem cellsAt_step {C C' : Cx} (S : Step C C') {a : Addr} {us : List Value} (h : cellsAt C.w a us) (hw : us = [] ∨ ¬ C.Wr a.block) : cellsAt C'.w a us := by
  intro i u hi
  have hc := h i u hi
  have hne : us ≠ [] := by rintro rfl; simp at hi
  have hb : (a.add i).block = a.block := block_add a i
  have hl : a.block < C.w.heap.size := hb ▸ cell_lt hc
  have hk := S.keep a.block hl (hw.resolve_left hne)
  rw [← hc]
  unfold World.cell?
  rw [hb, hk]

theorem wr_step {C C' : Cx} (S : Step C C') {a : Addr} {us : List Value} (h : cellsAt C.w a us) (hw : us = [] ∨ ¬ C.Wr a.block) : us = [] ∨ ¬ C'.Wr a.block := by
  cases us with
  | nil => exact .inl rfl
  | cons u r =>
    have hc := h 0 u rfl
    have hl : a.block < C.w.heap.size := block_add a 0 ▸ cell_lt hc
    exact .inr fun hw' => (hw.resolve_left (by simp)) (S.wr _ hl hw')

theorem slotOk_step {C C' : Cx} (S : Step C C') {g off n : Nat} (h : slotOk C.w g off n) : slotOk C'.w g off n := by
  obtain ⟨arr, T, hg, hs⟩ := h
  obtain ⟨arr', hg', hs'⟩ := S.shape g arr T hg
  exact ⟨arr', T, hg', by omega⟩

theorem Step.z {C C' : Cx} (S : Step C C') : Step C.z C'.z := ⟨fun _ _ h => h, S.wr, S.keep, S.shape⟩
/-- what holds without the abstract heap holds with it -/
theorem Step.up (C : Cx) : Step C.z C := ⟨fun _ _ h => (by cases h), fun _ _ h => h, fun _ _ _ => rfl, fun _ arr _ h => ⟨arr, h, rfl⟩⟩

mutual
theorem rel_step {C C' : Cx} (S : Step C C') : ∀ (v : AV) (u : Value), rel C v u → rel C' v u
  | .undef, _, _ => trivial
  | .int _ _, _, h => h
  | .bool _, _, h => h
  | .str _, _, h => h
  | .nilptr, _, h => h
  | .ptr b off, _, ⟨g, hm, hv⟩ => ⟨g, S.m b g hm, hv⟩
  | .fptr c, _, ⟨a, us, hv, hs, hr, hw, hc⟩ => ⟨a, us, hv, hs, relB_step S.z c us hr, wr_step S hc hw, cellsAt_step S hc hw⟩
  | .esl, _, h => h
  | .sl b off len sz, _, ⟨a, cap, hv, hl, hm, hp⟩ => ⟨a, cap, hv, hl, hm, hp.imp id fun ⟨g, h1, h2, h3⟩ => ⟨g, S.m b g h1, h2, slotOk_step S h3⟩⟩
  | .fsl c, _, ⟨a, cap, us, hv, hq, hr, hn, hp⟩ => ⟨a, cap, us, hv, hq, relB_step S.z c us hr, hn, by
      rcases hp with h | ⟨p, h1, h2, h3, h4⟩
      · exact .inl h
      · rcases wr_step S h4 (.inr h3) with h5 | h5
        · exact .inl h5
        · exact .inr ⟨p, h1, h2, h5, cellsAt_step S h4 (.inr h3)⟩⟩
  | .agg c, _, ⟨us, hv, hr⟩ => ⟨us, hv, relB_step S c us hr⟩
  | .tup vs, _, ⟨us, hv, hr⟩ => ⟨us, hv, relL_step S vs us hr⟩
  | .fn _ caps, _, ⟨us, hv, hr⟩ => ⟨us, hv, relL_step S caps us hr⟩
  | .nilfn, _, h => h
  | .nilif, _, h => h
  | .iface _ x, _, ⟨u, hv, hr⟩ => ⟨u, hv, rel_step S x u hr⟩
theorem relB_step {C C' : Cx} (S : Step C C') : ∀ (c : Blk) (us : List Value), relB C c us → relB C' c us
  | .ints _ _, _, h => h
  | .bools _, _, h => h
  | .any cs, us, h => relL_step S cs us h
  | .rows sz rs, us, h => ⟨h.1, relR_step S sz rs us h.2⟩
theorem relL_step {C C' : Cx} (S : Step C C') : ∀ (cs : List AV) (us : List Value), relL C cs us → relL C' cs us
  | [], _, h => h
  | c :: cs, _, ⟨u, r, he, h1, h2⟩ => ⟨u, r, he, rel_step S c u h1, relL_step S cs r h2⟩
theorem relR_step {C C' : Cx} (S : Step C C') (sz : Nat) : ∀ (rs : List (List AV)) (us : List Value), relR C sz rs us → relR C' sz rs us
  | [], _, h => h
  | r :: rs, _, ⟨u1, u2, he, hl, h1, h2⟩ => ⟨u1, u2, he, hl, relL_step S r u1 h1, relR_step S sz rs u2 h2⟩
end

/-! ### lists of cells -/
theorem relL_length {C : Cx} : ∀ {cs : List AV} {us : List Value}, relL C cs us → us.length = cs.length
  | [], _, h => by have h : _ = [] := h; simp [h]
  | _ :: _, _, ⟨_, _, he, _, h2⟩ => by rw [he]; simp [relL_length h2]
theorem relR_length {C : Cx} {sz : Nat} : ∀ {rs : List (List AV)} {us : List Value}, relR C sz rs us → us.length = rs.length * sz
  | [], _, h => by have h : _ = [] := h; simp [h]
  | r :: rs, _, ⟨_, _, he, hl, h1, h2⟩ => by rw [he, List.length_append, relL_length h1, relR_length h2, hl, List.length_cons, Nat.succ_mul]; omega
theorem nmul_eq (a sz : Nat) : nmul a sz = a * sz := by unfold nmul; split <;> simp
theorem nadd_eq (a b : Nat) : nadd a b = a + b := by unfold nadd; split <;> simp
theorem relB_length {C : Cx} : ∀ {c : Blk} {us : List Value}, relB C c us → us.length = c.clen
  | .ints _ _, _, h => by have h : _ = List.map _ _ := h; simp [h, Blk.clen]
  | .bools _, _, h => by have h : _ = List.map _ _ := h; simp [h, Blk.clen]
  | .any _, _, h => relL_length h
  | .rows _ _, _, h => by rw [relR_length h.2]; simp [Blk.clen, nmul_eq]
theorem relL_get {C : Cx} : ∀ {cs : List AV} {us : List Value} (i : Nat) (c : AV), relL C cs us → cs[i]? = some c → ∃ u, us[i]? = some u ∧ rel C c u
  | [], _, i, _, _, h => by simp at h
  | _ :: _, _, 0, _, ⟨u, _, he, h1, _⟩, h => by
    simp at h; subst h; exact ⟨u, by simp [he], h1⟩
  | _ :: _, _, i + 1, c, ⟨_, r, he, _, h2⟩, h => by
    obtain ⟨u, hu, hr⟩ := relL_get i c h2 (by simpa using h)
    exact ⟨u, by simpa [he] using hu, hr⟩
theorem relL_set {C : Cx} : ∀ {cs : List AV} {us : List Value} (i : Nat) (c : AV) (u : Value), relL C cs us → rel C c u → relL C (cs.set i c) (us.set i u)
  | [], _, i, _, _, h, _ => by have h : _ = [] := h; simp [h, relL]
  | _ :: _, _, 0, _, u, ⟨_, r, he, _, h2⟩, h => by subst he; exact ⟨u, r, rfl, h, h2⟩
  | _ :: cs, _, i + 1, c, u, ⟨u0, r, he, h1, h2⟩, h => by subst he; exact ⟨u0, r.set i u, rfl, h1, relL_set i c u h2 h⟩
theorem relL_append {C : Cx} : ∀ {cs ds : List AV} {us vs : List Value}, relL C cs us → relL C ds vs → relL C (cs ++ ds) (us ++ vs)
  | [], _, _, _, h, h2 => by have h : _ = [] := h; subst h; exact h2
  | _ :: _, _, _, _, ⟨u, r, he, h1, h2⟩, h3 => by subst he; exact ⟨u, r ++ _, rfl, h1, relL_append h2 h3⟩
theorem relL_take {C : Cx} : ∀ {cs : List AV} {us : List Value} (n : Nat), relL C cs us → relL C (cs.take n) (us.take n)
  | [], _, n, h => by have h : _ = [] := h; subst h; simp [relL]
  | _ :: _, _, 0, _ => by simp [relL]
  | _ :: _, _, n + 1, ⟨u, r, he, h1, h2⟩ => by subst he; exact ⟨u, r.take n, rfl, h1, relL_take n h2⟩
theorem relL_drop {C : Cx} : ∀ {cs : List AV} {us : List Value} (n : Nat), relL C cs us → relL C (cs.drop n) (us.drop n)
  | [], _, n, h => by have h : _ = [] := h; subst h; simp [relL]
  | _ :: _, _, 0, h => h
  | _ :: _, _, n + 1, ⟨u, r, he, h1, h2⟩ => by subst he; exact relL_drop n h2
theorem relL_ints {C : Cx} (k : IntKind) : ∀ (xs : List Int), relL C (xs.map (.int k)) (xs.map (Value.int k))
  | [] => rfl
  | _ :: xs => ⟨_, _, rfl, rfl, relL_ints k xs⟩
theorem relL_bools {C : Cx} : ∀ (xs : List Bool), relL C (xs.map .bool) (xs.map Value.bool)
  | [] => rfl
  | _ :: xs => ⟨_, _, rfl, rfl, relL_bools xs⟩
theorem relR_flat {C : Cx} {sz : Nat} : ∀ {rs : List (List AV)} {us : List Value}, relR C sz rs us → relL C rs.flatten us
  | [], _, h => h
  | _ :: _, _, ⟨_, _, he, _, h1, h2⟩ => by subst he; exact relL_append h1 (relR_flat h2)
theorem relB_cells {C : Cx} : ∀ {c : Blk} {us : List Value}, relB C c us → relL C c.cells us
  | .ints k xs, _, h => by have h : _ = List.map _ _ := h; subst h; exact relL_ints k xs
  | .bools xs, _, h => by have h : _ = List.map _ _ := h; subst h; exact relL_bools xs
  | .any _, _, h => h
  | .rows _ _, _, h => relR_flat h.2
theorem relL_replicate {C : Cx} {v : AV} {u : Value} (h : rel C v u) : ∀ n, relL C (List.replicate n v) (List.replicate n u)
  | 0 => rfl
  | n + 1 => ⟨u, _, rfl, h, relL_replicate h n⟩
theorem rel_oneCell {C : Cx} : ∀ {v : AV} {u : Value}, rel C v u → v.isCell = true → u.oneCell' = true
  | .int _ _, _, h, _ => by cases h; rfl
  | .bool _, _, h, _ => by cases h; rfl
  | .str _, _, h, _ => by cases h; rfl
  | .nilptr, _, h, _ => by cases h; rfl
  | .ptr _ _, _, ⟨_, _, h⟩, _ => by cases h; rfl
  | .fptr _, _, ⟨_, _, h, _⟩, _ => by cases h; rfl
  | .esl, _, ⟨_, h⟩, _ => by cases h; rfl
  | .sl _ _ _ _, _, ⟨_, _, h, _⟩, _ => by cases h; rfl
  | .fsl _, _, ⟨_, _, _, h, _⟩, _ => by cases h; rfl
  | .fn _ _, _, ⟨_, h, _⟩, _ => by cases h; rfl
  | .nilfn, _, h, _ => by cases h; rfl
  | .nilif, _, h, _ => by cases h; rfl
  | .iface _ _, _, ⟨_, h, _⟩, _ => by cases h; rfl
theorem rel_cells {C : Cx} : ∀ {v : AV} {u : Value}, rel C v u → v.isCell = true → u.cells = #[u]
  | .int _ _, _, h, _ => by cases h; rfl
  | .bool _, _, h, _ => by cases h; rfl
  | .str _, _, h, _ => by cases h; rfl
  | .nilptr, _, h, _ => by cases h; rfl
  | .ptr _ _, _, ⟨_, _, h⟩, _ => by cases h; rfl
  | .fptr _, _, ⟨_, _, h, _⟩, _ => by cases h; rfl
  | .esl, _, ⟨_, h⟩, _ => by cases h; rfl
  | .sl _ _ _ _, _, ⟨_, _, h, _⟩, _ => by cases h; rfl
  | .fsl _, _, ⟨_, _, _, h, _⟩, _ => by cases h; rfl
  | .fn _ _, _, ⟨_, h, _⟩, _ => by cases h; rfl
  | .nilfn, _, h, _ => by cases h; rfl
  | .nilif, _, h, _ => by cases h; rfl
  | .iface _ _, _, ⟨_, h, _⟩, _ => by cases h; rfl
end Go.Ev
