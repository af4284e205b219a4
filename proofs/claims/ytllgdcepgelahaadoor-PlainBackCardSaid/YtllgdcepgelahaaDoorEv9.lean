/- Operations on memory: making. -/
import Derived.Test.YtllgdcepgelahaaDoorEv8
namespace Go.Ev
section
variable {P : Program} {E : Env} {X : Nat → Prop} {h h1 : H} {m : Nat → Option Nat} {w w1 : World} {C : Cx} {slot : Nat}

theorem isK_cases {v : AV} (h : isK v = true) : (∃ c, v = .agg c) ∨ v.isCell = true := by
  cases v <;> simp [isK, AV.isCell] at h ⊢

theorem rel_blk {v : AV} {u : Value} (hr : rel C v u) (hv : (∃ c, v = .agg c) ∨ v.isCell = true) : relB C v.blk u.cells.toList := by
  rcases hv with ⟨c, rfl⟩ | hv
  · obtain ⟨us, rfl, h1⟩ := hr
    simpa [AV.blk, Value.cells] using h1
  · have h2 := rel_cells hr hv
    have : v.blk = .any [v] := by cases v <;> first | rfl | simp [AV.isCell] at hv
    rw [this, h2]
    exact ⟨_, _, rfl, hr, rfl⟩

/-- one value's result, in memory that goes on -/
def Made (P : Program) (E : Env) (X : Nat → Prop) (h : H) (m : Nat → Option Nat) (w : World) (slot : Nat) (s : Sem Value) (z : AV) (h1 : H) : Prop :=
  ∃ u m1 w1, s.run P w = .ok u w1 ∧ Adv E X h m w h1 m1 w1 ∧ rel (cx X h1 m1 w1) z u ∧ ∀ b, b ≠ slot → m1 b = m b

theorem upd_ne {m : Nat → Option Nat} {g : Option Nat} {b : Nat} (h : b ≠ slot) : upd m slot g b = m b := by simp [upd, h]
theorem upd_self {m : Nat → Option Nat} {g : Option Nat} : upd m slot g slot = g := by simp [upd]

theorem made_ptr {c : Blk} {t : TypeId} {u : Value} (g : Good E X h m w) (f : Free h m slot) (hr : relB (cx X h m w) c u.cells.toList) :
    Made P E X h m w slot (do pure (.pointer (some (← newVar t u)))) (.ptr slot 0) (hput h slot (.live c)) := by
  refine ⟨.pointer (some ⟨w.heap.size, 0, none⟩), _, w.alloc (.cells u.cells t), by simp [newVar, newRow], adv_new (arr := u.cells) (T := t) g f hr ⟨by simp, fun i u hi => by simpa using hi⟩ rfl rfl rfl rfl, ⟨_, upd_self, rfl⟩, fun b hb => upd_ne hb⟩

theorem alloc_ok (hE : EnvOk E P) (g : Good E X h m w) (f : Free h m slot) {e : TypeId} {i : TI} (ht : E.T e = some i) :
    Made P E X h m w slot (Instr.alloc e true (.tuple #[])) (.ptr slot 0) (hput h slot (.live i.zero.blk)) := by
  have hT := hE _ _ ht
  have hr := rel_blk (rel_toVal (cx X h m w) i.zero hT.zk) (isK_cases hT.zk)
  obtain ⟨u, m1, w1, h1, h2⟩ := made_ptr (P := P) (t := e) g f hr
  exact ⟨u, m1, w1, by simpa [Instr.alloc, hT.run_zero] using h1, h2⟩

theorem box_ok (g : Good E X h m w) (f : Free h m slot) {e : TypeId} {v : AV} {u : Value} (hr : rel (cx X h m w) v u) (hv : (∃ c, v = .agg c) ∨ v.isCell = true) :
    Made P E X h m w slot (Instr.box e u) (.ptr slot 0) (hput h slot (.live v.blk)) := by
  obtain ⟨u, m1, w1, h1, h2⟩ := made_ptr (P := P) (t := e) g f (rel_blk hr hv)
  exact ⟨u, m1, w1, by simpa [Instr.box] using h1, h2⟩

/-- a slice over a new row -/
theorem made_row {c : Blk} {e : TypeId} {us : List Value} {arr : Array Value} {len cap sz : Nat} (g : Good E X h m w) (f : Free h m slot) (hr : relB (cx X h m w) c us)
    (ha : us.length ≤ arr.size ∧ ∀ (i : Nat) u, us[i]? = some u → arr[i]? = some u) (hl : len ≤ cap) (hm : cap ≤ maxLen) (hs : cap * sz ≤ arr.size) (hw : w1.heap = w.heap.push (.cells arr e (0, 0))) (hos : w1.os = w.os) (ht : w1.tape = w.tape) (ho : w1.output = w.output) :
    Adv E X h m w (hput h slot (.live c)) (upd m slot (some w.heap.size)) w1 ∧ rel (cx X (hput h slot (.live c)) (upd m slot (some w.heap.size)) w1) (.sl slot 0 len sz) (.slice (some ⟨w.heap.size, 0, none⟩) len cap) := by
  refine ⟨adv_new g f hr ha hw hos ht ho, _, cap, rfl, hl, hm, .inr ⟨_, upd_self, rfl, arr, e, ?_, by omega⟩⟩
  show w1.heap[_]? = _
  rw [hw]; simp

theorem flat_get {α : Type} (zs : List α) : ∀ (l i : Nat), i < l * zs.length → (List.replicate l zs).flatten[i]? = zs[i % zs.length]?
  | 0, i, h => by simp at h
  | l + 1, i, h => by
    rw [List.replicate_succ, List.flatten_cons, List.getElem?_append]
    split
    · rename_i hlt; rw [Nat.mod_eq_of_lt hlt]
    · rename_i hge
      have hz : 0 < zs.length := by
        rcases Nat.eq_zero_or_pos zs.length with h0 | h0
        · rw [h0] at h; simp at h
        · exact h0
      have h2 : i - zs.length < l * zs.length := by rw [Nat.succ_mul] at h; omega
      have h3 : i % zs.length = (i - zs.length) % zs.length := Nat.mod_eq_sub_mod (by omega)
      rw [flat_get zs l (i - zs.length) h2, h3]

theorem madeCells_get (z : Array Value) (n l i : Nat) (u : Value) (hl : l * z.size ≤ n) (h : (List.replicate l z.toList).flatten[i]? = some u) : (madeCells z n)[i]? = some u := by
  have hi : i < l * z.size := by
    have := (List.getElem?_eq_some_iff.1 h).1
    simpa using this
  have e := flat_get z.toList l i (by simpa using hi)
  rw [e] at h
  simp only [Array.length_toList] at h
  have hz : 0 < z.size := by
    rcases Nat.eq_zero_or_pos z.size with h0 | h0
    · rw [h0] at hi; simp at hi
    · exact h0
  have hm : i % z.size < z.size := Nat.mod_lt _ hz
  have h' : z[i % z.size]? = some u := by simpa using h
  rw [Array.getElem?_eq_getElem hm] at h'
  cases h'
  have hin : i < n := by omega
  simp [madeCells, hin, hm]

theorem relL_flat {zs : List AV} {us : List Value} (h : relL C zs us) : ∀ l, relL C (List.replicate l zs).flatten (List.replicate l us).flatten
  | 0 => rfl
  | l + 1 => by rw [List.replicate_succ, List.replicate_succ, List.flatten_cons, List.flatten_cons]; exact relL_append h (relL_flat h l)

theorem rel_zeros (hE : EnvOk E P) {e : TypeId} {i : TI} (he : E.T e = some i) (l : Nat) : relB C (zeros i l) (List.replicate l (toVal i.zero).cells.toList).flatten := by
  have hT := hE _ _ he
  have hr := rel_toVal C i.zero hT.zk
  unfold zeros
  split
  · rename_i k hk
    rw [hT.zz.1 k hk]
    simp [relB, toVal, Value.cells, List.flatten_replicate_singleton]
  · rename_i hk
    rw [hT.zz.2 hk]
    simp [relB, toVal, Value.cells, List.flatten_replicate_singleton]
  · have h1 := relB_cells (rel_blk hr (isK_cases hT.zk))
    exact relL_flat h1 l

theorem zero_size (hE : EnvOk E P) {e : TypeId} {i : TI} (he : E.T e = some i) : (toVal i.zero).cells.size = i.size := by
  have hT := hE _ _ he
  have h1 := relB_length (rel_blk (rel_toVal ⟨fun _ => none, fun _ => False, default⟩ i.zero hT.zk) (isK_cases hT.zk))
  rw [hT.zs] at h1
  simpa using h1

theorem makeSl_ok (hE : EnvOk E P) (g : Good E X h m w) (f : Free h m slot) {t : TypeId} {l c z : AV} {ul uc : Value} {h1 : H} (hm : makeSl E h slot t l c (fun v h => some (v, h)) = some (z, h1)) (hl : rel (cx X h m w) l ul) (hc : rel (cx X h m w) c uc) :
    Made P E X h m w slot (Instr.makeSlice t ul uc) z h1 := by
  unfold makeSl at hm
  split at hm
  · rename_i e _ _ _ kl l kc c ht
    have hu := (hE _ _ ht).und_slice rfl
    cases hl; cases hc
    split at hm
    · rename_i ie he
      obtain ⟨h2, hm⟩ := sel_iff.1 hm
      obtain ⟨h3, hm⟩ := sel_iff.1 hm
      obtain ⟨h4, hm⟩ := sel_iff.1 hm
      obtain ⟨h5, hm⟩ := sel_iff.1 hm
      have h2 := of_decide_eq_true h2
      have h3 := of_decide_eq_true h3
      have h4 := of_decide_eq_true h4
      have h5 := of_decide_eq_true h5
      cases hm
      obtain ⟨q, hq, hz, hqs, hqb⟩ := (hE _ _ he).inf
      have hrun := run_make (P := P) w t e q (toVal ie.zero) hu hq hz kl kc l c h2 h3 (by rw [hqb]; exact h5) (by omega)
      have hzs := zero_size hE he
      have hle : l.toNat * ie.size ≤ c.toNat * ie.size := Nat.mul_le_mul_right _ (by omega)
      obtain ⟨h6, h7⟩ := made_row (c := zeros ie l.toNat) (e := e) (us := (List.replicate l.toNat (toVal ie.zero).cells.toList).flatten) (arr := madeCells (toVal ie.zero).cells (c.toNat * q.size)) (len := l.toNat) (cap := c.toNat) (sz := ie.size)
        (w1 := w.alloc (.cells (madeCells (toVal ie.zero).cells (c.toNat * q.size)) e)) g f (rel_zeros hE he l.toNat)
        ⟨by simp [size_madeCells, hqs, hzs, hle], fun i u hi => madeCells_get _ _ l.toNat i u (by rw [hzs, hqs]; exact hle) hi⟩ (by omega) (by unfold maxLen; omega) (by rw [size_madeCells, hqs]; exact Nat.le_refl _) rfl rfl rfl rfl
      exact ⟨_, _, _, hrun, h6, h7, fun b hb => upd_ne hb⟩
    · cases hm
  · cases hm
end
end Go.Ev
