/- Good states, steps from one to another, and the types' table. -/
import Derived.Test.YtllgdcepgelahaaDoorEv2
namespace Go.Ev

/-- the blocks that are open -/
def L (h : H) (m : Nat → Option Nat) (g : Nat) : Prop := ∃ b c, h[b]? = some (.live c) ∧ m b = some g
def cx (X : Nat → Prop) (h : H) (m : Nat → Option Nat) (w : World) : Cx := ⟨m, fun g => X g ∨ L h m g, w⟩

structure Good (E : Env) (X : Nat → Prop) (h : H) (m : Nat → Option Nat) (w : World) : Prop where
  hp : ∀ b c, blkAt h b = some c → ∃ us, relB (cx X h m w) c us ∧ (us = [] ∧ m b = none ∨ ∃ (g : Nat) (arr : Array Value) (T : TypeId), m b = some g ∧ w.heap[g]? = some (.cells arr T (0, 0)) ∧ us.length ≤ arr.size ∧ ∀ (i : Nat) u, us[i]? = some u → arr[i]? = some u)
  inj : ∀ b b' c c' g, blkAt h b = some c → blkAt h b' = some c' → m b = some g → m b' = some g → b = b'
  hi : ∀ b, h.length ≤ b → m b = none
  own : ∀ b c g, blkAt h b = some c → m b = some g → ¬ X g ∧ E.G g = none
  xs : ∀ g, X g → g < w.heap.size
  gl : ∀ g c, E.G g = some c → g < w.heap.size ∧ ¬ X g ∧ ∃ us, relB (cx X h m w).z c us ∧ cellsAt w ⟨g, 0, none⟩ us

structure Adv (E : Env) (X : Nat → Prop) (h : H) (m : Nat → Option Nat) (w : World) (h1 : H) (m1 : Nat → Option Nat) (w1 : World) : Prop where
  good : Good E X h1 m1 w1
  ext : ∀ b g, m b = some g → m1 b = some g
  L : ∀ g, L h1 m1 g → Ev.L h m g ∨ w.heap.size ≤ g
  frame : ∀ g, g < w.heap.size → ¬ Ev.L h m g → w1.heap[g]? = w.heap[g]?
  shape : ∀ (g : Nat) (arr : Array Value) (T : TypeId), w.heap[g]? = some (.cells arr T (0, 0)) → ∃ arr' : Array Value, w1.heap[g]? = some (.cells arr' T (0, 0)) ∧ arr'.size = arr.size
  os : w1.os = w.os
  tape : w1.tape = w.tape
  output : w1.output = w.output
  size : w.heap.size ≤ w1.heap.size
  len : h.length ≤ h1.length

section
variable {E : Env} {X : Nat → Prop} {h h1 h2 : H} {m m1 m2 : Nat → Option Nat} {w w1 w2 : World}

theorem Adv.refl (g : Good E X h m w) : Adv E X h m w h m w :=
  ⟨g, fun _ _ h => h, fun _ h => .inl h, fun _ _ _ => rfl, fun _ arr _ h => ⟨arr, h, rfl⟩, rfl, rfl, rfl, Nat.le_refl _, Nat.le_refl _⟩

theorem Adv.trans (a : Adv E X h m w h1 m1 w1) (b : Adv E X h1 m1 w1 h2 m2 w2) : Adv E X h m w h2 m2 w2 where
  good := b.good
  ext := fun k g hk => b.ext k g (a.ext k g hk)
  L := fun g hg => by
    rcases b.L g hg with h' | h'
    · exact a.L g h'
    · exact .inr (Nat.le_trans a.size h')
  frame := fun g hg hl => by
    have h1' : ¬ Ev.L h1 m1 g := fun h' => by
      rcases a.L g h' with h'' | h''
      · exact hl h''
      · omega
    rw [b.frame g (by have := a.size; omega) h1', a.frame g hg hl]
  shape := fun g arr T hg => by
    obtain ⟨arr', hg', hs'⟩ := a.shape g arr T hg
    obtain ⟨arr'', hg'', hs''⟩ := b.shape g arr' T hg'
    exact ⟨arr'', hg'', by omega⟩
  os := b.os.trans a.os
  tape := b.tape.trans a.tape
  output := b.output.trans a.output
  size := Nat.le_trans a.size b.size
  len := Nat.le_trans a.len b.len

theorem Adv.step (a : Adv E X h m w h1 m1 w1) : Step (cx X h m w) (cx X h1 m1 w1) where
  m := a.ext
  wr := fun g hg hw => by
    rcases hw with hx | hl
    · exact .inl hx
    · rcases a.L g hl with h' | h'
      · exact .inr h'
      · exact absurd hg (by simp only [cx]; omega)
  keep := fun g hg hw => a.frame g hg (fun hl => hw (.inr hl))
  shape := a.shape

theorem blkAt_live {h : H} {b : Nat} {c : Blk} (hb : h[b]? = some (.live c)) : blkAt h b = some c := by simp [blkAt, hb]
theorem blkAt_lt {h : H} {b : Nat} {c : Blk} (hb : blkAt h b = some c) : b < h.length := by
  unfold blkAt at hb
  cases hq : h[b]? with
  | none => simp [hq] at hb
  | some x => exact (List.getElem?_eq_some_iff.1 hq).1
theorem L_blk (g : Good E X h m w) {b : Nat} {c : Blk} {q : Nat} (hb : blkAt h b = some c) (hm : m b = some q) : q < w.heap.size := by
  obtain ⟨us, _, h1⟩ := g.hp b c hb
  rcases h1 with ⟨_, h1⟩ | ⟨q', arr, T, h1, h2, _⟩
  · rw [h1] at hm; cases hm
  · rw [h1] at hm; cases hm; exact (Array.getElem?_eq_some_iff.1 h2).1
end

/-! ### the types' table -/
mutual
def toVal : AV → Value
  | .int k n => .int k n
  | .bool b => .bool b
  | .str s => .string s
  | .nilptr => .pointer none
  | .esl => .slice none 0 0
  | .agg c => .agg (toVals c).toArray
  | .nilfn => .nilFunc
  | .nilif => .nilIface
  | _ => .tuple #[]
def toVals : Blk → List Value
  | .ints k xs => xs.map (Value.int k)
  | .bools xs => xs.map Value.bool
  | .any cs => toValL cs
  | .rows _ _ => []
def toValL : List AV → List Value
  | [] => []
  | c :: cs => toVal c :: toValL cs
end
mutual
/-- nothing in memory in it -/
def isK : AV → Bool
  | .int _ _ | .bool _ | .str _ | .nilptr | .esl | .nilfn | .nilif => true
  | .agg c => isKB c
  | _ => false
def isKB : Blk → Bool
  | .ints _ _ | .bools _ => true
  | .any cs => isKL cs
  | .rows _ _ => false
def isKL : List AV → Bool
  | [] => true
  | c :: cs => isK c && isKL cs
end
mutual
theorem rel_toVal (C : Cx) : ∀ v, isK v = true → rel C v (toVal v)
  | .int _ _, _ => by simp [rel, toVal]
  | .bool _, _ => by simp [rel, toVal]
  | .str _, _ => by simp [rel, toVal]
  | .nilptr, _ => by simp [rel, toVal]
  | .esl, _ => by simp [rel, toVal]
  | .nilfn, _ => by simp [rel, toVal]
  | .nilif, _ => by simp [rel, toVal]
  | .agg c, h => by rw [toVal, rel]; exact ⟨toVals c, rfl, relB_toVal C c (by simpa [isK] using h)⟩
  | .undef, h => by simp [isK] at h
  | .ptr _ _, h => by simp [isK] at h
  | .fptr _, h => by simp [isK] at h
  | .sl _ _ _ _, h => by simp [isK] at h
  | .fsl _, h => by simp [isK] at h
  | .tup _, h => by simp [isK] at h
  | .fn _ _, h => by simp [isK] at h
  | .iface _ _, h => by simp [isK] at h
theorem relB_toVal (C : Cx) : ∀ c, isKB c = true → relB C c (toVals c)
  | .ints _ _, _ => by simp [relB, toVals]
  | .bools _, _ => by simp [relB, toVals]
  | .any cs, h => by rw [relB, toVals]; exact relL_toVal C cs (by simpa [isKB] using h)
  | .rows _ _, h => by simp [isKB] at h
theorem relL_toVal (C : Cx) : ∀ cs, isKL cs = true → relL C cs (toValL cs)
  | [], _ => by simp [relL, toValL]
  | c :: cs, h => by
    simp only [isKL, Bool.and_eq_true] at h
    rw [relL, toValL]
    exact ⟨_, _, rfl, rel_toVal C c h.1, relL_toVal C cs h.2⟩
end

def KindOk : TK → TypeDesc → Prop
  | .int k, d => d = .int k
  | .bool, d => d = .bool
  | .str, d => d = .string
  | .ptr e, d => d = .pointer e
  | .slice e, d => d = .slice e
  | .array n e, d => d = .array n e
  | .struct fs, d => ∃ fields, d = .struct fields ∧ fields.toList.map (fun f => (f.type, f.offset)) = fs
  | .func, d => ∃ p r v, d = .func p r v
  | .iface, d => ∃ ms, d = .interface ms
  | .other, d => (∀ fs, d ≠ .struct fs) ∧ ∀ n e, d ≠ .array n e

structure TOk (P : Program) (t : TypeId) (i : TI) : Prop where
  und : ∃ d, P.underlying t = some d ∧ KindOk i.kind d
  info : (P.info? t).map (fun q => (q.zero, q.size, q.bytes)) = some (some (toVal i.zero), i.size, i.bytes)
  zk : isK i.zero = true
  zs : i.zero.blk.clen = i.size
  zz : (∀ k, i.kind = .int k → i.zero = .int k 0) ∧ (i.kind = .bool → i.zero = .bool false)

def EnvOk (E : Env) (P : Program) : Prop := ∀ t i, E.T t = some i → TOk P t i

section
variable {P : Program} {w : World} {t : TypeId} {i : TI}
theorem TOk.und_int (h : TOk P t i) {k : IntKind} (hk : i.kind = .int k) : P.underlying t = some (.int k) := by obtain ⟨d, h1, h2⟩ := h.und; rw [hk] at h2; rw [h1, show d = .int k from h2]
theorem TOk.und_bool (h : TOk P t i) (hk : i.kind = .bool) : P.underlying t = some .bool := by obtain ⟨d, h1, h2⟩ := h.und; rw [hk] at h2; rw [h1, show d = .bool from h2]
theorem TOk.und_str (h : TOk P t i) (hk : i.kind = .str) : P.underlying t = some .string := by obtain ⟨d, h1, h2⟩ := h.und; rw [hk] at h2; rw [h1, show d = .string from h2]
theorem TOk.und_slice (h : TOk P t i) {e : TypeId} (hk : i.kind = .slice e) : P.underlying t = some (.slice e) := by obtain ⟨d, h1, h2⟩ := h.und; rw [hk] at h2; rw [h1, show d = .slice e from h2]
theorem TOk.und_array (h : TOk P t i) {n : Nat} {e : TypeId} (hk : i.kind = .array n e) : P.underlying t = some (.array n e) := by obtain ⟨d, h1, h2⟩ := h.und; rw [hk] at h2; rw [h1, show d = .array n e from h2]
theorem TOk.und_struct (h : TOk P t i) {fs : List (TypeId × Nat)} (hk : i.kind = .struct fs) : ∃ fields, P.underlying t = some (.struct fields) ∧ fields.toList.map (fun f => (f.type, f.offset)) = fs := by
  obtain ⟨d, h1, h2⟩ := h.und
  rw [hk] at h2
  obtain ⟨fields, h3, h4⟩ := h2
  exact ⟨fields, by rw [h1, h3], h4⟩
theorem TOk.inf (h : TOk P t i) : ∃ q, P.info? t = some q ∧ q.zero = some (toVal i.zero) ∧ q.size = i.size ∧ q.bytes = i.bytes := by
  have h1 := h.info
  cases hq : P.info? t with
  | none => simp [hq] at h1
  | some q =>
    simp only [hq, Option.map_some, Option.some.injEq, Prod.mk.injEq] at h1
    exact ⟨q, rfl, h1.1, h1.2.1, h1.2.2⟩
theorem TOk.run_sizeOf (h : TOk P t i) : (sizeOf t).run P w = .ok i.size w := by
  obtain ⟨q, h1, _, h3, _⟩ := h.inf
  simp [sizeOf, typeInfo, h1, h3]
theorem TOk.run_zero (h : TOk P t i) : (zeroValue t).run P w = .ok (toVal i.zero) w := by
  obtain ⟨q, h1, h2, _, _⟩ := h.inf
  simp [zeroValue, typeInfo, h1, h2]
theorem TOk.run_isAgg (h : TOk P t i) : (isAgg t).run P w = .ok i.isAgg w := by
  obtain ⟨d, h1, h2⟩ := h.und
  have hu := run_underlying h1 w
  unfold TI.isAgg
  cases hk : i.kind <;> rw [hk] at h2 <;> simp only [KindOk] at h2
  case struct => obtain ⟨f, rfl, _⟩ := h2; simp [isAgg, hu]
  case func => obtain ⟨_, _, _, rfl⟩ := h2; simp [isAgg, hu]
  case iface => obtain ⟨_, rfl⟩ := h2; simp [isAgg, hu]
  case other =>
    obtain ⟨h3, h4⟩ := h2
    simp only [isAgg, Sem.run_bind, hu, Result.andThen_ok]
    cases d <;> first | rfl | exact absurd rfl (h3 _) | exact absurd rfl (h4 _ _)
  all_goals (subst h2; simp [isAgg, hu])
end
end Go.Ev
