/- What the evaluator tells of an operation on values is what the model's operation does. -/
import Derived.Test.YtllgdcepgelahaaDoorEv4
import Derived.Laws.Cells
import Derived.Laws.Append
import Derived.Laws.AppendOwn
import Derived.Laws.MakeOwn
import Derived.Laws.IdiomCopy
import Derived.Laws.Slices
namespace Go.Ev

theorem sel_iff {R : Type} {b : Bool} {x : Option R} {r : R} : sel b x none = some r ↔ b = true ∧ x = some r := by cases b <;> simp [sel]
theorem sel_iff' {R : Type} {b : Bool} {x : Option R} {r : R} : sel b none x = some r ↔ b = false ∧ x = some r := by cases b <;> simp [sel]

section
variable {P : Program} {E : Env} {C : Cx} {w : World}

mutual
theorem rel_ofVal (C : Cx) : ∀ (d : Nat) (v : Value), rel C (ofVal d v) v
  | d, .int k n => by cases d <;> simp [ofVal, rel]
  | d, .bool b => by cases d <;> simp [ofVal, rel]
  | d, .string s => by cases d <;> simp [ofVal, rel]
  | d, .pointer none => by cases d <;> simp [ofVal, rel]
  | d, .pointer (some _) => by cases d <;> simp [ofVal, rel]
  | d, .slice a l c => by
    unfold ofVal
    split <;> first | (simp_all [rel]; done) | trivial
  | d, .nilFunc => by cases d <;> simp [ofVal, rel]
  | d, .nilIface => by cases d <;> simp [ofVal, rel]
  | 0, .agg cs => by simp [ofVal, rel]
  | d + 1, .agg cs => by
    rw [ofVal, rel]
    exact ⟨cs.toList, by simp, relL_ofVal C d cs.toList⟩
  | 0, .tuple cs => by simp [ofVal, rel]
  | d + 1, .tuple cs => by
    rw [ofVal, rel]
    exact ⟨cs.toList, by simp, relL_ofVal C d cs.toList⟩
  | d, .float _ _ => by cases d <;> simp [ofVal, rel]
  | d, .complex _ _ _ => by cases d <;> simp [ofVal, rel]
  | d, .map _ => by cases d <;> simp [ofVal, rel]
  | d, .chan _ => by cases d <;> simp [ofVal, rel]
  | d, .func _ _ _ => by cases d <;> simp [ofVal, rel]
  | d, .iface _ _ => by cases d <;> simp [ofVal, rel]
theorem relL_ofVal (C : Cx) : ∀ (d : Nat) (vs : List Value), relL C (vs.map (ofVal d)) vs
  | _, [] => rfl
  | d, v :: vs => ⟨v, vs, rfl, rel_ofVal C d v, relL_ofVal C d vs⟩
end

theorem run_eq_bool {xt : TypeId} (hu : P.underlying xt = some .bool) (a b : Bool) (d : Nat) (w : World) : (Op.equalIn (d + 1) xt (.bool a) (.bool b)).run P w = .ok (a == b) w := by
  simp [Op.equalIn, run_underlying hu]
theorem binA_ok {op : BinOp} {x y z : AV} {u v : Value} {xt : TypeId} (X Y : Operand) (hE : EnvOk E P) (h : binA E op xt x y some = some z) (hx : rel C x u) (hy : rel C y v) :
    (eqGuard op xt X Y u v).run P w = .ok () w ∧ ∃ q, (binOp op xt u v).run P w = .ok q w ∧ rel C z q := by
  unfold binA at h
  simp only [addW_eq, subW_eq, mulW_eq, quoW_eq, remW_eq, shlW_eq, shrW_eq, andW_eq, orW_eq, xorW_eq, andNotW_eq] at h
  split at h
  · rename_i k a k' b
    cases hx; cases hy
    refine ⟨by unfold eqGuard; cases op <;> rfl, ?_⟩
    split at h
    · obtain ⟨h1, h2⟩ := sel_iff.1 h
      cases h2
      have h1 : ¬ b < 0 := by simpa using h1
      exact ⟨_, by simp [binOp, Op.shift, h1], rfl⟩
    · obtain ⟨h1, h2⟩ := sel_iff.1 h
      cases h2
      have h1 : ¬ b < 0 := by simpa using h1
      exact ⟨_, by simp [binOp, Op.shift, h1], rfl⟩
    · rename_i n1 n2
      obtain ⟨h1, h2⟩ := sel_iff.1 h
      have h1 : k = k' := by simpa using h1
      subst h1
      split at h2
      · cases h2; exact ⟨_, by simp [binOp, Op.intArith], rfl⟩
      · cases h2; exact ⟨_, by simp [binOp, Op.intArith], rfl⟩
      · cases h2; exact ⟨_, by simp [binOp, Op.intArith], rfl⟩
      · obtain ⟨h3, h4⟩ := sel_iff'.1 h2
        cases h4
        have h3 : ¬ b = 0 := by simpa using h3
        exact ⟨_, by simp [binOp, Op.intDiv, h3], rfl⟩
      · obtain ⟨h3, h4⟩ := sel_iff'.1 h2
        cases h4
        have h3 : ¬ b = 0 := by simpa using h3
        exact ⟨_, by simp [binOp, Op.intDiv, h3], rfl⟩
      · cases h2; exact ⟨_, by simp [binOp]; rfl, rfl⟩
      · cases h2; exact ⟨_, by simp [binOp]; rfl, rfl⟩
      · cases h2; exact ⟨_, by simp [binOp]; rfl, rfl⟩
      · cases h2; exact ⟨_, by simp [binOp]; rfl, rfl⟩
      · unfold cmpI at h2
        cases op <;> simp only [] at h2 <;> first
          | exact absurd rfl n1
          | (cases h2; exact ⟨_, by simp [binOp, Op.intCmp]; rfl, rfl⟩)
          | (cases h2; exact ⟨_, by simp [binOp, Op.intCmp], rfl⟩)
          | (cases h2; done)
          | (exfalso; simp_all; done)
  · rename_i a b
    cases hx; cases hy
    refine ⟨by unfold eqGuard; cases op <;> rfl, ?_⟩
    split at h
    · rename_i ht
      have hu := (hE _ _ ht).und_bool rfl
      have he : ∀ w, (Op.equal xt (.bool a) (.bool b)).run P w = .ok (a == b) w := fun w => run_eq_bool hu a b 9999 w
      split at h
      · cases h; exact ⟨_, by simp [binOp, he], rfl⟩
      · cases h; exact ⟨_, by simp [binOp, he], rfl⟩
      · cases h
    · cases h
  · cases h

theorem unA_ok {op : UnOp} {x z : AV} {u : Value} (h : unA op x some = some z) (hx : rel C x u) : ∃ q, (Op.unary op u).run P w = .ok q w ∧ rel C z q := by
  unfold unA at h
  simp only [negW_eq, notW_eq] at h
  split at h
  · cases hx; cases h; exact ⟨_, rfl, rfl⟩
  · cases hx; cases h; exact ⟨_, rfl, rfl⟩
  · cases hx; cases h; exact ⟨_, rfl, rfl⟩
  · cases h

theorem cvtA_ok (hE : EnvOk E P) {src dst : TypeId} {x z : AV} {u : Value} (h : cvtA E src dst x some = some z) (hx : rel C x u) : ∃ q, (convert src dst u).run P w = .ok q w ∧ rel C z q := by
  unfold cvtA at h
  simp only [cvtW_eq] at h
  split at h
  · rename_i i k _ _ _ _ n h1 h2
    cases hx; cases h
    obtain ⟨d, hd, _⟩ := (hE _ _ h1).und
    have hu := (hE _ _ h2).und_int rfl
    exact ⟨_, by simp [convert, run_underlying hd, run_underlying hu, Conv.intToInt], rfl⟩
  · cases h

theorem relB_get {c : Blk} {us : List Value} {i : Nat} {v : AV} (h : c.get i some = some v) (hr : relB C c us) : ∃ u, us[i]? = some u ∧ rel C v u := by
  unfold Blk.get at h
  split at h
  · rename_i k xs
    obtain ⟨h1, h2⟩ := sel_iff.1 h
    have h1 : i < xs.length := by simpa using h1
    have hr : us = _ := hr
    cases h2
    subst hr
    exact ⟨.int k (xs.getD i 0), by simp [List.getD_eq_getElem?_getD, h1], rfl⟩
  · rename_i xs
    obtain ⟨h1, h2⟩ := sel_iff.1 h
    have h1 : i < xs.length := by simpa using h1
    have hr : us = _ := hr
    cases h2
    subst hr
    exact ⟨.bool (xs.getD i false), by simp [List.getD_eq_getElem?_getD, h1], rfl⟩
  · rename_i cs
    split at h
    · rename_i v' hv
      cases h
      exact relL_get i _ hr hv
    · cases h
  · cases h

theorem relB_sub {c d : Blk} {us : List Value} {off n : Nat} (h : c.sub off n some = some d) (hr : relB C c us) : off + n ≤ us.length ∧ relB C d ((us.drop off).take n) ∧ d.clen = n := by
  have hl := relB_length hr
  unfold Blk.sub at h
  split at h
  · obtain ⟨h1, h2⟩ := sel_iff.1 h
    have h1 := of_decide_eq_true h1
    have hr : us = _ := hr
    cases h2
    subst hr
    refine ⟨by simpa using h1, ?_, by simp [Blk.clen]; omega⟩
    simp [relB, List.map_take, List.map_drop]
  · obtain ⟨h1, h2⟩ := sel_iff.1 h
    have h1 := of_decide_eq_true h1
    have hr : us = _ := hr
    cases h2
    subst hr
    refine ⟨by simpa using h1, ?_, by simp [Blk.clen]; omega⟩
    simp [relB, List.map_take, List.map_drop]
  · obtain ⟨h1, h2⟩ := sel_iff.1 h
    have h1 := of_decide_eq_true h1
    cases h2
    refine ⟨by rw [hl]; exact h1, relL_take n (relL_drop off hr), by simp [Blk.clen]; omega⟩
  · cases h

theorem run_part (hE : EnvOk E P) {t : TypeId} {c : Blk} {us : List Value} {off : Nat} {z : AV} (h : partA E t c off some = some z) (hr : relB C c us) :
    ∃ q, (part t us.toArray off).run P w = .ok q w ∧ rel C z q := by
  unfold partA at h
  split at h
  · rename_i i hi
    have hT := hE _ _ hi
    cases ha : i.isAgg with
    | true =>
      rw [ha] at h
      simp only [sel_true] at h
      have e := Blk.sub_push c off i.size some (fun d => some (AV.agg d))
      simp only [Option.bind_some] at e
      rw [← e] at h
      obtain ⟨d, h1, h2⟩ := of_bind h
      cases h2
      obtain ⟨h3, h4, _⟩ := relB_sub h1 hr
      refine ⟨.agg ((us.toArray).extract off (off + i.size)), by simp [part, hT.run_isAgg, ha, hT.run_sizeOf], (us.drop off).take i.size, ?_, h4⟩
      simp
    | false =>
      rw [ha] at h
      simp only [sel_false] at h
      obtain ⟨u, h1, h2⟩ := relB_get h hr
      exact ⟨u, by simp [part, hT.run_isAgg, ha, h1], h2⟩
  · cases h

theorem add_mk (g o n : Nat) : (⟨g, o, none⟩ : Addr).add n = ⟨g, o + n, none⟩ := by unfold Addr.add; split <;> simp_all
theorem add_spot {a : Addr} (h : a.spot = none) (n : Nat) : a.add n = ⟨a.block, a.off + n, none⟩ := by
  obtain ⟨g, o, s⟩ := a; cases h; exact add_mk g o n

theorem cellsAt_drop {w : World} {a : Addr} {us : List Value} (hs : a.spot = none) (h : cellsAt w a us) (n : Nat) : cellsAt w (a.add n) (us.drop n) := by
  intro i u hi
  rw [List.getElem?_drop] at hi
  have := h (n + i) u hi
  rw [add_spot hs] at this ⊢
  rw [add_mk]
  rw [← this]; congr 2; omega
theorem cellsAt_take {w : World} {a : Addr} {us : List Value} (h : cellsAt w a us) (n : Nat) : cellsAt w a (us.take n) := by
  intro i u hi
  exact h i u (by rw [List.getElem?_take] at hi; split at hi; exact hi; cases hi)

theorem relR_row {sz : Nat} : ∀ {rs : List (List AV)} {us : List Value} (i : Nat), relR C sz rs us → i < rs.length → relL C (rs.getD i []) ((us.drop (i * sz)).take sz)
  | [], _, i, _, h => by simp at h
  | r :: rs, _, 0, ⟨u1, u2, he, hl, h1, h2⟩, _ => by
    subst he
    have hl1 : u1.length = sz := by rw [relL_length h1, hl]
    simp [← hl1]
    exact h1
  | r :: rs, _, i + 1, ⟨u1, u2, he, hl, h1, h2⟩, h => by
    subst he
    have hl1 : u1.length = sz := by rw [relL_length h1, hl]
    have := relR_row i h2 (by simpa using h)
    rw [show (i + 1) * sz = u1.length + i * sz from by rw [Nat.succ_mul, hl1]; omega, ← List.drop_drop]
    simpa using this

theorem relB_row {c : Blk} {us : List Value} {i : Nat} (hr : relB C c us) (hi : i < c.num) : relB C (rowAt c i) ((us.drop (i * c.esz)).take c.esz) := by
  cases c with
  | ints k xs =>
    have hr : us = _ := hr
    have hi : i < xs.length := hi
    subst hr
    have e : ((xs.map (Value.int k)).drop i).take 1 = [.int k (xs.getD i 0)] := by
      rw [← List.map_drop, ← List.map_take, List.take_one, List.head?_drop]
      simp [hi]
    simp only [rowAt, relB, Blk.esz, Nat.mul_one, e]
    exact ⟨_, _, rfl, rfl, rfl⟩
  | bools xs =>
    have hr : us = _ := hr
    have hi : i < xs.length := hi
    subst hr
    have e : ((xs.map Value.bool).drop i).take 1 = [.bool (xs.getD i false)] := by
      rw [← List.map_drop, ← List.map_take, List.take_one, List.head?_drop]
      simp [hi]
    simp only [rowAt, relB, Blk.esz, Nat.mul_one, e]
    exact ⟨_, _, rfl, rfl, rfl⟩
  | any cs =>
    have hi : i < cs.length := hi
    have hq : cs[i]? = some (cs.getD i .undef) := by simp [hi]
    obtain ⟨u, h1, h2⟩ := relL_get i _ hr hq
    have e : (us.drop i).take 1 = [u] := by
      rw [List.take_one, List.head?_drop, h1]; rfl
    simp only [rowAt, relB, Blk.esz, Nat.mul_one, e]
    exact ⟨_, _, rfl, h2, rfl⟩
  | rows sz rs => exact relR_row i hr.2 hi

theorem num_esz {c : Blk} {us : List Value} (hr : relB C c us) : us.length = c.num * c.esz := by
  rw [relB_length hr]
  cases c <;> simp [Blk.clen, Blk.num, Blk.esz, nmul_eq]

theorem esz_pos {c : Blk} {us : List Value} (hr : relB C c us) : 0 < c.esz := by
  cases c <;> simp [Blk.esz]
  exact hr.1

theorem rel_up {v : AV} {u : Value} (h : rel C.z v u) : rel C v u := rel_step (Step.up C) v u h
theorem relB_up {c : Blk} {us : List Value} (h : relB C.z c us) : relB C c us := relB_step (Step.up C) c us h

theorem idxAddrA_ok (hE : EnvOk E P) {t : TypeId} {x z : AV} {u : Value} {k : IntKind} {i : Int} (h : idxAddrA E t x i some = some z) (hx : rel C x u) :
    ∃ q, (Instr.indexAt t u (.int k i)).run P C.w = .ok q C.w ∧ rel C z q := by
  unfold idxAddrA at h
  split at h
  · rename_i e _ _ _ ht
    have hu := (hE _ _ ht).und_slice rfl
    split at h
    · rename_i ie he
      have hs := fun w => (hE _ _ he).run_sizeOf (w := w)
      split at h
      · rename_i b off len sz
        obtain ⟨h1, h⟩ := sel_iff.1 h
        obtain ⟨h2, h⟩ := sel_iff.1 h
        obtain ⟨h3, h⟩ := sel_iff.1 h
        have h1 : ie.size = sz := by simpa using h1
        have h2 : 0 ≤ i := by simpa using h2
        have h3 : i < (len : Int) := by simpa using h3
        cases h
        obtain ⟨a, cap, rfl, hl, hm, hp⟩ := hx
        obtain ⟨g, hg, rfl, _⟩ := hp.resolve_left (by omega)
        refine ⟨.pointer (some ⟨g, off + i.toNat * sz, none⟩), ?_, g, hg, by rw [nadd_eq, nmul_eq]⟩
        simp [Instr.indexAt, asIntOf, run_underlying hu, h2, h3, hs, h1, add_mk]
      · rename_i c
        obtain ⟨h1, h⟩ := sel_iff.1 h
        obtain ⟨h2, h⟩ := sel_iff.1 h
        obtain ⟨h3, h⟩ := sel_iff.1 h
        have h1 : ie.size = c.esz := by simpa using h1
        have h2 : 0 ≤ i := by simpa using h2
        have h3 : i < (c.num : Int) := by simpa using h3
        cases h
        obtain ⟨a, cap, us, rfl, hcap, hr, hn, hp⟩ := hx
        have hpos := esz_pos hr
        have hne : us ≠ [] := by
          rintro rfl
          have : 0 < c.num * c.esz := Nat.mul_pos (by omega) hpos
          simp at hn
          omega
        obtain ⟨p, rfl, hps, hw, hc⟩ := hp.resolve_left hne
        refine ⟨.pointer (some (p.add (i.toNat * c.esz))), ?_, p.add (i.toNat * c.esz), (us.drop (i.toNat * c.esz)).take c.esz, rfl, by rw [add_spot hps], relB_row hr (by omega), .inr (by rw [block_add]; exact hw), cellsAt_take (cellsAt_drop hps hc _) _⟩
        simp [Instr.indexAt, asIntOf, run_underlying hu, h2, h3, hs, h1]
      · cases h
    · cases h
  · rename_i n e _ _ _ ht
    have hu := (hE _ _ ht).und_array rfl
    split at h
    · rename_i ie he
      have hs := fun w => (hE _ _ he).run_sizeOf (w := w)
      split at h
      · rename_i b off
        obtain ⟨h2, h⟩ := sel_iff.1 h
        obtain ⟨h3, h⟩ := sel_iff.1 h
        have h2 : 0 ≤ i := by simpa using h2
        have h3 : i < (n : Int) := by simpa using h3
        cases h
        obtain ⟨g, hg, rfl⟩ := hx
        refine ⟨.pointer (some ⟨g, off + i.toNat * ie.size, none⟩), ?_, g, hg, by rw [nadd_eq, nmul_eq]⟩
        simp [Instr.indexAt, asIntOf, run_underlying hu, h2, h3, hs, add_mk, Instr.sureAddr]
      · rename_i c
        obtain ⟨h1, h⟩ := sel_iff.1 h
        obtain ⟨h0, h⟩ := sel_iff.1 h
        obtain ⟨h2, h⟩ := sel_iff.1 h
        obtain ⟨h3, h⟩ := sel_iff.1 h
        have h1 : ie.size = c.esz := by simpa using h1
        have h0 : n = c.num := by simpa using h0
        have h2 : 0 ≤ i := by simpa using h2
        have h3 : i < (n : Int) := by simpa using h3
        cases h
        obtain ⟨p, us, rfl, hps, hr, hw, hc⟩ := hx
        have hpos := esz_pos hr
        have hne : us ≠ [] := by
          rintro rfl
          have hn := num_esz hr
          have : 0 < c.num * c.esz := Nat.mul_pos (by omega) hpos
          simp at hn
          omega
        refine ⟨.pointer (some (p.add (i.toNat * c.esz))), ?_, p.add (i.toNat * c.esz), (us.drop (i.toNat * c.esz)).take c.esz, rfl, by rw [add_spot hps], relB_row hr (by omega), .inr (by rw [block_add]; exact hw.resolve_left hne), cellsAt_take (cellsAt_drop hps hc _) _⟩
        simp [Instr.indexAt, asIntOf, run_underlying hu, h2, h3, hs, h1, Instr.sureAddr]
      · cases h
    · cases h
  · cases h
end
end Go.Ev
