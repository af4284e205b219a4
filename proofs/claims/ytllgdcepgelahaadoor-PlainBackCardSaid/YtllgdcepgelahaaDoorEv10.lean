/- Operations on memory: literals, append, copy. -/
import Derived.Test.YtllgdcepgelahaaDoorEv9
namespace Go.Ev
section
variable {P : Program} {E : Env} {X : Nat → Prop} {h h1 : H} {m : Nat → Option Nat} {w w1 : World} {C : Cx} {slot : Nat}

/-- a fold of sets writes a part -/
theorem foldl_set (off : Nat) : ∀ (vs : List Value) (j : Nat) (cs : Array Value), off + j + vs.length ≤ cs.size →
    ((vs.zipIdx j).foldl (fun (cs : Array Value) (c, j) => cs.setIfInBounds (off + j) c) cs) = (cs.toList.take (off + j) ++ (vs ++ cs.toList.drop (off + j + vs.length))).toArray
  | [], j, cs, _ => by simp
  | v :: vs, j, cs, hl => by
    rw [List.zipIdx_cons, List.foldl_cons, foldl_set off vs (j + 1) _ (by simp at hl ⊢; omega)]
    congr 1
    have e := list_seg_step cs.toList (off + j) v vs (by simp at hl ⊢; omega)
    simp only [List.append_assoc] at e
    simpa [Array.toList_setIfInBounds, Nat.add_assoc] using e

def relP (C : Cx) (place : Nat → Option (Nat × Nat)) : List (Nat × Nat × AV) → List (Nat × Value) → Prop
  | [], ps => ps = []
  | (off, size, v) :: r, ps => ∃ j u q, ps = (j, u) :: q ∧ place j = some (off, size) ∧ rel C v u ∧ relP C place r q

theorem partOk_cases {v : AV} (h : v.partOk = true) : (∃ c, v = .agg c) ∨ v.isCell = true := by
  cases v <;> simp [AV.partOk, AV.isCell] at h ⊢

theorem fill_ok {place : Nat → Option (Nat × Nat)} : ∀ {ps : List (Nat × Nat × AV)} {qs : List (Nat × Value)} {cs cs' : List AV} {us : List Value}, fillA cs ps = some cs' → relP C place ps qs → relL C cs us →
    ∃ us', Instr.fill place us.toArray qs = some us'.toArray ∧ relL C cs' us'
  | [], _, cs, cs', us, h, hp, hr => by
    have hp : _ = [] := hp
    subst hp
    cases h
    exact ⟨us, rfl, hr⟩
  | (off, size, v) :: r, _, cs, cs', us, h, ⟨j, u, q, he, hpl, hv, hq⟩, hr => by
    subst he
    have hlu := relL_length hr
    simp only [fillA] at h
    split at h
    · rename_i hc
      obtain ⟨hc1, hc2, hc3⟩ := hc
      have hb := rel_blk hv (partOk_cases hc3)
      have hb2 := relB_cells hb
      have hlen := relL_length hb2
      have hsz : u.cells.size = size := by
        have := hlen
        rw [Array.length_toList] at this
        omega
      have hw := foldl_set off u.cells.toList 0 us.toArray (by simp; omega)
      obtain ⟨us', h1, h2⟩ := fill_ok h hq (us := us.take off ++ (u.cells.toList ++ us.drop (off + size))) (by
        refine relL_append (relL_take _ hr) (relL_append hb2 ?_)
        exact relL_drop _ hr)
      refine ⟨us', ?_, h2⟩
      rw [← h1]
      simp only [Instr.fill, hpl, hsz]
      rw [if_neg (by simp; omega)]
      congr 1
      have hz : u.cells.zipIdx.toList = u.cells.toList.zipIdx := by simp
      rw [← Array.foldl_toList, hz]
      simp only [Nat.add_zero, Array.length_toList, hsz] at hw
      exact hw
    · cases h

def relQ (C : Cx) : List (Nat × AV) → List (Nat × Value) → Prop
  | [], qs => qs = []
  | (j, v) :: r, qs => ∃ u q, qs = (j, u) :: q ∧ rel C v u ∧ relQ C r q
theorem relQ_map {f : Operand → AV} {g : Operand → Value} (hf : ∀ x, rel C (f x) (g x)) : ∀ (ps : List (Nat × Operand)), relQ C (ps.map fun p => (p.1, f p.2)) (ps.map fun p => (p.1, g p.2))
  | [] => rfl
  | _ :: ps => ⟨_, _, rfl, hf _, relQ_map hf ps⟩
theorem placeParts_ok {pl : Nat → Option (Nat × Nat)} : ∀ {parts : List (Nat × AV)} {ps : List (Nat × Nat × AV)} {qs : List (Nat × Value)}, placeParts pl parts = some ps → relQ C parts qs → relP C pl ps qs
  | [], ps, qs, h, hq => by
    have hq : _ = [] := hq
    cases h; subst hq; rfl
  | (j, v) :: r, ps, qs, h, ⟨u, q, he, hv, hq⟩ => by
    subst he
    simp only [placeParts] at h
    split at h
    · rename_i o s hp
      split at h
      · rename_i l hl
        cases h
        exact ⟨j, u, q, rfl, hp, hv, placeParts_ok hl hq⟩
      · cases h
    · cases h

theorem places_ok (hE : EnvOk E P) : ∀ {fs : List (TypeId × Nat)} {pl : List (Nat × Nat)} {fields : List Field}, places E fs = some pl → fields.map (fun f => (f.type, f.offset)) = fs →
    fields.mapM (fun f => (P.info? f.type).map fun i => (f.offset, i.size)) = some pl
  | [], pl, fields, h, hf => by cases h; cases fields <;> simp at hf ⊢
  | (ft, o) :: r, pl, fields, h, hf => by
    cases fields with
    | nil => simp at hf
    | cons f fields =>
      simp only [List.map_cons, List.cons.injEq, Prod.mk.injEq] at hf
      obtain ⟨⟨rfl, rfl⟩, hf⟩ := hf
      simp only [places] at h
      split at h
      · rename_i k hk
        split at h
        · rename_i l hl
          cases h
          obtain ⟨q, hq, _, hs, _⟩ := (hE _ _ hk).inf
          simp [List.mapM_cons, hq, places_ok hE hl hf, hs]
        · cases h
      · cases h

theorem intsOf_ok {k : IntKind} : ∀ {cs : List AV} {l : List Int}, intsOf k cs = some l → cs = l.map (.int k)
  | [], l, h => by cases h; rfl
  | .int k' n :: r, l, h => by
    simp only [intsOf] at h
    split at h
    · rename_i hk; subst hk
      split at h
      · rename_i l' hl; cases h; rw [intsOf_ok hl]; rfl
      · cases h
    · cases h
  | .undef :: _, _, h | .bool _ :: _, _, h | .str _ :: _, _, h | .nilptr :: _, _, h | .ptr _ _ :: _, _, h | .fptr _ :: _, _, h | .esl :: _, _, h | .sl _ _ _ _ :: _, _, h | .fsl _ :: _, _, h | .agg _ :: _, _, h | .tup _ :: _, _, h | .fn _ _ :: _, _, h | .nilfn :: _, _, h | .nilif :: _, _, h | .iface _ _ :: _, _, h => by simp [intsOf] at h
theorem boolsOf_ok : ∀ {cs : List AV} {l : List Bool}, boolsOf cs = some l → cs = l.map .bool
  | [], l, h => by cases h; rfl
  | .bool b :: r, l, h => by
    simp only [boolsOf] at h
    split at h
    · rename_i l' hl; cases h; rw [boolsOf_ok hl]; rfl
    · cases h
  | .undef :: _, _, h | .int _ _ :: _, _, h | .str _ :: _, _, h | .nilptr :: _, _, h | .ptr _ _ :: _, _, h | .fptr _ :: _, _, h | .esl :: _, _, h | .sl _ _ _ _ :: _, _, h | .fsl _ :: _, _, h | .agg _ :: _, _, h | .tup _ :: _, _, h | .fn _ _ :: _, _, h | .nilfn :: _, _, h | .nilif :: _, _, h | .iface _ _ :: _, _, h => by simp [boolsOf] at h
theorem relL_mapI {k : IntKind} : ∀ {l : List Int} {us : List Value}, relL C (l.map (.int k)) us → us = l.map (Value.int k)
  | [], _, h => h
  | n :: l, _, ⟨u, r, he, h1, h2⟩ => by subst he; cases h1; rw [relL_mapI h2]; rfl
theorem relL_mapB : ∀ {l : List Bool} {us : List Value}, relL C (l.map .bool) us → us = l.map Value.bool
  | [], _, h => h
  | n :: l, _, ⟨u, r, he, h1, h2⟩ => by subst he; cases h1; rw [relL_mapB h2]; rfl
theorem mkRow_ok {i : TI} {cs : List AV} {c : Blk} {us : List Value} (h : mkRow i cs = some c) (hr : relL C cs us) : relB C c us := by
  unfold mkRow at h
  split at h
  · split at h
    · rename_i l hl; cases h; rw [intsOf_ok hl] at hr; exact relL_mapI hr
    · cases h
  · split at h
    · rename_i l hl; cases h; rw [boolsOf_ok hl] at hr; exact relL_mapB hr
    · cases h
  · split at h
    · cases h; exact hr
    · cases h

theorem zero_cells (hE : EnvOk E P) {t : TypeId} {i : TI} (ht : E.T t = some i) : relL C i.zero.blk.cells (toVal i.zero).cells.toList :=
  relB_cells (rel_blk (rel_toVal C i.zero (hE _ _ ht).zk) (isK_cases (hE _ _ ht).zk))

theorem buildA_ok (hE : EnvOk E P) {t : TypeId} {parts : List (Nat × AV)} {z : AV} {qs : List (Nat × Value)} (h : buildA E t parts = some z) (hq : relQ C parts qs) :
    ∃ q, (Instr.build t qs.toArray).run P w = .ok q w ∧ rel C z q := by
  unfold buildA at h
  split at h
  · rename_i i ht
    have hz0 := zero_cells (C := C) hE ht
    obtain ⟨it, hit, hz, _, _⟩ := (hE _ _ ht).inf
    split at h
    · rename_i fs hk
      obtain ⟨fields, hu, hf⟩ := (hE _ _ ht).und_struct hk
      split at h
      · rename_i pl hpl
        split at h
        · rename_i ps hps
          split at h
          · rename_i cs hcs
            cases h
            obtain ⟨us', h1, h2⟩ := fill_ok hcs (placeParts_ok hps hq) hz0
            refine ⟨.agg us'.toArray, run_build w t qs.toArray us'.toArray ?_, us', rfl, h2⟩
            simp only [Program.built, hit, hu, hz, places_ok hE hpl hf]
            simpa using h1
          · cases h
        · cases h
      · cases h
    · rename_i n e hk
      have hu := (hE _ _ ht).und_array hk
      split at h
      · rename_i k he
        obtain ⟨ie, hie, _, hs, _⟩ := (hE _ _ he).inf
        split at h
        · rename_i ps hps
          split at h
          · rename_i cs hcs
            split at h
            · rename_i c hc
              cases h
              obtain ⟨us', h1, h2⟩ := fill_ok hcs (placeParts_ok hps hq) hz0
              refine ⟨.agg us'.toArray, run_build w t qs.toArray us'.toArray ?_, us', rfl, mkRow_ok hc h2⟩
              simp only [Program.built, hit, hu, hz, hie, hs]
              simpa using h1
            · cases h
          · cases h
        · cases h
      · cases h
    · cases h
  · cases h
end
end Go.Ev
