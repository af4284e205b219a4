/- Operations on memory: reading, storing. -/
import Derived.Test.YtllgdcepgelahaaDoorEv7
namespace Go.Ev
section
variable {P : Program} {E : Env} {X : Nat → Prop} {h h1 : H} {m : Nat → Option Nat} {w w1 : World} {C : Cx}

theorem run_readVar (hE : EnvOk E P) {t : TypeId} {i : TI} {c : Blk} {off : Nat} {z : AV} {us : List Value} {a : Addr} (ht : E.T t = some i) (h : readVar i c off some = some z) (hr : relB C c us) (hs : a.spot = none) (hc : cellsAt C.w a us) :
    ∃ q, (loadVar t (a.add off)).run P C.w = .ok q C.w ∧ rel C z q := by
  have hT := hE _ _ ht
  unfold readVar at h
  cases ha : i.isAgg with
  | true =>
    rw [ha] at h
    simp only [sel_true] at h
    have e := Blk.sub_push c off i.size some (fun d => some (AV.agg d))
    simp only [Option.bind_some] at e
    rw [← e] at h
    obtain ⟨d, h1, h2⟩ := of_bind h
    cases h2
    obtain ⟨h3, h4, _⟩ := relB_sub h1 hr
    have hcs := cellsAt_take (cellsAt_drop hs hc off) i.size
    have hl : ((us.drop off).take i.size).length = i.size := by simp; omega
    have hL := run_loadCells_list (P := P) C.w (a.add off) _ (fun j v hj => hcs j v hj)
    rw [hl] at hL
    exact ⟨_, by simp [loadVar, hT.run_isAgg, ha, hT.run_sizeOf, hL], _, rfl, h4⟩
  | false =>
    rw [ha] at h
    simp only [sel_false] at h
    obtain ⟨u, h1, h2⟩ := relB_get h hr
    exact ⟨u, by simp [loadVar, hT.run_isAgg, ha, hc off u h1], h2⟩

theorem loadA_ok (hE : EnvOk E P) (g : Good E X h m w) {t : TypeId} {x z : AV} {u : Value} (hl : loadA E h t x some = some z) (hx : rel (cx X h m w) x u) :
    ∃ q, (Instr.loadAt t u).run P w = .ok q w ∧ rel (cx X h m w) z q := by
  unfold loadA at hl
  split at hl
  · rename_i i ht
    split at hl
    · rename_i b off
      obtain ⟨q, hq, rfl⟩ := hx
      split at hl
      · rename_i c hb
        obtain ⟨us, arr, T, h1, _, _, _, h5⟩ := g.block hb hq
        obtain ⟨v, h6, h7⟩ := run_readVar (C := cx X h m w) (a := ⟨q, 0, none⟩) hE ht hl h1 rfl h5
        rw [add_mk, Nat.zero_add] at h6
        have h6 : (loadVar t ⟨q, off, none⟩).run P w = .ok v w := h6
        exact ⟨v, by simpa [Instr.loadAt, Instr.sureAddr] using h6, h7⟩
      · cases hl
    · rename_i c _
      obtain ⟨p, us, rfl, hs, hr, _, hc⟩ := hx
      obtain ⟨v, h6, h7⟩ := run_readVar (C := cx X h m w) hE ht hl (relB_up hr) hs hc
      have e : p.add 0 = p := by simp [Addr.add]
      rw [e] at h6
      have h6 : (loadVar t p).run P w = .ok v w := h6
      exact ⟨v, by simpa [Instr.loadAt, Instr.sureAddr] using h6, h7⟩
    · cases hl
  · cases hl

theorem relB_put {c d c' : Blk} {us vs : List Value} {off : Nat} (h : c.put off d some = some c') (hr : relB C c us) (hd : relB C d vs) :
    off + vs.length ≤ us.length ∧ relB C c' (us.take off ++ (vs ++ us.drop (off + vs.length))) ∧ ∀ v ∈ vs, v.oneCell' = true := by
  unfold Blk.put at h
  split at h
  · rename_i k xs k' ys
    obtain ⟨h0, h⟩ := sel_iff.1 h
    obtain ⟨h1, h⟩ := sel_iff.1 h
    have h0 := of_decide_eq_true h0
    have h1 := of_decide_eq_true h1
    cases h; subst h0
    have hr : us = _ := hr
    have hd : vs = _ := hd
    subst hr hd
    refine ⟨by simpa using h1, by simp [relB, List.map_take, List.map_drop], ?_⟩
    intro v hv
    obtain ⟨y, _, rfl⟩ := List.mem_map.1 hv
    rfl
  · rename_i xs ys
    obtain ⟨h1, h⟩ := sel_iff.1 h
    have h1 := of_decide_eq_true h1
    cases h
    have hr : us = _ := hr
    have hd : vs = _ := hd
    subst hr hd
    refine ⟨by simpa using h1, by simp [relB, List.map_take, List.map_drop], ?_⟩
    intro v hv
    obtain ⟨y, _, rfl⟩ := List.mem_map.1 hv
    rfl
  · rename_i cs ds
    obtain ⟨h0, h⟩ := sel_iff.1 h
    obtain ⟨h1, h⟩ := sel_iff.1 h
    have h1 := of_decide_eq_true h1
    cases h
    have hl1 := relL_length hr
    have hl2 := relL_length hd
    refine ⟨by rw [hl1, hl2]; exact h1, ?_, ?_⟩
    · rw [hl2]; exact relL_append (relL_take _ hr) (relL_append hd (relL_drop _ hr))
    · intro v hv
      obtain ⟨i, hi, rfl⟩ := List.mem_iff_getElem.1 hv
      obtain ⟨u, h2, h3⟩ := relL_get i (ds[i]'(by omega)) hd (by rw [List.getElem?_eq_getElem])
      rw [List.getElem?_eq_getElem hi] at h2
      cases h2
      exact rel_oneCell h3 (by simpa using List.all_eq_true.1 h0 _ (List.getElem_mem (by omega)))
  · rename_i cs k ys
    obtain ⟨h1, h⟩ := sel_iff.1 h
    have h1 := of_decide_eq_true h1
    cases h
    have hl1 := relL_length hr
    have hd : vs = _ := hd
    subst hd
    refine ⟨by rw [hl1]; simpa using h1, ?_, ?_⟩
    · rw [List.length_map]; exact relL_append (relL_take _ hr) (relL_append (relL_ints k ys) (relL_drop _ hr))
    · intro v hv
      obtain ⟨y, _, rfl⟩ := List.mem_map.1 hv
      rfl
  · cases h

theorem set_eq_write {α : Type} (us : List α) (i : Nat) (u : α) (h : i < us.length) : us.set i u = us.take i ++ ([u] ++ us.drop (i + 1)) := by
  rw [List.set_eq_take_append_cons_drop, if_pos h]; rfl

theorem relB_set {c c' : Blk} {us : List Value} {off : Nat} {v : AV} {u : Value} (h : c.set off v some = some c') (hr : relB C c us) (hv : rel C v u) :
    off < us.length ∧ relB C c' (us.take off ++ ([u] ++ us.drop (off + 1))) ∧ u.oneCell' = true ∧ v.isCell = true := by
  unfold Blk.set at h
  split at h
  · rename_i k xs k' n
    obtain ⟨h0, h⟩ := sel_iff.1 h
    obtain ⟨h1, h⟩ := sel_iff.1 h
    have h0 := of_decide_eq_true h0
    have h1 := of_decide_eq_true h1
    cases h; subst h0
    have hr : us = _ := hr
    subst hr
    cases hv
    refine ⟨by simpa using h1, ?_, rfl, rfl⟩
    rw [← set_eq_write _ _ _ (by simpa using h1)]
    simp [relB, List.map_set]
  · rename_i xs b
    obtain ⟨h1, h⟩ := sel_iff.1 h
    have h1 := of_decide_eq_true h1
    cases h
    have hr : us = _ := hr
    subst hr
    cases hv
    refine ⟨by simpa using h1, ?_, rfl, rfl⟩
    rw [← set_eq_write _ _ _ (by simpa using h1)]
    simp [relB, List.map_set]
  · rename_i cs
    obtain ⟨h0, h⟩ := sel_iff.1 h
    obtain ⟨h1, h⟩ := sel_iff.1 h
    have h1 := of_decide_eq_true h1
    cases h
    have hl := relL_length hr
    refine ⟨by omega, ?_, rel_oneCell hv h0, h0⟩
    rw [← set_eq_write _ _ _ (by omega)]
    exact relL_set off v u hr hv
  · cases h

/-- cells written into a block: what the block then holds -/
theorem write_prefix {us vs : List Value} {arr : Array Value} {off : Nat} (h1 : us.length ≤ arr.size) (h2 : ∀ (i : Nat) u, us[i]? = some u → arr[i]? = some u) (h3 : off + vs.length ≤ us.length) :
    let arr' := (arr.toList.take off ++ vs ++ arr.toList.drop (off + vs.length)).toArray
    arr'.size = arr.size ∧ (us.take off ++ (vs ++ us.drop (off + vs.length))).length ≤ arr'.size ∧ ∀ (i : Nat) u, (us.take off ++ (vs ++ us.drop (off + vs.length)))[i]? = some u → arr'[i]? = some u := by
  intro arr'
  have hL : arr.toList.length = arr.size := Array.length_toList
  have h2' : ∀ (i : Nat) u, us[i]? = some u → arr.toList[i]? = some u := fun i u hi => by simpa using h2 i u hi
  have hs : arr'.size = arr.size := by simp only [arr', List.size_toArray, List.length_append, List.length_take, List.length_drop]; omega
  refine ⟨hs, by rw [hs]; simp only [List.length_append, List.length_take, List.length_drop]; omega, ?_⟩
  intro i u hi
  simp only [arr', List.getElem?_toArray]
  generalize arr.toList = l at hL h2'
  rw [List.append_assoc]
  rw [List.getElem?_append] at hi ⊢
  rw [List.length_take, show min off l.length = off from by omega]
  rw [List.length_take, show min off us.length = off from by omega] at hi
  split at hi
  · rename_i hlt
    rw [if_pos hlt]
    rw [List.getElem?_take] at hi ⊢
    rw [if_pos hlt] at hi ⊢
    exact h2' i u hi
  · rename_i hlt
    rw [if_neg hlt]
    rw [List.getElem?_append] at hi ⊢
    split at hi
    · rename_i h4; rw [if_pos h4]; exact hi
    · rename_i h4
      rw [if_neg h4]
      rw [List.getElem?_drop] at hi ⊢
      exact h2' _ u hi

/-- a store of cells into an open block -/
theorem store_cells {b q off : Nat} {c c' : Blk} {vs : List Value} (g : Good E X h m w) (hb : h[b]? = some (.live c)) (hm : m b = some q)
    (hp : ∀ us, relB (cx X h m w) c us → off + vs.length ≤ us.length ∧ relB (cx X h m w) c' (us.take off ++ (vs ++ us.drop (off + vs.length)))) (h1 : ∀ v ∈ vs, v.oneCell' = true) :
    ∃ w1, (storeCells ⟨q, off, none⟩ vs).run P w = .ok () w1 ∧ Adv E X h m w (h.set b (.live c')) m w1 := by
  obtain ⟨us, arr, T, h5, h6, h7, h8, _⟩ := g.block (blkAt_live hb) hm
  obtain ⟨h9, h10⟩ := hp us h5
  obtain ⟨h11, h12, h13⟩ := write_prefix h7 h8 h9
  have hst := run_storeCells_at P q off T vs 0 arr w h6 (by omega) h1
  simp only [Nat.add_zero] at hst
  exact ⟨_, hst, adv_set g hb hm h6 h10 ⟨h12, h13⟩ h11 (setRow_heap w q arr _ T _ h6) (fun k hk => setRow_other w q k _ hk) (setRow_size w q _) rfl rfl rfl⟩

theorem storeA_ok (hE : EnvOk E P) (g : Good E X h m w) {t : TypeId} {a v : AV} {ua uv : Value} {h1 : H} (hl : storeA E h t a v some = some h1) (ha : rel (cx X h m w) a ua) (hv : rel (cx X h m w) v uv) :
    ∃ w1, (Instr.storeAt t ua uv).run P w = .ok () w1 ∧ Adv E X h m w h1 m w1 := by
  unfold storeA at hl
  split at hl
  · rename_i i ht
    have hs := fun w => (hE _ _ ht).run_sizeOf (w := w)
    split at hl
    · rename_i b off
      obtain ⟨q, hq, rfl⟩ := ha
      split at hl
      · rename_i c hb
        split at hl
        · rename_i d
          obtain ⟨vs, rfl, hd⟩ := hv
          obtain ⟨h0, hl⟩ := sel_iff.1 hl
          have h0 := of_decide_eq_true h0
          have e := Blk.put_push c off d some (fun c' => some (h.set b (.live c')))
          simp only [Option.bind_some] at e
          rw [← e] at hl
          obtain ⟨c', h2, h3⟩ := of_bind hl
          cases h3
          have hlen := relB_length hd
          obtain ⟨us0, arr, T, h5, _⟩ := g.block (blkAt_live hb) hq
          obtain ⟨w1, h6, h7⟩ := store_cells (P := P) (off := off) (vs := vs) g hb hq (fun us hr => ⟨(relB_put h2 hr hd).1, (relB_put h2 hr hd).2.1⟩) (relB_put h2 h5 hd).2.2
          exact ⟨w1, by simp [Instr.storeAt, Instr.sureAddr, storeVar, hs, Value.cells, hlen, h0, h6], h7⟩
        · obtain ⟨h0, hl⟩ := sel_iff.1 hl
          have h0 := of_decide_eq_true h0
          have e := Blk.set_push c off v some (fun c' => some (h.set b (.live c')))
          simp only [Option.bind_some] at e
          rw [← e] at hl
          obtain ⟨c', h2, h3⟩ := of_bind hl
          cases h3
          obtain ⟨us0, arr, T, h5, _⟩ := g.block (blkAt_live hb) hq
          obtain ⟨h8, _, h9, h10⟩ := relB_set h2 h5 hv
          have hcs := rel_cells hv h10
          obtain ⟨w1, h6, h7⟩ := store_cells (P := P) (off := off) (vs := [uv]) g hb hq (fun us hr => ⟨(relB_set h2 hr hv).1, (relB_set h2 hr hv).2.1⟩) (by simpa using h9)
          exact ⟨w1, by simp [Instr.storeAt, Instr.sureAddr, storeVar, hs, hcs, h0, h6], h7⟩
      · cases hl
    · cases hl
  · cases hl
end
end Go.Ev
