/- Operations on memory: slices' literals, append, copy. -/
import Derived.Test.YtllgdcepgelahaaDoorEv10
namespace Go.Ev
section
variable {P : Program} {E : Env} {X : Nat → Prop} {h h1 : H} {m : Nat → Option Nat} {w w1 : World} {C : Cx} {slot : Nat}

/-- memory that is not told of -/
theorem adv_junk {o : Obj} (g : Good E X h m w) : Adv E X h m w h m (w.alloc o) := by
  have old : ∀ k, k < w.heap.size → (w.alloc o).heap[k]? = w.heap[k]? := fun k hk => heap_alloc_old w o k hk
  have shape : ∀ (q : Nat) (arr : Array Value) (T : TypeId), w.heap[q]? = some (.cells arr T (0, 0)) → ∃ arr' : Array Value, (w.alloc o).heap[q]? = some (.cells arr' T (0, 0)) ∧ arr'.size = arr.size :=
    fun q arr T hq => ⟨arr, by rw [old q (Array.getElem?_eq_some_iff.1 hq).1, hq], rfl⟩
  have S : Step (cx X h m w) (cx X h m (w.alloc o)) := ⟨fun _ _ h => h, fun _ _ h => h, fun k hk _ => old k hk, shape⟩
  refine ⟨⟨?_, g.inj, g.hi, g.own, ?_, ?_⟩, fun _ _ h => h, fun _ h => .inl h, fun k hk _ => old k hk, shape, rfl, rfl, rfl, by show _ ≤ (w.heap.push o).size; simp, Nat.le_refl _⟩
  · intro b c hb
    obtain ⟨us, h1, h2⟩ := g.hp b c hb
    refine ⟨us, relB_step S c us h1, h2.imp id fun ⟨q, arr, T, h3, h4, h5⟩ => ⟨q, arr, T, h3, by rw [old q (Array.getElem?_eq_some_iff.1 h4).1, h4], h5⟩⟩
  · intro q hq
    have := g.xs q hq
    show _ < (w.heap.push o).size
    simp; omega
  · intro q c hq
    obtain ⟨h1, h2, us, h3, h4⟩ := g.gl q c hq
    refine ⟨by show _ < (w.heap.push o).size; simp; omega, h2, us, relB_step S.z c us h3, fun i u hi => ?_⟩
    rw [← h4 i u hi]
    exact World.cell?_of_block (by rw [block_add]; exact old q h1)

theorem madeCells_eq {z : Array Value} {l : Nat} : madeCells z (l * z.size) = (List.replicate l z.toList).flatten.toArray := by
  apply Array.ext'
  apply List.ext_getElem?
  intro i
  rw [Array.getElem?_toList]
  by_cases hi : i < l * z.size
  · have e := flat_get z.toList l i (by simpa using hi)
    simp only [Array.length_toList] at e
    have hz : 0 < z.size := by
      rcases Nat.eq_zero_or_pos z.size with h0 | h0
      · rw [h0] at hi; simp at hi
      · exact h0
    have hm : i % z.size < z.size := Nat.mod_lt _ hz
    rw [List.toList_toArray, e]
    simp [madeCells, hi, hm]
  · rw [Array.getElem?_eq_none (by simp [size_madeCells]; omega), List.getElem?_eq_none (by simp; omega)]

theorem fillA_length : ∀ {ps : List (Nat × Nat × AV)} {cs cs' : List AV}, fillA cs ps = some cs' → cs'.length = cs.length
  | [], _, _, h => by cases h; rfl
  | (off, size, v) :: r, cs, cs', h => by
    simp only [fillA] at h
    split at h
    · rename_i hc
      rw [fillA_length h]
      simp
      omega
    · cases h

theorem buildSlA_ok (hE : EnvOk E P) (g : Good E X h m w) (f : Free h m slot) {t : TypeId} {len : Nat} {parts : List (Nat × AV)} {z : AV} {qs : List (Nat × Value)} {h1 : H}
    (hm : buildSlA E h slot t len parts (fun v h => some (v, h)) = some (z, h1)) (hq : relQ (cx X h m w) parts qs) : Made P E X h m w slot (Instr.buildSlice t len qs.toArray) z h1 := by
  unfold buildSlA at hm
  split at hm
  · rename_i e _ _ _ ht
    have hu := (hE _ _ ht).und_slice rfl
    split at hm
    · rename_i k he
      have hT := hE _ _ he
      obtain ⟨h2, hm⟩ := sel_iff.1 hm
      obtain ⟨h2, h2l⟩ := of_decide_eq_true h2
      have h2' : ¬ (16777216 < len * k.size) := by omega
      split at hm
      · split at hm
        · cases hm
          have hq : _ = [] := hq
          subst hq
          refine ⟨.slice (some ⟨w.heap.size, 0, none⟩) 0 0, m, w.alloc (.cells #[] e), ?_, adv_junk g, ⟨_, rfl⟩, fun _ _ => rfl⟩
          simp [Instr.buildSlice, run_underlying hu, hT.run_sizeOf, Instr.fill, newRow, Array.range_zero']
        · cases hm
      · rename_i hne
        split at hm
        · rename_i ps hps
          split at hm
          · rename_i cs hcs
            split at hm
            · rename_i c hc
              cases hm
              have hz0 := relB_cells (rel_zeros (C := cx X h m w) hE he len)
              obtain ⟨us', h3, h4⟩ := fill_ok hcs (placeParts_ok hps hq) hz0
              have hzs := zero_size hE he
              have hb := mkRow_ok hc h4
              have hlen : us'.length = len * k.size := by
                rw [relL_length h4, fillA_length hcs, ← relL_length hz0]
                simp [hzs]
              have hmc := madeCells_eq (z := (toVal k.zero).cells) (l := len)
              rw [hzs] at hmc
              obtain ⟨h6, h7⟩ := made_row (c := c) (e := e) (us := us') (arr := us'.toArray) (len := len) (cap := len) (sz := k.size) (w1 := w.alloc (.cells us'.toArray e)) g f hb
                ⟨by simp, fun i u hi => by simpa using hi⟩ (Nat.le_refl _) (by unfold maxLen; omega) (by simp [hlen]) rfl rfl rfl rfl
              refine ⟨_, _, _, ?_, h6, h7, fun b hb => upd_ne hb⟩
              have hfill : Instr.fill (fun i => some (i * k.size, k.size)) (madeCells (toVal k.zero).cells (len * k.size)) qs = some us'.toArray := by rw [hmc]; exact h3
              by_cases h0 : len * k.size = 0
              · have hfill0 : Instr.fill (fun i => some (i * k.size, k.size)) #[] qs = some us'.toArray := by
                  rw [h0] at hfill; simpa [madeCells, Array.range_zero'] using hfill
                simp [Instr.buildSlice, run_underlying hu, hT.run_sizeOf, h0, Array.range_zero', hfill0, newRow]
              · have hfill1 : Instr.fill (fun i => some (i * k.size, k.size)) ((Array.range (len * k.size)).map fun x => (toVal k.zero).cells[x % (toVal k.zero).cells.size]!) qs = some us'.toArray := hfill
                simp only [Instr.buildSlice, run_underlying hu, hT.run_sizeOf, Sem.run_bind, Result.andThen_ok, h2', if_false, if_neg h0, hT.run_zero]
                simp [newRow, hfill1]
            · cases hm
          · cases hm
        · cases hm
    · cases hm
  · cases hm

/-- what a slice that is read holds, in the world -/
theorem readSl_ok {x : AV} {u : Value} {d : Blk} {n sz : Nat} (g : Good E X h m w) (hl : readSl h x some = some d) (hn : slLen x = some n) (hz : slSz x sz = true) (hx : rel (cx X h m w) x u) :
    ∃ a cap us, u = .slice a n cap ∧ relB (cx X h m w) d us ∧ us.length = n * sz ∧ (us = [] ∨ ∃ p, a = some p ∧ cellsAt w p us) := by
  unfold readSl at hl
  split at hl
  · cases hl; cases hn
    obtain ⟨a, rfl⟩ := hx
    exact ⟨a, 0, [], rfl, rfl, by simp, .inl rfl⟩
  · rename_i c
    cases hn
    have hz : c.esz = sz := by simpa [slSz] using hz
    obtain ⟨a, cap, us, rfl, _, hr, hn, hp⟩ := hx
    refine ⟨a, cap, us, rfl, ?_, by rw [hn, hz], hp.imp id fun ⟨p, h1, _, _, h2⟩ => ⟨p, h1, h2⟩⟩
    split at hl
    · cases hl; exact relB_up (c := .any _) (relR_flat hr.2)
    · cases hl; exact relB_up hr
  · rename_i b off len0 sz'
    cases hn
    have hz : sz' = sz := by simpa [slSz] using hz
    subst hz
    obtain ⟨a, cap, rfl, hlc, _, hp⟩ := hx
    split at hl
    · rename_i c hb
      have key : ∀ {d : Blk}, c.sub off (nmul n sz') some = some d → ∃ us, relB (cx X h m w) d us ∧ us.length = n * sz' ∧ (us = [] ∨ ∃ p, a = some p ∧ cellsAt w p us) := by
        intro d hd
        obtain ⟨us0, h1, h2⟩ := g.hp b c hb
        obtain ⟨h3, h4, _⟩ := relB_sub hd h1
        rw [nmul_eq] at h3 h4
        refine ⟨_, h4, by simp; omega, ?_⟩
        rcases hp with rfl | ⟨q, hq', rfl, _⟩
        · have : n = 0 := by omega
          subst this
          exact .inl (by simp)
        · have hq : m b = some q := hq'
          obtain ⟨us1, arr, T, h5, h6, h7, h8, _⟩ := g.block hb hq
          rcases h2 with ⟨h2, _⟩ | ⟨q', arr', T', h9, h10, h11, h12⟩
          · exact .inl (by simp [h2])
          · rw [hq] at h9; cases h9
            rw [h6] at h10; cases h10
            refine .inr ⟨_, rfl, ?_⟩
            have hc0 : cellsAt w ⟨q, 0, none⟩ us0 := fun i u hi => by
              rw [add_mk]
              simp only [World.cell?, h6, Nat.zero_add]
              exact h12 i u hi
            have := cellsAt_take (cellsAt_drop rfl hc0 off) (n * sz')
            rwa [add_mk, Nat.zero_add] at this
      have whole : ∀ {k : Nat}, k = nmul n sz' → off = 0 → c.clen = k → ∃ us, relB (cx X h m w) c us ∧ us.length = n * sz' ∧ (us = [] ∨ ∃ p, a = some p ∧ cellsAt w p us) := by
        intro k hn h0 hc
        subst h0
        obtain ⟨us0, h1, h2⟩ := g.hp b c hb
        have hlen : us0.length = n * sz' := by rw [relB_length h1, hc, hn, nmul_eq]
        refine ⟨us0, h1, hlen, ?_⟩
        rcases hp with rfl | ⟨q, hq', rfl, _⟩
        · have : n = 0 := by omega
          subst this
          exact .inl (List.eq_nil_of_length_eq_zero (by simpa using hlen))
        · have hq : m b = some q := hq'
          rcases h2 with ⟨h2, _⟩ | ⟨q', arr', T', h9, h10, h11, h12⟩
          · exact .inl h2
          · rw [hq] at h9; cases h9
            refine .inr ⟨_, rfl, fun i u hi => ?_⟩
            rw [add_mk]
            simp only [World.cell?, h10, Nat.zero_add]
            exact h12 i u hi
      have fin : ∀ {d : Blk}, (∃ us, relB (cx X h m w) d us ∧ us.length = n * sz' ∧ (us = [] ∨ ∃ p, a = some p ∧ cellsAt w p us)) → ∃ a' cap' us, Value.slice a n cap = .slice a' n cap' ∧ relB (cx X h m w) d us ∧ us.length = n * sz' ∧ (us = [] ∨ ∃ p, a' = some p ∧ cellsAt w p us) :=
        fun ⟨us, h1, h2, h3⟩ => ⟨a, cap, us, rfl, h1, h2, h3⟩
      split at hl
      · rename_i k xs
        cases hd : decide (n = xs.length) with
        | false => rw [hd] at hl; exact fin (key hl)
        | true =>
          rw [hd] at hl
          obtain ⟨h1, h2⟩ := sel_iff.1 hl
          have hd := of_decide_eq_true hd
          have h1 := of_decide_eq_true h1
          cases h2
          exact fin (whole (by rw [nmul_eq, h1, Nat.mul_one]) rfl (by simp [Blk.clen, hd]))
      · rename_i xs
        cases hd : decide (n = xs.length) with
        | false => rw [hd] at hl; exact fin (key hl)
        | true =>
          rw [hd] at hl
          obtain ⟨h1, h2⟩ := sel_iff.1 hl
          have hd := of_decide_eq_true hd
          have h1 := of_decide_eq_true h1
          cases h2
          exact fin (whole (by rw [nmul_eq, h1, Nat.mul_one]) rfl (by simp [Blk.clen, hd]))
      · exact fin (key hl)
    · cases hl
  · cases hl

theorem relB_app {c d c' : Blk} {us vs : List Value} (h : c.app d some = some c') (hr : relB C c us) (hd : relB C d vs) : relB C c' (us ++ vs) := by
  unfold Blk.app at h
  split at h
  · cases h
    have hr : us = _ := hr
    subst hr; exact hd
  · obtain ⟨h0, h⟩ := sel_iff.1 h
    have h0 := of_decide_eq_true h0
    cases h; subst h0
    have hr : us = _ := hr
    have hd : vs = _ := hd
    subst hr hd
    simp [relB]
  · cases h
    have hr : us = _ := hr
    have hd : vs = _ := hd
    subst hr hd
    simp [relB]
  · cases h; exact relL_append hr hd
  · cases h
    have hd : vs = [] := hd
    rw [hd, List.append_nil]; exact hr
  · cases h
    have hd : vs = [] := hd
    rw [hd, List.append_nil]; exact hr
  · cases h

theorem relL_one {cs : List AV} {us : List Value} (hr : relL C cs us) (h : cs.all AV.isCell = true) : ∀ v ∈ us, v.oneCell' = true := by
  intro v hv
  obtain ⟨i, hi, rfl⟩ := List.mem_iff_getElem.1 hv
  have hl := relL_length hr
  obtain ⟨u, h2, h3⟩ := relL_get i (cs[i]'(by omega)) hr (by rw [List.getElem?_eq_getElem])
  rw [List.getElem?_eq_getElem hi] at h2
  cases h2
  exact rel_oneCell h3 (by simpa using List.all_eq_true.1 h _ (List.getElem_mem (by omega)))

theorem relB_one {c : Blk} {us : List Value} (hr : relB C c us) (h : c.cellsOk = true) : ∀ v ∈ us, v.oneCell' = true := by
  cases c with
  | ints k xs =>
    have hr : us = _ := hr
    subst hr
    intro v hv
    obtain ⟨y, _, rfl⟩ := List.mem_map.1 hv
    rfl
  | bools xs =>
    have hr : us = _ := hr
    subst hr
    intro v hv
    obtain ⟨y, _, rfl⟩ := List.mem_map.1 hv
    rfl
  | any cs => exact relL_one hr h
  | rows sz rs => exact relL_one (relR_flat hr.2) h
end
end Go.Ev
