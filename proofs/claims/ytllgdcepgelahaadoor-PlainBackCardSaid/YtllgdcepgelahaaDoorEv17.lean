/- Forgetting, and other names for blocks. -/
import Derived.Test.YtllgdcepgelahaaDoorEv16
namespace Go.Ev
open Go.RowKit (Below)
section
variable {P : Program} {E : Env} {X : Nat → Prop} {h h1 : H} {m : Nat → Option Nat} {w w1 : World} {C C' : Cx}

theorem adv_below (g : Good E X h m w) (b : Below w.heap.size w w1) : Adv E X h m w h m w1 := by
  have shape : ∀ (q : Nat) (arr : Array Value) (T : TypeId), w.heap[q]? = some (.cells arr T (0, 0)) → ∃ arr' : Array Value, w1.heap[q]? = some (.cells arr' T (0, 0)) ∧ arr'.size = arr.size :=
    fun q arr T hq => ⟨arr, by rw [b.block q (Array.getElem?_eq_some_iff.1 hq).1, hq], rfl⟩
  have S : Step (cx X h m w) (cx X h m w1) := ⟨fun _ _ h => h, fun _ _ h => h, fun k hk _ => b.block k hk, shape⟩
  refine ⟨⟨?_, g.inj, g.hi, g.own, fun q hq => Nat.lt_of_lt_of_le (g.xs q hq) b.size, ?_⟩, fun _ _ h => h, fun _ h => .inl h, fun k hk _ => b.block k hk, shape, b.os, b.tape, b.output, b.size, Nat.le_refl _⟩
  · intro k c hb
    obtain ⟨us, h1, h2⟩ := g.hp k c hb
    exact ⟨us, relB_step S c us h1, h2.imp id fun ⟨q, arr, T, h3, h4, h5⟩ => ⟨q, arr, T, h3, by rw [b.block q (Array.getElem?_eq_some_iff.1 h4).1, h4], h5⟩⟩
  · intro q c hq
    obtain ⟨h1, h2, us, h3, h4⟩ := g.gl q c hq
    refine ⟨Nat.lt_of_lt_of_le h1 b.size, h2, us, relB_step S.z c us h3, fun i u hi => ?_⟩
    rw [← h4 i u hi]
    exact World.cell?_of_block (by rw [block_add]; exact b.block q h1)

theorem memN_iff {l : List Nat} {b : Nat} : memN l b = true ↔ b ∈ l := by
  induction l with
  | nil => simp [memN]
  | cons x r ih =>
    simp only [memN, Bool.or_eq_true, ih, List.mem_cons]
    constructor
    · rintro (h | h)
      · exact .inl (Nat.eq_of_beq_eq_true h).symm
      · exact .inr h
    · rintro (rfl | h)
      · exact .inl (Nat.beq_refl _)
      · exact .inr h
theorem idxN_get {l : List Nat} {b : Nat} (h : b ∈ l) : l[idxN l b]? = some b := by
  induction l with
  | nil => cases h
  | cons x r ih =>
    simp only [idxN]
    split
    · rename_i e; simp [Nat.eq_of_beq_eq_true e]
    · rename_i e
      have : b ∈ r := by
        rcases List.mem_cons.1 h with rfl | h
        · rw [Nat.beq_refl] at e; cases e
        · exact h
      simpa using ih this
theorem nodupN_nodup {l : List Nat} (h : nodupN l = true) : l.Nodup := by
  induction l with
  | nil => exact List.nodup_nil
  | cons x r ih =>
    simp only [nodupN, Bool.and_eq_true, Bool.not_eq_true'] at h
    refine List.nodup_cons.2 ⟨fun hx => ?_, ih h.2⟩
    rw [memN_iff.2 hx] at h; cases h.1

/-! ### blocks shut where they stand -/
theorem gds_some {R : Type} {r : R} : ∀ {l : List Bool} {x : Option R}, gds l x = some r ↔ (∀ b ∈ l, b = true) ∧ x = some r
  | [], x => by simp [gds]
  | b :: l, x => by
    simp only [gds, sel_iff, gds_some (l := l), List.mem_cons, forall_eq_or_imp]
    constructor
    · rintro ⟨h1, h2, h3⟩; exact ⟨⟨h1, h2⟩, h3⟩
    · rintro ⟨⟨h1, h2⟩, h3⟩; exact ⟨h1, h2, h3⟩
/-- what is shut: open blocks, told by their contents -/
structure ShOk (C C' : Cx) (σ : Nat → Option Blk) : Prop where
  st : Step C C'
  m : C'.m = C.m
  is : ∀ b c, σ b = some c → ((∃ k xs, c = .ints k xs) ∨ ∃ xs, c = .bools xs) ∧ ∃ us, relB C'.z c us ∧ (us = [] ∧ C.m b = none ∨ ∃ g, C.m b = some g ∧ ¬ C'.Wr g ∧ cellsAt C'.w ⟨g, 0, none⟩ us)
mutual
theorem rel_sh {σ : Nat → Option Blk} (r : ShOk C C' σ) : ∀ (v : AV) (u : Value), (∀ b ∈ okV σ v, b = true) → rel C v u → rel C' (shV σ v) u
  | .undef, _, _, _ => trivial
  | .int _ _, _, _, h => h
  | .bool _, _, _, h => h
  | .str _, _, _, h => h
  | .nilptr, _, _, h => h
  | .ptr b off, _, _, ⟨g, hm, hv⟩ => ⟨g, by rw [r.m]; exact hm, hv⟩
  | .fptr c, u, _, h => rel_step r.st (.fptr c) u h
  | .esl, _, _, h => h
  | .sl b off len sz, u, hok, h => by
    simp only [shV]
    simp only [okV] at hok
    split
    · rename_i c hc
      rw [hc] at hok
      simp only [List.mem_cons, List.not_mem_nil, or_false, forall_eq_or_imp, forall_eq, Bool.and_eq_true, decide_eq_true_eq] at hok
      obtain ⟨⟨ho, hs⟩, hl⟩ := hok
      have ho := Nat.eq_of_beq_eq_true ho
      have hs := Nat.eq_of_beq_eq_true hs
      subst ho hs
      obtain ⟨a, cap, hv, hlc, hmx, hp⟩ := h
      obtain ⟨hk, us, h1, h2⟩ := r.is b c hc
      have hlen : us.length = c.num * c.esz := by
        have := relB_length h1
        rcases hk with ⟨k, xs, rfl⟩ | ⟨xs, rfl⟩ <;> simpa [Blk.clen, Blk.num, Blk.esz] using this
      have hesz : c.esz = 1 := by rcases hk with ⟨k, xs, rfl⟩ | ⟨xs, rfl⟩ <;> rfl
      refine ⟨a, cap, us, by rw [← hl]; exact hv, by rw [← hl]; exact hlc, h1, hlen, ?_⟩
      rcases h2 with ⟨h3, h4⟩ | ⟨g, h3, h4, h5⟩
      · exact .inl h3
      · rcases hp with hp | ⟨g', h6, h7, _⟩
        · left
          have : c.num = 0 := by omega
          rw [this, Nat.zero_mul] at hlen
          exact List.eq_nil_of_length_eq_zero hlen
        · rw [h3] at h6
          cases h6
          exact .inr ⟨_, h7, rfl, h4, h5⟩
    · exact rel_step r.st (.sl b off len sz) u h
  | .fsl c, u, _, h => rel_step r.st (.fsl c) u h
  | .agg c, _, hb, ⟨us, hv, hr⟩ => ⟨us, hv, relB_sh r c us (by simpa [okV] using hb) hr⟩
  | .tup vs, _, hb, ⟨us, hv, hr⟩ => ⟨us, hv, relL_sh r vs us (by simpa [okV] using hb) hr⟩
  | .fn _ caps, _, hb, ⟨us, hv, hr⟩ => ⟨us, hv, relL_sh r caps us (by simpa [okV] using hb) hr⟩
  | .nilfn, _, _, h => h
  | .nilif, _, _, h => h
  | .iface _ x, _, hb, ⟨u, hv, hr⟩ => ⟨u, hv, rel_sh r x u (by simpa [okV] using hb) hr⟩
theorem relB_sh {σ : Nat → Option Blk} (r : ShOk C C' σ) : ∀ (c : Blk) (us : List Value), (∀ b ∈ okB σ c, b = true) → relB C c us → relB C' (shB σ c) us
  | .ints _ _, _, _, h => h
  | .bools _, _, _, h => h
  | .any cs, us, hb, h => relL_sh r cs us (by simpa [okB] using hb) h
  | .rows sz rs, us, hb, h => ⟨h.1, relR_sh r sz rs us (by simpa [okB] using hb) h.2⟩
theorem relL_sh {σ : Nat → Option Blk} (r : ShOk C C' σ) : ∀ (cs : List AV) (us : List Value), (∀ b ∈ okL σ cs, b = true) → relL C cs us → relL C' (shL σ cs) us
  | [], _, _, h => h
  | c :: cs, _, hb, ⟨u, q, he, h1, h2⟩ => ⟨u, q, he, rel_sh r c u (fun b h => hb b (by simp [okL, h])) h1, relL_sh r cs q (fun b h => hb b (by simp [okL, h])) h2⟩
theorem relR_sh {σ : Nat → Option Blk} (r : ShOk C C' σ) (sz : Nat) : ∀ (rs : List (List AV)) (us : List Value), (∀ b ∈ okR σ rs, b = true) → relR C sz rs us → relR C' sz (shR σ rs) us
  | [], _, _, h => h
  | q :: rs, _, hb, ⟨u1, u2, he, hl, h1, h2⟩ => ⟨u1, u2, he, by rw [shL_length]; exact hl, relL_sh r q u1 (fun b h => hb b (by simp [okR, h])) h1, relR_sh r sz rs u2 (fun b h => hb b (by simp [okR, h])) h2⟩
theorem shL_length {σ : Nat → Option Blk} : ∀ cs, (shL σ cs).length = cs.length
  | [] => rfl
  | _ :: cs => by simp [shL, shL_length cs]
end
theorem shH_length {σ : Nat → Option Blk} : ∀ (h : H) (i : Nat), (shH σ i h).length = h.length
  | [], _ => rfl
  | _ :: r, i => by simp [shH, shH_length r (i + 1)]
theorem shH_get {σ : Nat → Option Blk} : ∀ (h : H) (i b : Nat), (shH σ i h)[b]? = (h[b]?).map fun x => match σ (i + b) with | some _ => .dead | none => x.sh σ
  | [], _, _ => by simp [shH]
  | x :: r, i, 0 => by
    simp only [shH, List.getElem?_cons_zero, Option.map_some, Nat.add_zero]
    cases σ i <;> rfl
  | x :: r, i, b + 1 => by
    simp only [shH, List.getElem?_cons_succ]
    rw [shH_get r (i + 1) b, show i + 1 + b = i + (b + 1) by omega]
theorem okH_mem {σ : Nat → Option Blk} {q : Bool} : ∀ (h : H) (i b : Nat) (x : HB), h[b]? = some x → σ (i + b) = none → q ∈ x.ok σ → q ∈ okH σ i h
  | [], _, _, _, h, _, _ => by simp at h
  | y :: r, i, 0, x, h, hs, hq => by
    simp only [List.getElem?_cons_zero, Option.some.injEq] at h
    subst h
    simp only [okH, List.mem_append]
    left
    rw [Nat.add_zero] at hs
    rw [hs]; exact hq
  | y :: r, i, b + 1, x, h, hs, hq => by
    simp only [okH, List.mem_append]
    right
    exact okH_mem r (i + 1) b x (by simpa using h) (by rw [show i + 1 + b = i + (b + 1) by omega]; exact hs) hq
theorem frz_good {t : List AV} {us : List Value} {σ : Nat → Option Blk} (g : Good E X h m w) (hσ : ∀ b c, σ b = some c → h[b]? = some (.live c) ∧ ((∃ k xs, c = .ints k xs) ∨ ∃ xs, c = .bools xs)) (ht : relL (cx X h m w) t us)
    (ok : ∀ q ∈ okL σ t ++ okH σ 0 h, q = true) : Good E X (shH σ 0 h) m w ∧ relL (cx X (shH σ 0 h) m w) (shL σ t) us ∧ ∀ q, L (shH σ 0 h) m q → L h m q := by
  generalize hh' : shH σ 0 h = h'
  have hget : ∀ b, h'[b]? = (h[b]?).map fun x => match σ b with | some _ => .dead | none => x.sh σ := fun b => by rw [← hh', shH_get, Nat.zero_add]
  have hblk : ∀ b c, blkAt h' b = some c → σ b = none ∧ ∃ c0, blkAt h b = some c0 ∧ c = shB σ c0 ∧ ∀ q ∈ okB σ c0, q = true := by
    intro b c hb
    unfold blkAt at hb
    rw [hget] at hb
    cases hq : h[b]? with
    | none => rw [hq] at hb; cases hb
    | some x =>
      rw [hq] at hb
      simp only [Option.map_some] at hb
      cases hs : σ b with
      | some c1 => rw [hs] at hb; cases hb
      | none =>
        rw [hs] at hb
        have hok : ∀ q ∈ x.ok σ, q = true := fun q hq2 => ok q (List.mem_append_right _ (okH_mem h 0 b x hq (by rw [Nat.zero_add]; exact hs) hq2))
        cases x with
        | dead => simp [HB.sh] at hb
        | live c0 => simp only [HB.sh, Option.some.injEq] at hb; exact ⟨rfl, c0, by simp [blkAt, hq], hb.symm, hok⟩
        | ice c0 => simp only [HB.sh, Option.some.injEq] at hb; exact ⟨rfl, c0, by simp [blkAt, hq], hb.symm, hok⟩
  have hlive : ∀ b c, h'[b]? = some (.live c) → σ b = none ∧ ∃ c0, h[b]? = some (.live c0) := by
    intro b c hb
    rw [hget] at hb
    cases hq : h[b]? with
    | none => rw [hq] at hb; cases hb
    | some x =>
      rw [hq] at hb
      simp only [Option.map_some, Option.some.injEq] at hb
      cases hs : σ b with
      | some c1 => rw [hs] at hb; cases hb
      | none =>
        rw [hs] at hb
        cases x <;> simp [HB.sh] at hb
        exact ⟨rfl, _, rfl⟩
  have hL : ∀ q, L h' m q → L h m q := by
    rintro q ⟨b, c, hb, hm⟩
    obtain ⟨_, c0, h1⟩ := hlive b c hb
    exact ⟨b, c0, h1, hm⟩
  have r : ShOk (cx X h m w) (cx X h' m w) σ := by
    refine ⟨⟨fun _ _ h => h, fun q _ hq => hq.imp id (hL q), fun _ _ _ => rfl, fun _ arr _ h => ⟨arr, h, rfl⟩⟩, rfl, fun b c hb => ?_⟩
    obtain ⟨h1, hk⟩ := hσ b c hb
    have hbl : blkAt h b = some c := by simp [blkAt, h1]
    obtain ⟨us0, h2, h3⟩ := g.hp b c hbl
    have h2' : relB (cx X h' m w).z c us0 := by rcases hk with ⟨k, xs, rfl⟩ | ⟨xs, rfl⟩ <;> exact h2
    refine ⟨hk, us0, h2', ?_⟩
    rcases h3 with h3 | ⟨q, arr, T, h4, h5, h6, h7⟩
    · exact .inl h3
    · refine .inr ⟨q, h4, ?_, ?_⟩
      · rintro (hx | ⟨b', c', hb', hm'⟩)
        · exact (g.own b c q hbl h4).1 hx
        · obtain ⟨hs', c0', h0'⟩ := hlive b' c' hb'
          have := g.inj b b' c c0' q hbl (by simp [blkAt, h0']) h4 hm'
          subst this
          rw [hb] at hs'; cases hs'
      · intro i u hi
        have e : Addr.add ⟨q, 0, none⟩ i = ⟨q, i, none⟩ := by
          unfold Addr.add
          split
          · rename_i h0; subst h0; rfl
          · rw [Nat.zero_add]
        rw [e]
        show w.cell? ⟨q, i, none⟩ = some u
        simp [World.cell?, h5, h7 i u hi]
  refine ⟨⟨?_, ?_, ?_, ?_, g.xs, ?_⟩, relL_sh r t us (fun q hq => ok q (List.mem_append_left _ hq)) ht, hL⟩
  · intro b c hb
    obtain ⟨_, c0, h1, rfl, h2⟩ := hblk b c hb
    obtain ⟨us0, h3, h4⟩ := g.hp b c0 h1
    exact ⟨us0, relB_sh r c0 us0 h2 h3, h4⟩
  · intro b b' c c' q hb hb' hm hm2
    obtain ⟨_, c0, h1, _⟩ := hblk b c hb
    obtain ⟨_, c0', h1', _⟩ := hblk b' c' hb'
    exact g.inj b b' c0 c0' q h1 h1' hm hm2
  · intro b hb
    rw [← hh', shH_length] at hb
    exact g.hi b hb
  · intro b c q hb hm
    obtain ⟨_, c0, h1, _⟩ := hblk b c hb
    exact g.own b c0 q h1 hm
  · intro q c hq
    obtain ⟨h3, h4, us0, h5, h6⟩ := g.gl q c hq
    exact ⟨h3, h4, us0, relB_step r.st.z c us0 h5, h6⟩
theorem shutOf_ok {base : Nat} {bad : List Nat} (b : Nat) (c : Blk) (hb : shutOf base bad h b = some c) : h[b]? = some (.live c) ∧ ((∃ k xs, c = .ints k xs) ∨ ∃ xs, c = .bools xs) := by
  unfold shutOf at hb
  split at hb
  · cases hb
  · split at hb
    · rename_i k xs hq; cases hb; exact ⟨hq, .inl ⟨k, xs, rfl⟩⟩
    · rename_i xs hq; cases hb; exact ⟨hq, .inr ⟨xs, rfl⟩⟩
    · cases hb
theorem frzIf_good {R : Type} {r : R} {c : Bool} {base : Nat} {t : List AV} {us : List Value} {K : List AV → H → Option R} (g : Good E X h m w) (ht : relL (cx X h m w) t us) (he : frzIf c base t h K = some r) :
    ∃ t' h', K t' h' = some r ∧ Good E X h' m w ∧ relL (cx X h' m w) t' us ∧ (∀ q, L h' m q → L h m q) ∧ h'.length = h.length := by
  cases c with
  | false => exact ⟨t, h, he, g, ht, fun _ h => h, rfl⟩
  | true =>
    have he : gds _ _ = some r := he
    obtain ⟨h1, h2⟩ := gds_some.1 he
    obtain ⟨h3, h4, h5⟩ := frz_good g (fun b c hb => shutOf_ok b c hb) ht h1
    exact ⟨_, _, h2, h3, h4, h5, shH_length h 0⟩

structure Ren (ρ : Nat → Nat) (C C' : Cx) (ids : List Nat) : Prop where
  m : ∀ b, b ∈ ids → C'.m (ρ b) = C.m b
  wr : ∀ g, C'.Wr g → C.Wr g
  w : C'.w = C.w
theorem Ren.step {ρ : Nat → Nat} {ids : List Nat} (r : Ren ρ C C' ids) : Step C.z C'.z :=
  ⟨fun _ _ h => (by cases h), fun g _ h => r.wr g h, fun g _ _ => by show C'.w.heap[g]? = C.w.heap[g]?; rw [r.w], fun g arr T h => ⟨arr, by show C'.w.heap[g]? = _; rw [r.w]; exact h, rfl⟩⟩

mutual
theorem rel_ren {ρ : Nat → Nat} {ids : List Nat} (r : Ren ρ C C' ids) : ∀ (v : AV) (u : Value), (∀ b ∈ refsV v, b ∈ ids) → rel C v u → rel C' (renV ρ v) u
  | .undef, _, _, _ => trivial
  | .int _ _, _, _, h => h
  | .bool _, _, _, h => h
  | .str _, _, _, h => h
  | .nilptr, _, _, h => h
  | .ptr b off, _, hb, ⟨g, hm, hv⟩ => ⟨g, by rw [r.m b (hb b (by simp [refsV]))]; exact hm, hv⟩
  | .fptr c, _, _, ⟨a, us, hv, hs, hr, hw, hc⟩ => ⟨a, us, hv, hs, relB_step r.step c us hr, hw.imp id (fun h h' => h (r.wr _ h')), by rw [r.w]; exact hc⟩
  | .esl, _, _, h => h
  | .sl b off len sz, _, hb, ⟨a, cap, hv, hl, hm, hp⟩ => ⟨a, cap, hv, hl, hm, hp.imp id fun ⟨g, h1, h2, h3⟩ => ⟨g, by rw [r.m b (hb b (by simp [refsV]))]; exact h1, h2, by rw [r.w]; exact h3⟩⟩
  | .fsl c, _, _, ⟨a, cap, us, hv, hq, hr, hn, hp⟩ => ⟨a, cap, us, hv, hq, relB_step r.step c us hr, hn, hp.imp id fun ⟨p, h1, h2, h3, h4⟩ => ⟨p, h1, h2, fun h => h3 (r.wr _ h), by rw [r.w]; exact h4⟩⟩
  | .agg c, _, hb, ⟨us, hv, hr⟩ => ⟨us, hv, relB_ren r c us (fun b h => hb b (by simpa [refsV] using h)) hr⟩
  | .tup vs, _, hb, ⟨us, hv, hr⟩ => ⟨us, hv, relL_ren r vs us (fun b h => hb b (by simpa [refsV] using h)) hr⟩
  | .fn _ caps, _, hb, ⟨us, hv, hr⟩ => ⟨us, hv, relL_ren r caps us (fun b h => hb b (by simpa [refsV] using h)) hr⟩
  | .nilfn, _, _, h => h
  | .nilif, _, _, h => h
  | .iface _ x, _, hb, ⟨u, hv, hr⟩ => ⟨u, hv, rel_ren r x u (fun b h => hb b (by simpa [refsV] using h)) hr⟩
theorem relB_ren {ρ : Nat → Nat} {ids : List Nat} (r : Ren ρ C C' ids) : ∀ (c : Blk) (us : List Value), (∀ b ∈ refsB c, b ∈ ids) → relB C c us → relB C' (renB ρ c) us
  | .ints _ _, _, _, h => h
  | .bools _, _, _, h => h
  | .any cs, us, hb, h => relL_ren r cs us (fun b h => hb b (by simpa [refsB] using h)) h
  | .rows sz rs, us, hb, h => ⟨h.1, relR_ren r sz rs us (fun b h => hb b (by simpa [refsB] using h)) h.2⟩
theorem relL_ren {ρ : Nat → Nat} {ids : List Nat} (r : Ren ρ C C' ids) : ∀ (cs : List AV) (us : List Value), (∀ b ∈ refsL cs, b ∈ ids) → relL C cs us → relL C' (renL ρ cs) us
  | [], _, _, h => h
  | c :: cs, _, hb, ⟨u, q, he, h1, h2⟩ => ⟨u, q, he, rel_ren r c u (fun b h => hb b (by simp [refsL, h])) h1, relL_ren r cs q (fun b h => hb b (by simp [refsL, h])) h2⟩
theorem relR_ren {ρ : Nat → Nat} {ids : List Nat} (r : Ren ρ C C' ids) (sz : Nat) : ∀ (rs : List (List AV)) (us : List Value), (∀ b ∈ refsR rs, b ∈ ids) → relR C sz rs us → relR C' sz (renR ρ rs) us
  | [], _, _, h => h
  | q :: rs, _, hb, ⟨u1, u2, he, hl, h1, h2⟩ => ⟨u1, u2, he, by rw [renL_length]; exact hl, relL_ren r q u1 (fun b h => hb b (by simp [refsR, h])) h1, relR_ren r sz rs u2 (fun b h => hb b (by simp [refsR, h])) h2⟩
theorem renL_length {ρ : Nat → Nat} : ∀ cs, (renL ρ cs).length = cs.length
  | [] => rfl
  | _ :: cs => by simp [renL, renL_length cs]
end

theorem relL_keep (ks : List Nat) : ∀ (i : Nat) (t : List AV) (us : List Value), relL C t us → relL C (keepT ks i t) us
  | _, [], _, h => h
  | i, v :: r, _, ⟨u, q, he, h1, h2⟩ => by
    refine ⟨u, q, he, ?_, relL_keep ks (i + 1) r q h2⟩
    split
    · exact h1
    · trivial

/-- what a frame and its blocks become -/
theorem sub_good {X' : Nat → Prop} {t : List AV} {us : List Value} {ids : List Nat} (g : Good E X h m w) (hX1 : ∀ q, X' q → X q ∨ L h m q) (hX2 : ∀ b c q, b ∈ ids → blkAt h b = some c → m b = some q → ¬ X' q) (hX3 : ∀ q, X' q → q < w.heap.size) (hX4 : ∀ q c, E.G q = some c → ¬ X' q) (ht : relL (cx X h m w) t us) (hn : nodupN ids = true) (h1 : (refsL t).all (memN ids) = true)
    (h2 : ids.all (fun b => ((h.getD b .dead).refs).all (memN ids)) = true) :
    ∃ m', (∀ j, m' j = (ids[j]?).bind m) ∧ Good E X' (ids.map fun b => (h.getD b .dead).ren (idxN ids)) m' w ∧ relL (cx X' (ids.map fun b => (h.getD b .dead).ren (idxN ids)) m' w) (renL (idxN ids) t) us ∧
      ∀ q, L (ids.map fun b => (h.getD b .dead).ren (idxN ids)) m' q → L h m q := by
  generalize hh' : (ids.map fun b => (h.getD b .dead).ren (idxN ids)) = h'
  let m' : Nat → Option Nat := fun j => (ids[j]?).bind m
  have hnd := nodupN_nodup hn
  have hm' : ∀ b, b ∈ ids → m' (idxN ids b) = m b := fun b hb => by simp only [m', idxN_get hb, Option.bind_some]
  have hget : ∀ j, h'[j]? = (ids[j]?).map fun b => (h.getD b .dead).ren (idxN ids) := fun j => by rw [← hh', List.getElem?_map]
  have hlive : ∀ (j : Nat) (c : Blk), h'[j]? = some (HB.live c) → ∃ (b : Nat) (c0 : Blk), ids[j]? = some b ∧ h[b]? = some (HB.live c0) ∧ c = renB (idxN ids) c0 := by
    intro j c hj
    rw [hget] at hj
    cases hb : ids[j]? with
    | none => rw [hb] at hj; cases hj
    | some b =>
      rw [hb] at hj
      simp only [Option.map_some, Option.some.injEq] at hj
      rw [List.getD_eq_getElem?_getD] at hj
      cases hq : h[b]? with
      | none => rw [hq] at hj; cases hj
      | some x =>
        rw [hq] at hj
        cases x <;> simp [HB.ren] at hj
        exact ⟨b, _, rfl, hq, hj.symm⟩
  have hblk : ∀ j c, blkAt h' j = some c → ∃ b c0, ids[j]? = some b ∧ blkAt h b = some c0 ∧ c = renB (idxN ids) c0 ∧ ∀ k ∈ refsB c0, k ∈ ids := by
    intro j c hj
    unfold blkAt at hj
    rw [hget] at hj
    cases hb : ids[j]? with
    | none => rw [hb] at hj; simp at hj
    | some b =>
      rw [hb] at hj
      have hbm : b ∈ ids := List.mem_of_getElem? hb
      have hrefs := List.all_eq_true.1 h2 b hbm
      simp only [Option.map_some] at hj
      rw [List.getD_eq_getElem?_getD] at hj hrefs
      cases hq : h[b]? with
      | none => rw [hq] at hj; simp [HB.ren] at hj
      | some x =>
        rw [hq] at hj hrefs
        cases x <;> simp [HB.ren] at hj
        · exact ⟨b, _, rfl, by simp [blkAt, hq], hj.symm, fun k hk => memN_iff.1 (List.all_eq_true.1 hrefs k (by simpa [HB.refs] using hk))⟩
        · exact ⟨b, _, rfl, by simp [blkAt, hq], hj.symm, fun k hk => memN_iff.1 (List.all_eq_true.1 hrefs k (by simpa [HB.refs] using hk))⟩
  have hL : ∀ q, L h' m' q → L h m q := by
    rintro q ⟨j, c, hj, hm⟩
    obtain ⟨b, c0, hb, hb0, _⟩ := hlive j c hj
    simp only [m', hb, Option.bind_some] at hm
    exact ⟨b, c0, hb0, hm⟩
  have r : Ren (idxN ids) (cx X h m w) (cx X' h' m' w) ids := ⟨hm', fun q hq => hq.elim (hX1 q) fun hq => .inr (hL q hq), rfl⟩
  refine ⟨m', fun _ => rfl, ⟨?_, ?_, ?_, ?_, hX3, ?_⟩, ?_, hL⟩
  · intro j c hj
    obtain ⟨b, c0, hb, hb0, rfl, hrefs⟩ := hblk j c hj
    obtain ⟨us0, h3, h4⟩ := g.hp b c0 hb0
    have e : m' j = m b := by simp only [m', hb, Option.bind_some]
    refine ⟨us0, relB_ren r c0 us0 hrefs h3, ?_⟩
    rw [e]; exact h4
  · intro j j' c c' q hj hj' hm hm2
    obtain ⟨b, c0, hb, hb0, _⟩ := hblk j c hj
    obtain ⟨b', c0', hb', hb0', _⟩ := hblk j' c' hj'
    simp only [m', hb, hb', Option.bind_some] at hm hm2
    have e := g.inj b b' c0 c0' q hb0 hb0' hm hm2
    subst e
    have hj1 := (List.getElem?_eq_some_iff.1 hb).1
    exact (List.getElem?_inj hj1 hnd).1 (hb.trans hb'.symm)
  · intro j hj
    have : ids[j]? = none := List.getElem?_eq_none (by rw [← hh', List.length_map] at hj; exact hj)
    simp only [m', this]; rfl
  · intro j c q hj hm
    obtain ⟨b, c0, hb, hb0, _⟩ := hblk j c hj
    simp only [m', hb, Option.bind_some] at hm
    exact ⟨hX2 b c0 q (List.mem_of_getElem? hb) hb0 hm, (g.own b c0 q hb0 hm).2⟩
  · intro q c hq
    obtain ⟨h3, h4, us0, h5, h6⟩ := g.gl q c hq
    exact ⟨h3, hX4 q c hq, us0, relB_step r.step c us0 h5, h6⟩
  · exact relL_ren r t us (fun b hb => memN_iff.1 (List.all_eq_true.1 h1 b hb)) ht
theorem norm_good {t : List AV} {us : List Value} {ids : List Nat} (g : Good E X h m w) (ht : relL (cx X h m w) t us) (hn : nodupN ids = true) (h1 : (refsL t).all (memN ids) = true)
    (h2 : ids.all (fun b => ((h.getD b .dead).refs).all (memN ids)) = true) :
    ∃ m', (∀ j, m' j = (ids[j]?).bind m) ∧ Good E X (ids.map fun b => (h.getD b .dead).ren (idxN ids)) m' w ∧ relL (cx X (ids.map fun b => (h.getD b .dead).ren (idxN ids)) m' w) (renL (idxN ids) t) us ∧
      ∀ q, L (ids.map fun b => (h.getD b .dead).ren (idxN ids)) m' q → L h m q :=
  sub_good g (fun _ h => .inl h) (fun b c q _ hb hm => (g.own b c q hb hm).1) g.xs (fun q c hq => (g.gl q c hq).2.1) ht hn h1 h2
end
end Go.Ev
