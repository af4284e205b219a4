/- Operations on values, second part. -/
import Derived.Test.YtllgdcepgelahaaDoorEv5
namespace Go.Ev
section
variable {P : Program} {E : Env} {C : Cx} {w : World}

theorem idxA_ok (hE : EnvOk E P) {t : TypeId} {x z : AV} {u : Value} {k : IntKind} {i : Int} (h : idxA E t x i some = some z) (hx : rel C x u) :
    ∃ q, (Instr.index t u (.int k i)).run P w = .ok q w ∧ rel C z q := by
  unfold idxA at h
  split at h
  · rename_i s
    split at h
    · rename_i ht
      have hu := (hE _ _ ht).und_str rfl
      obtain ⟨h2, h⟩ := sel_iff.1 h
      obtain ⟨h3, h⟩ := sel_iff.1 h
      have h2 : 0 ≤ i := by simpa using h2
      have h3 : i < (s.size : Int) := by simpa using h3
      cases h; cases hx
      have hlt : i.toNat < s.size := by omega
      have hg : s[i.toNat]? = some (s[i.toNat]'hlt) := by simp [hlt]
      refine ⟨.int .u8 ((s[i.toNat]'hlt).toNat : Int), by simp [Instr.index, asIntOf, run_underlying hu, h2, hg], ?_⟩
      have e : s.data.toList.getD i.toNat 0 = s[i.toNat]'hlt := by
        rw [List.getD_eq_getElem?_getD, List.getElem?_eq_getElem (by simpa using hlt)]
        simp [ByteArray.getElem_eq_getElem_data]
      rw [e]; rfl
    · cases h
  · rename_i c
    split at h
    · rename_i n e _ _ _ ht
      have hu := (hE _ _ ht).und_array rfl
      split at h
      · rename_i ie he
        have hs := fun w => (hE _ _ he).run_sizeOf (w := w)
        obtain ⟨h2, h⟩ := sel_iff.1 h
        obtain ⟨h3, h⟩ := sel_iff.1 h
        have h2 : 0 ≤ i := by simpa using h2
        have h3 : i < (n : Int) := by simpa using h3
        obtain ⟨us, rfl, hr⟩ := hx
        obtain ⟨q, h4, h5⟩ := run_part (w := w) hE h hr
        refine ⟨q, ?_, h5⟩
        rw [nmul_eq] at h4
        simp [Instr.index, asIntOf, run_underlying hu, h2, h3, hs, h4]
      · cases h
    · cases h
  · cases h

theorem fldAddrA_ok (hE : EnvOk E P) {s : TypeId} {x z : AV} {u : Value} {f : Nat} (h : fldAddrA E s x f some = some z) (hx : rel C x u) :
    ∃ q, (Instr.fieldAt s u f).run P C.w = .ok q C.w ∧ rel C z q := by
  unfold fldAddrA at h
  split at h
  · rename_i fs _ _ _ ht
    obtain ⟨fields, hu, hf⟩ := (hE _ _ ht).und_struct rfl
    split at h
    · rename_i ft o hfo
      have hfi : ∃ fd, fields[f]? = some fd ∧ fd.type = ft ∧ fd.offset = o := by
        rw [← hf, List.getElem?_map] at hfo
        cases hq : fields.toList[f]? with
        | none => simp [hq] at hfo
        | some fd =>
          simp [hq] at hfo
          exact ⟨fd, by simpa using hq, hfo.1, hfo.2⟩
      obtain ⟨fd, h1, h2, h3⟩ := hfi
      split at h
      · rename_i i hi
        have hs := fun w => (hE _ _ hi).run_sizeOf (w := w)
        obtain ⟨h4, h⟩ := sel_iff.1 h
        have h4 : ¬ i.size = 0 := by have := of_decide_eq_true h4; omega
        split at h
        · cases h
          rename_i b off
          obtain ⟨g, hg, rfl⟩ := hx
          refine ⟨.pointer (some ⟨g, off + o, none⟩), ?_, g, hg, by rw [nadd_eq]⟩
          simp [Instr.fieldAt, run_underlying hu, h1, Instr.sureAddr, fieldPlace, h2, hs, h4, h3, add_mk]
        · rename_i c _
          have e := Blk.sub_push c o i.size some (fun d => some (AV.fptr d))
          simp only [Option.bind_some] at e
          rw [← e] at h
          obtain ⟨d, h5, h6⟩ := of_bind h
          cases h6
          obtain ⟨p, us, rfl, hps, hr, hw, hc⟩ := hx
          obtain ⟨h7, h8, _⟩ := relB_sub h5 hr
          have hne : us ≠ [] := by rintro rfl; simp at h7; omega
          refine ⟨.pointer (some (p.add o)), ?_, p.add o, (us.drop o).take i.size, rfl, by rw [add_spot hps], h8, .inr (by rw [block_add]; exact hw.resolve_left hne), cellsAt_take (cellsAt_drop hps hc _) _⟩
          simp [Instr.fieldAt, run_underlying hu, h1, Instr.sureAddr, fieldPlace, h2, hs, h4, h3]
        · cases h
      · cases h
    · cases h
  · cases h

theorem fldA_ok (hE : EnvOk E P) {s : TypeId} {x z : AV} {u : Value} {f : Nat} (h : fldA E s x f some = some z) (hx : rel C x u) :
    ∃ q, (Instr.field s u f).run P w = .ok q w ∧ rel C z q := by
  unfold fldA at h
  split at h
  · rename_i fs _ _ _ ht
    obtain ⟨fields, hu, hf⟩ := (hE _ _ ht).und_struct rfl
    split at h
    · rename_i ft o hfo
      have hfi : ∃ fd, fields[f]? = some fd ∧ fd.type = ft ∧ fd.offset = o := by
        rw [← hf, List.getElem?_map] at hfo
        cases hq : fields.toList[f]? with
        | none => simp [hq] at hfo
        | some fd =>
          simp [hq] at hfo
          exact ⟨fd, by simpa using hq, hfo.1, hfo.2⟩
      obtain ⟨fd, h1, h2, h3⟩ := hfi
      split at h
      · rename_i c
        obtain ⟨us, rfl, hr⟩ := hx
        obtain ⟨q, h4, h5⟩ := run_part (w := w) hE h hr
        exact ⟨q, by simp [Instr.field, run_underlying hu, h1, asAgg, h2, h3, h4], h5⟩
      · cases h
    · cases h
  · cases h

theorem lenA_ok (hE : EnvOk E P) {t : TypeId} {x z : AV} {u : Value} {ts : Array TypeId} (ty : TypeId) (h : lenA E t x some = some z) (hx : rel C x u) (hts : ts[0]? = some t) :
    ∃ q, (Builtin.len_ ts ty #[u]).run P w = .ok q w ∧ rel C z q := by
  unfold lenA at h
  split at h
  · rename_i ht
    have hu := (hE _ _ ht).und_slice rfl
    split at h
    · cases h
      obtain ⟨a, cap, rfl, _⟩ := hx
      exact ⟨_, by simp [Builtin.len_, hts, run_underlying hu]; rfl, rfl⟩
    · cases h
      obtain ⟨a, rfl⟩ := hx
      exact ⟨_, by simp [Builtin.len_, hts, run_underlying hu]; rfl, rfl⟩
    · cases h
      obtain ⟨a, cap, us, rfl, _⟩ := hx
      exact ⟨_, by simp [Builtin.len_, hts, run_underlying hu]; rfl, rfl⟩
    · cases h
  · rename_i ht
    have hu := (hE _ _ ht).und_str rfl
    split at h
    · cases h; cases hx
      exact ⟨_, by simp [Builtin.len_, hts, run_underlying hu]; rfl, rfl⟩
    · cases h
  · rename_i n e _ _ _ ht
    have hu := (hE _ _ ht).und_array rfl
    cases h
    exact ⟨_, by simp [Builtin.len_, hts, run_underlying hu]; rfl, rfl⟩
  · cases h

theorem maxA_ok {xs : List AV} {z : AV} {us : List Value} (ts : Array TypeId) (ty : TypeId) (h : maxA xs = some z) (hx : relL C xs us) :
    ∃ q, (Builtin.max_ ts ty us.toArray).run P w = .ok q w ∧ rel C z q := by
  unfold maxA at h
  split at h
  · cases h
    obtain ⟨_, _, rfl, h1, _, _, rfl, h2, h3⟩ := hx
    cases h1; cases h2; cases h3
    exact ⟨_, by simp [Builtin.max_, Builtin.max2]; rfl, rfl⟩
  · cases h
    obtain ⟨_, _, rfl, h1, _, _, rfl, h2, _, _, rfl, h3, h4⟩ := hx
    cases h1; cases h2; cases h3; cases h4
    exact ⟨_, by simp [Builtin.max_, Builtin.max2]; rfl, rfl⟩
  · cases h
theorem minA_ok {xs : List AV} {z : AV} {us : List Value} (ts : Array TypeId) (ty : TypeId) (h : minA xs = some z) (hx : relL C xs us) :
    ∃ q, (Builtin.min_ ts ty us.toArray).run P w = .ok q w ∧ rel C z q := by
  unfold minA at h
  split at h
  · cases h
    obtain ⟨_, _, rfl, h1, _, _, rfl, h2, h3⟩ := hx
    cases h1; cases h2; cases h3
    exact ⟨_, by simp [Builtin.min_, Builtin.min2]; rfl, rfl⟩
  · cases h
    obtain ⟨_, _, rfl, h1, _, _, rfl, h2, _, _, rfl, h3, h4⟩ := hx
    cases h1; cases h2; cases h3; cases h4
    exact ⟨_, by simp [Builtin.min_, Builtin.min2]; rfl, rfl⟩
  · cases h

theorem relB_cut {c : Blk} {us : List Value} (lo hi : Nat) (hr : relB C c us) : relB C (c.cut lo hi) ((us.take (hi * c.esz)).drop (lo * c.esz)) := by
  cases c with
  | ints k xs => have hr : us = _ := hr; subst hr; simp [Blk.cut, relB, Blk.esz, List.map_take, List.map_drop]
  | bools xs => have hr : us = _ := hr; subst hr; simp [Blk.cut, relB, Blk.esz, List.map_take, List.map_drop]
  | any cs => simpa [Blk.cut, relB, Blk.esz] using relL_drop lo (relL_take hi hr)
  | rows sz rs => exact ⟨hr.1, relR_drop lo (relR_take hi hr.2)⟩
where
  relR_take {sz : Nat} : ∀ {rs : List (List AV)} {us : List Value} (n : Nat), relR C sz rs us → relR C sz (rs.take n) (us.take (n * sz))
    | [], _, n, h => by have h : _ = [] := h; subst h; simp [relR]
    | _ :: _, _, 0, _ => by simp [relR]
    | _ :: _, _, n + 1, ⟨u1, u2, he, hl, h1, h2⟩ => by
      subst he
      have hl1 : u1.length = sz := by rw [relL_length h1, hl]
      refine ⟨u1, u2.take (n * sz), ?_, hl, h1, relR_take n h2⟩
      rw [show (n + 1) * sz = u1.length + n * sz from by rw [Nat.succ_mul, hl1]; omega, List.take_length_add_append]
  relR_drop {sz : Nat} : ∀ {rs : List (List AV)} {us : List Value} (n : Nat), relR C sz rs us → relR C sz (rs.drop n) (us.drop (n * sz))
    | [], _, n, h => by have h : _ = [] := h; subst h; simp [relR]
    | _ :: _, _, 0, h => by simpa using h
    | _ :: _, _, n + 1, ⟨u1, u2, he, hl, h1, h2⟩ => by
      subst he
      have hl1 : u1.length = sz := by rw [relL_length h1, hl]
      rw [show (n + 1) * sz = u1.length + n * sz from by rw [Nat.succ_mul, hl1]; omega, List.drop_length_add_append]
      exact relR_drop n h2

def relO (C : Cx) : Option AV → Option Value → Prop
  | none, none => True
  | some a, some v => rel C a v
  | _, _ => False
theorem relO_map {f : Operand → AV} {g : Operand → Value} (h : ∀ x, rel C (f x) (g x)) (o : Option Operand) : relO C (o.map f) (o.map g) := by
  cases o <;> simp [relO, h]

theorem oInt_cases {x : Option AV} {v : Option Value} {d n : Int} (h : oInt x d = some n) (hx : relO C x v) : (v = none ∧ n = d) ∨ ∃ k, v = some (.int k n) := by
  unfold oInt at h
  split at h
  · cases h; cases v <;> simp [relO] at hx ⊢
  · cases h; cases v <;> simp [relO] at hx ⊢
    cases hx; exact ⟨_, rfl⟩
  · cases h

theorem run_bounds (b : Bool) (len cap : Nat) {lo hi : Option Value} {l h : Int} (hl : (lo = none ∧ l = 0) ∨ ∃ k, lo = some (.int k l)) (hh : (hi = none ∧ h = (len : Int)) ∨ ∃ k, hi = some (.int k h))
    (h0 : 0 ≤ l) (h1 : l ≤ h) (h2 : h ≤ (cap : Int)) : (Instr.sliceBounds b len cap lo hi none).run P w = .ok (l.toNat, h.toNat, cap) w := by
  have h3 : 0 ≤ h := by omega
  obtain ⟨l, rfl⟩ := Int.eq_ofNat_of_zero_le h0
  obtain ⟨h, rfl⟩ := Int.eq_ofNat_of_zero_le h3
  have h1 : l ≤ h := by omega
  have h2 : h ≤ cap := by omega
  rcases hl with ⟨rfl, hl⟩ | ⟨k, rfl⟩ <;> rcases hh with ⟨rfl, hh⟩ | ⟨k', rfl⟩
  · have hl : l = 0 := by omega
    have hh : h = len := by omega
    subst hl hh; simp [Instr.sliceBounds]
  · have hl : l = 0 := by omega
    subst hl; simp [Instr.sliceBounds, Instr.sliceBound, asIntOf, h2]
  · have hh : h = len := by omega
    subst hh; simp [Instr.sliceBounds, Instr.sliceBound, asIntOf, h1]
  · simp [Instr.sliceBounds, Instr.sliceBound, asIntOf, h1, h2]
theorem run_bounds3 (b : Bool) (len cap : Nat) {lo : Option Value} {l h m : Int} {k k' : IntKind} (hl : (lo = none ∧ l = 0) ∨ ∃ k, lo = some (.int k l))
    (h0 : 0 ≤ l) (h1 : l ≤ h) (h2 : h ≤ m) (h3 : m ≤ (cap : Int)) : (Instr.sliceBounds b len cap lo (some (.int k h)) (some (.int k' m))).run P w = .ok (l.toNat, h.toNat, m.toNat) w := by
  have h4 : 0 ≤ h := by omega
  have h5 : 0 ≤ m := by omega
  obtain ⟨l, rfl⟩ := Int.eq_ofNat_of_zero_le h0
  obtain ⟨h, rfl⟩ := Int.eq_ofNat_of_zero_le h4
  obtain ⟨m, rfl⟩ := Int.eq_ofNat_of_zero_le h5
  have h1 : l ≤ h := by omega
  have h2 : h ≤ m := by omega
  have h3 : m ≤ cap := by omega
  rcases hl with ⟨rfl, hl⟩ | ⟨k, rfl⟩ <;> simp [Instr.sliceBounds, Instr.sliceBound, asIntOf, h1, h2, h3]
  omega
theorem run_slice_val {t e : TypeId} {a : Option Addr} {len cap size l h m : Nat} {lv hv mv : Option Value} (hu : P.underlying t = some (.slice e)) (hs : ∀ w, (sizeOf e).run P w = .ok size w)
    (hb : (Instr.sliceBounds true len cap lv hv mv).run P w = .ok (l, h, m) w) : (Instr.sliceAt t (.slice a len cap) lv hv mv).run P w = .ok (.slice (if m = l then a else a.map (·.add (l * size))) (h - l) (m - l)) w := by
  simp [Instr.sliceAt, Instr.slice, run_underlying hu, hb, hs]

theorem slotOk_cut {w : World} {g off cap sz l m : Nat} (h : slotOk w g off (cap * sz)) (hl : l ≤ m) (hm : m ≤ cap) : slotOk w g (off + l * sz) ((m - l) * sz) := by
  obtain ⟨arr, T, h1, h2⟩ := h
  refine ⟨arr, T, h1, ?_⟩
  have : l * sz + (m - l) * sz ≤ cap * sz := by rw [← Nat.add_mul]; exact Nat.mul_le_mul_right _ (by omega)
  omega

theorem cut_num {c : Blk} {l h : Nat} (hh : h ≤ c.num) : (c.cut l h).num = h - l ∧ (c.cut l h).esz = c.esz := by
  cases c <;> simp [Blk.cut, Blk.num, Blk.esz] at hh ⊢ <;> omega

/-- a slice's part, as a value -/
theorem rel_sl_cut {b off sz l h m : Nat} {a : Option Addr} {cap : Nat} (hc : cap ≤ maxLen) (hp : cap = 0 ∨ ∃ g, C.m b = some g ∧ a = some ⟨g, off, none⟩ ∧ slotOk C.w g off (cap * sz))
    (h1 : l ≤ h) (h2 : h ≤ m) (h3 : m ≤ cap) : rel C (.sl b (nadd off (nmul l sz)) (h - l) sz) (.slice (if m = l then a else a.map (·.add (l * sz))) (h - l) (m - l)) := by
  rw [nadd_eq, nmul_eq]
  refine ⟨_, _, rfl, by omega, by omega, ?_⟩
  by_cases e : m = l
  · exact .inl (by omega)
  · obtain ⟨g, hg, rfl, hs⟩ := hp.resolve_left (by omega)
    refine .inr ⟨g, hg, by rw [if_neg e, Option.map_some, add_mk], slotOk_cut hs (by omega) h3⟩

theorem rel_fsl_cut {c : Blk} {l h m : Nat} {a : Option Addr} {us : List Value} (hr : relB C.z c us) (hp : us = [] ∨ ∃ p, a = some p ∧ p.spot = none ∧ ¬ C.Wr p.block ∧ cellsAt C.w p us)
    (h1 : l ≤ h) (h2 : h ≤ m) (h3 : h ≤ c.num) : rel C (.fsl (c.cut l h)) (.slice (if m = l then a else a.map (·.add (l * c.esz))) (h - l) (m - l)) := by
  obtain ⟨e1, e2⟩ := cut_num (c := c) (l := l) h3
  have hn := num_esz hr
  have hrc := relB_cut l h hr
  refine ⟨_, _, _, by rw [e1], by omega, hrc, num_esz hrc, ?_⟩
  rcases hp with rfl | ⟨p, rfl, h4, h5, h6⟩
  · exact .inl (by simp)
  · by_cases e : m = l
    · refine .inl ?_
      rw [List.drop_eq_nil_iff]
      have : h = l := by omega
      subst this
      exact List.length_take_le _ _
    · exact .inr ⟨p.add (l * c.esz), by rw [if_neg e, Option.map_some], by rw [add_spot h4], by rw [block_add]; exact h5, cellsAt_drop h4 (cellsAt_take h6 _) _⟩

theorem sliceA_ok (hE : EnvOk E P) {t : TypeId} {x z : AV} {u : Value} {lo hi mx : Option AV} {lv hv mv : Option Value} (h : sliceA E t x lo hi mx some = some z) (hx : rel C x u) (hlo : relO C lo lv) (hhi : relO C hi hv) (hmx : relO C mx mv) :
    ∃ q, (Instr.sliceAt t u lv hv mv).run P C.w = .ok q C.w ∧ rel C z q := by
  unfold sliceA at h
  split at h
  · rename_i e _ _ _ ht
    have hu := (hE _ _ ht).und_slice rfl
    split at h
    · rename_i ie he
      have hs := fun w => (hE _ _ he).run_sizeOf (w := w)
      split at h
      · rename_i b off len sz
        obtain ⟨a, cap, rfl, hl, hm, hp⟩ := hx
        split at h
        · rename_i l g hlo' hhi'
          have e1 := oInt_cases hlo' hlo
          have e2 := oInt_cases hhi' hhi
          obtain ⟨h1, h⟩ := sel_iff.1 h
          obtain ⟨h2, h⟩ := sel_iff.1 h
          obtain ⟨h3, h⟩ := sel_iff.1 h
          obtain ⟨h4, h⟩ := sel_iff.1 h
          have h1 := of_decide_eq_true h1
          have h2 := of_decide_eq_true h2
          have h3 := of_decide_eq_true h3
          have h4 := of_decide_eq_true h4
          cases h
          cases mv with
          | some _ => cases hmx
          | none =>
          subst h1
          have hb := run_bounds (P := P) (w := C.w) true len cap e1 e2 h2 h3 (by omega)
          exact ⟨_, run_slice_val hu hs hb, rel_sl_cut hm hp (by omega) (by omega) (by omega)⟩
        · rename_i l g k m hv' hlo' hhi'
          have e1 := oInt_cases hlo' hlo
          cases mv with
          | none => cases hmx
          | some mv =>
          cases hmx
          obtain ⟨k', rfl⟩ : ∃ k', hv = some (.int k' g) := by
            rcases oInt_cases hhi' hhi with ⟨rfl, _⟩ | h'
            · cases hhi
            · exact h'
          obtain ⟨h1, h⟩ := sel_iff.1 h
          obtain ⟨h2, h⟩ := sel_iff.1 h
          obtain ⟨h3, h⟩ := sel_iff.1 h
          obtain ⟨h4, h⟩ := sel_iff.1 h
          obtain ⟨h5, h⟩ := sel_iff.1 h
          have h1 := of_decide_eq_true h1
          have h2 := of_decide_eq_true h2
          have h3 := of_decide_eq_true h3
          have h4 := of_decide_eq_true h4
          have h5 := of_decide_eq_true h5
          subst h1
          have hb := run_bounds3 (P := P) (w := C.w) (k := k') (k' := k) true len cap e1 h2 h3 h4 (by omega)
          refine ⟨_, run_slice_val hu hs hb, ?_⟩
          by_cases e : l = m
          · subst e
            simp only [decide_true, sel_true] at h
            cases h
            exact ⟨a, by rw [if_pos rfl, show g.toNat - l.toNat = 0 from by omega, show l.toNat - l.toNat = 0 from by omega]⟩
          · rw [decide_eq_false e] at h
            cases h
            exact rel_sl_cut hm hp (by omega) (by omega) (by omega)
        · cases h
      · rename_i c
        obtain ⟨a, cap, us, rfl, hcap, hr, hn, hp⟩ := hx
        split at h
        · rename_i l g hlo' hhi'
          have e1 := oInt_cases hlo' hlo
          have e2 := oInt_cases hhi' hhi
          obtain ⟨h1, h⟩ := sel_iff.1 h
          obtain ⟨h2, h⟩ := sel_iff.1 h
          obtain ⟨h3, h⟩ := sel_iff.1 h
          obtain ⟨h4, h⟩ := sel_iff.1 h
          have h1 := of_decide_eq_true h1
          have h2 := of_decide_eq_true h2
          have h3 := of_decide_eq_true h3
          have h4 := of_decide_eq_true h4
          cases h
          cases mv with
          | some _ => cases hmx
          | none =>
          have hb := run_bounds (P := P) (w := C.w) true c.num cap e1 e2 h2 h3 (by omega)
          exact ⟨_, run_slice_val hu hs hb, by rw [h1]; exact rel_fsl_cut hr hp (by omega) (by omega) (by omega)⟩
        · rename_i l g k m hv' hlo' hhi'
          have e1 := oInt_cases hlo' hlo
          cases mv with
          | none => cases hmx
          | some mv =>
          cases hmx
          obtain ⟨k', rfl⟩ : ∃ k', hv = some (.int k' g) := by
            rcases oInt_cases hhi' hhi with ⟨rfl, _⟩ | h'
            · cases hhi
            · exact h'
          obtain ⟨h1, h⟩ := sel_iff.1 h
          obtain ⟨h2, h⟩ := sel_iff.1 h
          obtain ⟨h3, h⟩ := sel_iff.1 h
          obtain ⟨h4, h⟩ := sel_iff.1 h
          obtain ⟨h5, h⟩ := sel_iff.1 h
          have h1 := of_decide_eq_true h1
          have h2 := of_decide_eq_true h2
          have h3 := of_decide_eq_true h3
          have h4 := of_decide_eq_true h4
          have h5 := of_decide_eq_true h5
          have hb := run_bounds3 (P := P) (w := C.w) (k := k') (k' := k) true c.num cap e1 h2 h3 h4 (by omega)
          refine ⟨_, run_slice_val hu hs hb, ?_⟩
          by_cases e : l = m
          · subst e
            simp only [decide_true, sel_true] at h
            cases h
            exact ⟨a, by rw [if_pos rfl, show g.toNat - l.toNat = 0 from by omega, show l.toNat - l.toNat = 0 from by omega]⟩
          · rw [decide_eq_false e] at h
            cases h
            rw [h1]
            exact rel_fsl_cut hr hp (by omega) (by omega) (by omega)
        · cases h
      · obtain ⟨a, rfl⟩ := hx
        split at h
        · rename_i l g hlo' hhi'
          have e1 := oInt_cases hlo' hlo
          have e2 := oInt_cases hhi' hhi
          obtain ⟨h1, h⟩ := sel_iff.1 h
          obtain ⟨h2, h⟩ := sel_iff.1 h
          have h1 := of_decide_eq_true h1
          have h2 := of_decide_eq_true h2
          subst h1; subst h2
          cases h
          cases mv with
          | some _ => cases hmx
          | none =>
          have hb := run_bounds (P := P) (w := C.w) true 0 0 e1 e2 (by omega) (by omega) (by omega)
          exact ⟨_, run_slice_val hu hs hb, a, by simp⟩
        · rename_i l g k m hv' hlo' hhi'
          have e1 := oInt_cases hlo' hlo
          cases mv with
          | none => cases hmx
          | some mv =>
          cases hmx
          obtain ⟨k', rfl⟩ : ∃ k', hv = some (.int k' g) := by
            rcases oInt_cases hhi' hhi with ⟨rfl, _⟩ | h'
            · cases hhi
            · exact h'
          obtain ⟨h1, h⟩ := sel_iff.1 h
          obtain ⟨h2, h⟩ := sel_iff.1 h
          obtain ⟨h3, h⟩ := sel_iff.1 h
          have h1 := of_decide_eq_true h1
          have h2 := of_decide_eq_true h2
          have h3 := of_decide_eq_true h3
          subst h1; subst h2; subst h3
          cases h
          have hb := run_bounds3 (P := P) (w := C.w) (h := 0) (m := 0) (k := k') (k' := k) true 0 0 e1 (by omega) (by omega) (by omega) (by omega)
          exact ⟨_, run_slice_val hu hs hb, a, by simp⟩
        · cases h
      · cases h
    · cases h
  · rename_i _ _ _ ht
    have hu := (hE _ _ ht).und_str rfl
    split at h
    · rename_i s
      cases hx
      split at h
      · rename_i l g hlo' hhi'
        have e1 := oInt_cases hlo' hlo
        have e2 := oInt_cases hhi' hhi
        obtain ⟨h2, h⟩ := sel_iff.1 h
        obtain ⟨h3, h⟩ := sel_iff.1 h
        obtain ⟨h4, h⟩ := sel_iff.1 h
        have h2 := of_decide_eq_true h2
        have h3 := of_decide_eq_true h3
        have h4 := of_decide_eq_true h4
        cases h
        cases mv with
        | some _ => cases hmx
        | none =>
        have hb := run_bounds (P := P) (w := C.w) false s.size s.size e1 e2 h2 h3 (by omega)
        exact ⟨_, by simp [Instr.sliceAt, Instr.slice, run_underlying hu, hb], rfl⟩
      · cases h
    · cases h
  · cases h
end
end Go.Ev
