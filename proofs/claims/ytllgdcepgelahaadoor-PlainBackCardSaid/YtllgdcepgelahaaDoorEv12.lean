/- Operations on memory: append, copy. -/
import Derived.Test.YtllgdcepgelahaaDoorEv11
namespace Go.Ev
section
variable {P : Program} {E : Env} {X : Nat → Prop} {h h1 : H} {m : Nat → Option Nat} {w w1 : World} {C : Cx} {slot : Nat}

theorem readSl_then {R : Type} {x : AV} {K : Blk → Option R} {r : R} (hl : readSl h x K = some r) : ∃ d, readSl h x some = some d ∧ K d = some r := by
  have e := readSl_push h x some K
  simp only [Option.bind_some] at e
  rw [← e] at hl
  exact of_bind hl
theorem app_then {R : Type} {c d : Blk} {K : Blk → Option R} {r : R} (hl : c.app d K = some r) : ∃ d', c.app d some = some d' ∧ K d' = some r := by
  have e := Blk.app_push c d some K
  simp only [Option.bind_some] at e
  rw [← e] at hl
  exact of_bind hl
theorem put_then {R : Type} {c d : Blk} {off : Nat} {K : Blk → Option R} {r : R} (hl : c.put off d K = some r) : ∃ d', c.put off d some = some d' ∧ K d' = some r := by
  have e := Blk.put_push c off d some K
  simp only [Option.bind_some] at e
  rw [← e] at hl
  exact of_bind hl
theorem sub_then {R : Type} {c : Blk} {off n : Nat} {K : Blk → Option R} {r : R} (hl : c.sub off n K = some r) : ∃ d', c.sub off n some = some d' ∧ K d' = some r := by
  have e := Blk.sub_push c off n some K
  simp only [Option.bind_some] at e
  rw [← e] at hl
  exact of_bind hl

theorem run_append_zero (t ty e : TypeId) (i : TypeInfo) (ht : P.underlying t = some (.slice e)) (hi : P.info? e = some i) (base ax : Option Addr) (len cap xc : Nat) (hc : len ≤ cap) :
    (Builtin.append_ #[t, t] ty #[.slice base len cap, .slice ax 0 xc]).run P w = .ok (.slice base len cap) w := by
  cases base <;> cases ax <;> simp [Builtin.append_, run_underlying ht, sizeOf, typeInfo, hi, Builtin.lenOf, hc, Builtin.firstCells, loadCells, loadCellsFrom, storeCells]

theorem run_append_room' (t ty e T : TypeId) (i : TypeInfo) (ht : P.underlying t = some (.slice e)) (hi : P.info? e = some i)
    (g sLen sCap : Nat) (cur : Array Value) (hg : w.heap[g]? = some (.cells cur T (0, 0)))
    (a : Addr) (m c : Nat) (news : List Value) (hl : news.length = m * i.size) (hnews : ∀ j u, news[j]? = some u → w.cell? (a.add j) = some u) (h1 : ∀ u ∈ news, u.oneCell' = true)
    (hroom : sLen + m ≤ sCap) (hfit : sLen * i.size + news.length ≤ cur.size) :
    (Builtin.append_ #[t, t] ty #[.slice (some ⟨g, 0, none⟩) sLen sCap, .slice (some a) m c]).run P w =
      .ok (.slice (some ⟨g, 0, none⟩) (sLen + m) sCap) (w.setRow g (cur.toList.take (sLen * i.size) ++ news ++ cur.toList.drop (sLen * i.size + news.length)).toArray) := by
  have hf := run_firstCells_some (P := P) w i.size m a m c news hl hnews
  have hst := run_storeCells_at P g (sLen * i.size) T news 0 cur w hg (by simpa using hfit) h1
  simp only [Nat.add_zero] at hst
  simp [Builtin.append_, run_underlying ht, sizeOf, typeInfo, hi, Builtin.lenOf, hroom, hf, Addr.add_lit, hst]

/-- in new memory: the slice and the state -/
theorem grow_arr {us vs : List Value} {z : Array Value} {need cap size : Nat} (h1 : us.length + vs.length = need * size) (hz : z.size = size) (hc : need ≤ cap) :
    (us ++ vs).length ≤ (us.toArray ++ vs.toArray ++ Builtin.zeroCells z (cap - need)).size ∧ (∀ (i : Nat) u, (us ++ vs)[i]? = some u → (us.toArray ++ vs.toArray ++ Builtin.zeroCells z (cap - need))[i]? = some u) ∧
      cap * size ≤ (us.toArray ++ vs.toArray ++ Builtin.zeroCells z (cap - need)).size := by
  have e : (us.toArray ++ vs.toArray ++ Builtin.zeroCells z (cap - need)).size = cap * size := by
    simp only [Array.size_append, List.size_toArray, size_zeroCells, hz, h1, ← Nat.add_mul]
    congr 1; omega
  refine ⟨by rw [e]; simp only [List.length_append, h1]; exact Nat.mul_le_mul_right _ hc, ?_, Nat.le_of_eq e.symm⟩
  intro i u hi
  have hlt := (List.getElem?_eq_some_iff.1 hi).1
  have hlt' : i < (us.toArray ++ vs.toArray).size := by simpa using hlt
  rw [Array.getElem?_append_left hlt']
  simpa using hi

theorem relB_nil {c : Blk} (h : relB C c []) (C' : Cx) : relB C' c [] := by
  cases c with
  | ints k xs => have h : [] = List.map _ _ := h; simpa [relB] using h
  | bools xs => have h : [] = List.map _ _ := h; simpa [relB] using h
  | any cs => have := relL_length h; simp at this; rw [List.eq_nil_of_length_eq_zero this.symm]; rfl
  | rows sz rs =>
    have h3 : 0 = rs.length * sz := relR_length h.2
    have h4 : rs.length = 0 := (Nat.mul_eq_zero.1 h3.symm).resolve_right (by have := h.1; omega)
    rw [List.eq_nil_of_length_eq_zero h4]; exact ⟨h.1, rfl⟩

/-- cells written behind all that is told of a block -/
theorem extend_prefix {us vs : List Value} {arr : Array Value} (h1 : us.length ≤ arr.size) (h2 : ∀ (i : Nat) u, us[i]? = some u → arr[i]? = some u) (h3 : us.length + vs.length ≤ arr.size) :
    (arr.toList.take us.length ++ vs ++ arr.toList.drop (us.length + vs.length)).toArray.size = arr.size ∧ (us ++ vs).length ≤ (arr.toList.take us.length ++ vs ++ arr.toList.drop (us.length + vs.length)).toArray.size ∧
      ∀ (i : Nat) u, (us ++ vs)[i]? = some u → (arr.toList.take us.length ++ vs ++ arr.toList.drop (us.length + vs.length)).toArray[i]? = some u := by
  have hL : arr.toList.length = arr.size := Array.length_toList
  have h2' : ∀ (i : Nat) u, us[i]? = some u → arr.toList[i]? = some u := fun i u hi => by simpa using h2 i u hi
  have hs : (arr.toList.take us.length ++ vs ++ arr.toList.drop (us.length + vs.length)).toArray.size = arr.size := by
    simp only [List.size_toArray, List.length_append, List.length_take, List.length_drop]; omega
  refine ⟨hs, by rw [hs]; simp only [List.length_append]; omega, ?_⟩
  intro i u hi
  rw [List.getElem?_toArray]
  generalize arr.toList = l at hL h2'
  rw [List.append_assoc]
  rw [List.getElem?_append] at hi ⊢
  rw [List.length_take, show min us.length l.length = us.length from by omega]
  split at hi
  · rename_i hlt
    rw [if_pos hlt, List.getElem?_take, if_pos hlt]
    exact h2' i u hi
  · rename_i hlt
    rw [if_neg hlt, List.getElem?_append, if_pos (List.getElem?_eq_some_iff.1 hi).1]
    exact hi

theorem appendA_ok (hE : EnvOk E P) (g : Good E X h m w) (f : Free h m slot) {t : TypeId} (ty : TypeId) {s x z : AV} {us ux : Value} {h1 : H} (hm : appendA E h slot t s x (fun v h => some (v, h)) = some (z, h1)) (hs : rel (cx X h m w) s us) (hx : rel (cx X h m w) x ux) :
    Made P E X h m w slot (Builtin.append_ #[t, t] ty #[us, ux]) z h1 := by
  unfold appendA at hm
  split at hm
  · rename_i e _ _ _ ht
    have hu := (hE _ _ ht).und_slice rfl
    split at hm
    · rename_i ie he
      have hT := hE _ _ he
      obtain ⟨q, hq, hz, hqs, hqb⟩ := hT.inf
      have hzs := zero_size hE he
      obtain ⟨hp1, hm1⟩ := sel_iff.1 hm
      clear hm
      obtain ⟨hp2, hm2⟩ := sel_iff.1 hm1
      clear hm1
      obtain ⟨hp3, hm3⟩ := sel_iff.1 hm2
      clear hm2
      have hp1 := of_decide_eq_true hp1
      have hp2 := of_decide_eq_true hp2
      split at hm3
      · rename_i n hn
        obtain ⟨d, hd, hm4⟩ := readSl_then hm3
        clear hm3
        obtain ⟨hone, hm⟩ := sel_iff.1 hm4
        clear hm4
        obtain ⟨ax, xc, vs, rfl, hrd, hvl, hva⟩ := readSl_ok g hd hn hp3 hx
        have h1c := relB_one hrd hone
        have hne : n ≠ 0 → ∃ p, ax = some p ∧ cellsAt w p vs := fun h0 => hva.resolve_left (by
          rintro rfl
          have : 0 < n * ie.size := Nat.mul_pos (by omega) hp1
          simp at hvl; omega)
        have hbound : ∀ {k : Nat}, k * ie.bytes ≤ 140737488355328 → k ≤ 140737488355328 := fun {k} hk => Nat.le_trans (Nat.le_mul_of_pos_right k hp2) hk
        split at hm
        · obtain ⟨hb, hm⟩ := sel_iff.1 hm
          have hb := of_decide_eq_true hb
          cases hm
          obtain ⟨A, rfl⟩ := hs
          by_cases h0 : n = 0
          · subst h0
            have hvs : vs = [] := List.eq_nil_of_length_eq_zero (by simpa using hvl)
            subst hvs
            have hdn : ∀ C, relB C d [] := fun C => by
              cases d with
              | ints k xs => have hrd : [] = List.map _ _ := hrd; simpa [relB] using hrd
              | bools xs => have hrd : [] = List.map _ _ := hrd; simpa [relB] using hrd
              | any cs => have := relL_length hrd; simp at this; rw [List.eq_nil_of_length_eq_zero this.symm]; rfl
              | rows sz rs =>
                have h3 : 0 = rs.length * sz := relR_length hrd.2
                have h4 : rs.length = 0 := (Nat.mul_eq_zero.1 h3.symm).resolve_right (by have := hrd.1; omega)
                rw [List.eq_nil_of_length_eq_zero h4]; exact ⟨hrd.1, rfl⟩
            exact ⟨_, _, w, run_append_zero t ty e q hu hq A ax 0 0 xc (Nat.le_refl _), adv_none g f hdn, ⟨A, 0, rfl, Nat.le_refl _, by unfold maxLen; omega, .inl rfl⟩, fun b hb => upd_ne hb⟩
          · obtain ⟨p, rfl, hpc⟩ := hne h0
            have hcap := grownCap_ge w n 0 e
            have hcm : grownCap w n 0 e ≤ maxLen := grownCap_le_maxLen w n 0 e (by have := hbound hb; unfold maxLen; omega)
            obtain ⟨ha1, ha2, ha3⟩ := grow_arr (us := []) (vs := vs) (z := (toVal ie.zero).cells) (need := n) (cap := grownCap w n 0 e) (size := ie.size) (by simpa using hvl) hzs hcap
            have hrun : ∃ w1, (Builtin.append_ #[t, t] ty #[.slice A 0 0, .slice (some p) n xc]).run P w = .ok (.slice (some ⟨w.heap.size, 0, none⟩) n (grownCap w n 0 e)) w1 ∧ w1.heap = w.heap.push (.cells (([] : List Value).toArray ++ vs.toArray ++ Builtin.zeroCells (toVal ie.zero).cells (grownCap w n 0 e - n)) e (0, 0)) ∧ w1.os = w.os ∧ w1.tape = w.tape ∧ w1.output = w.output := by
              cases A with
              | none =>
                have hr := run_append_nil (P := P) w t ty e q _ hu hq hz p n xc vs (by rw [hqs]; exact hvl) hpc (by omega) (by have := hbound hb; omega) (by rw [hqb]; omega)
                exact ⟨_, hr, by show w.heap.push _ = w.heap.push _; simp, rfl, rfl, rfl⟩
              | some p0 =>
                have hr := run_append_grow (P := P) w t ty e q _ hu hq hz p0 0 0 [] (by simp) (by simp) p n xc vs (by rw [hqs]; exact hvl) hpc (by omega) (by have := hbound hb; omega) (by rw [hqb]; exact growslice_fits (by omega) (by simpa using hb))
                simp only [Nat.zero_add] at hr
                exact ⟨_, hr, by show w.heap.push _ = w.heap.push _; simp, rfl, rfl, rfl⟩
            obtain ⟨w1, hr, hw1, ho1, ho2, ho3⟩ := hrun
            obtain ⟨h6, h7⟩ := made_row (c := d) (e := e) (len := n) (cap := grownCap w n 0 e) (sz := ie.size) (w1 := w1) g f hrd ⟨ha1, ha2⟩ hcap hcm ha3 hw1 ho1 ho2 ho3
            exact ⟨_, _, _, hr, h6, h7, fun b hb => upd_ne hb⟩
        · rename_i b len sz
          split at hm
          · rename_i c hb0
            obtain ⟨hsz, hm⟩ := sel_iff.1 hm
            obtain ⟨hcl, hm⟩ := sel_iff.1 hm
            obtain ⟨hb, hm⟩ := sel_iff.1 hm
            have hsz := of_decide_eq_true hsz
            have hcl := of_decide_eq_true hcl
            have hb := of_decide_eq_true hb
            subst hsz
            obtain ⟨c', hc', hm⟩ := app_then hm
            cases hm
            obtain ⟨A, cap, rfl, hlc, hcm0, hpl⟩ := hs
            obtain ⟨us, hru, hpu⟩ := g.hp b c (blkAt_live hb0)
            have hul : us.length = len * ie.size := by rw [relB_length hru, hcl, nmul_eq]
            have hrc := relB_app hc' hru hrd
            by_cases hroom : len + n ≤ cap
            · by_cases h0 : n = 0
              · subst h0
                have hvs : vs = [] := List.eq_nil_of_length_eq_zero (by simpa using hvl)
                subst hvs
                rw [List.append_nil] at hrc
                have hrun := run_append_zero (P := P) (w := w) t ty e q hu hq A ax len cap xc hlc
                rcases hpu with ⟨rfl, hmb⟩ | ⟨gq, arr, T, hmb, hgq, hle, hpre⟩
                · have hcn : ∀ C, relB C c' [] := fun C => relB_nil hrc C
                  refine ⟨_, _, w, hrun, adv_none_kill g f hb0 hcn, ⟨A, cap, rfl, hlc, hcm0, ?_⟩, fun b hb => upd_ne hb⟩
                  rcases hpl with hpl | ⟨gg, hgg, _⟩
                  · exact .inl hpl
                  · have hgg : m b = some gg := hgg
                    rw [hmb] at hgg; cases hgg
                · refine ⟨_, _, w, hrun, adv_onto (arr' := arr) g f hb0 hmb hgq hrc ⟨hle, hpre⟩ rfl hgq (fun _ _ => rfl) rfl rfl rfl rfl, ⟨A, cap, rfl, hlc, hcm0, ?_⟩, fun b hb => upd_ne hb⟩
                  rcases hpl with hpl | ⟨gg, hgg, hA, hsl⟩
                  · exact .inl hpl
                  · have hgg : m b = some gg := hgg
                    rw [hmb] at hgg; cases hgg
                    exact .inr ⟨gq, upd_self, hA, hsl⟩
              · obtain ⟨p, rfl, hpc⟩ := hne h0
                obtain ⟨gg, hgg, rfl, hsl⟩ := hpl.resolve_left (by omega)
                have hgg : m b = some gg := hgg
                rcases hpu with ⟨_, hmb⟩ | ⟨gq, arr, T, hmb, hgq, hle, hpre⟩
                · rw [hmb] at hgg; cases hgg
                · have e0 : gq = gg := Option.some.inj (hmb.symm.trans hgg)
                  subst e0
                  obtain ⟨arr2, T2, hg2, hs2⟩ := hsl
                  have hg2 : w.heap[gq]? = _ := hg2
                  rw [hgq] at hg2; cases hg2
                  have hcs : (len + n) * ie.size ≤ arr.size := by
                    have : (len + n) * ie.size ≤ cap * ie.size := Nat.mul_le_mul_right _ hroom
                    omega
                  have hfit : len * q.size + vs.length ≤ arr.size := by rw [hqs, hvl, ← Nat.add_mul]; exact hcs
                  have hrun := run_append_room' (P := P) (w := w) t ty e T q hu hq gq len cap arr hgq p n xc vs (by rw [hqs]; exact hvl) hpc h1c hroom hfit
                  obtain ⟨h5, h6, h7⟩ := extend_prefix (vs := vs) hle hpre (by rw [hul, hvl, ← Nat.add_mul]; exact hcs)
                  rw [hul, ← hqs] at h5 h6 h7
                  refine ⟨_, _, _, hrun, adv_onto g f hb0 hmb hgq hrc ⟨h6, h7⟩ h5 (setRow_heap w gq arr _ T _ hgq) (fun k hk => setRow_other w gq k _ hk) (setRow_size w gq _) rfl rfl rfl, ⟨_, cap, rfl, hroom, hcm0, .inr ⟨gq, upd_self, rfl, _, T, setRow_heap w gq arr _ T _ hgq, by rw [h5]; exact hs2⟩⟩, fun b hb => upd_ne hb⟩
            · have h0 : n ≠ 0 := by omega
              obtain ⟨p, rfl, hpc⟩ := hne h0
              have hcap := grownCap_ge w (len + n) cap e
              have hcm : grownCap w (len + n) cap e ≤ maxLen := grownCap_le_maxLen w (len + n) cap e (by have := hbound hb; unfold maxLen; omega)
              obtain ⟨ha1, ha2, ha3⟩ := grow_arr (us := us) (vs := vs) (z := (toVal ie.zero).cells) (need := len + n) (cap := grownCap w (len + n) cap e) (size := ie.size) (by rw [hul, hvl, Nat.add_mul]) hzs hcap
              have hrun : ∃ w1, (Builtin.append_ #[t, t] ty #[.slice A len cap, .slice (some p) n xc]).run P w = .ok (.slice (some ⟨w.heap.size, 0, none⟩) (len + n) (grownCap w (len + n) cap e)) w1 ∧ w1.heap = w.heap.push (.cells (us.toArray ++ vs.toArray ++ Builtin.zeroCells (toVal ie.zero).cells (grownCap w (len + n) cap e - (len + n))) e (0, 0)) ∧ w1.os = w.os ∧ w1.tape = w.tape ∧ w1.output = w.output := by
                have hfits : Builtin.nextslicecap (len + n) cap * q.bytes ≤ 281474976710656 := by rw [hqb]; exact growslice_fits (by omega) hb
                have h63 : ((len + n : Nat) : Int) ≤ 9223372036854775807 := by have := hbound hb; omega
                rcases hpl with hpl | ⟨gg, hgg, rfl, _⟩
                · have hl0 : len = 0 := by omega
                  have hus : us = [] := List.eq_nil_of_length_eq_zero (by rw [hul, hl0]; simp)
                  subst hl0 hpl hus
                  have hb' : n * ie.bytes ≤ 140737488355328 := by simpa using hb
                  simp only [Nat.zero_add] at hfits h63 ⊢
                  cases A with
                  | none =>
                    have hr := run_append_nil (P := P) w t ty e q _ hu hq hz p n xc vs (by rw [hqs]; exact hvl) hpc (by omega) h63 (by rw [hqb]; omega)
                    exact ⟨_, hr, by show w.heap.push _ = w.heap.push _; simp, rfl, rfl, rfl⟩
                  | some p0 =>
                    have hr := run_append_grow (P := P) w t ty e q _ hu hq hz p0 0 0 [] (by simp) (by simp) p n xc vs (by rw [hqs]; exact hvl) hpc (by omega) (by simpa using h63) (by simpa using hfits)
                    simp only [Nat.zero_add] at hr
                    exact ⟨_, hr, rfl, rfl, rfl, rfl⟩
                · have hgg : m b = some gg := hgg
                  have holds : ∀ j u, us[j]? = some u → w.cell? ((⟨gg, 0, none⟩ : Addr).add j) = some u := by
                    rcases hpu with ⟨rfl, _⟩ | ⟨gq, arr, T, hmb, hgq, hle, hpre⟩
                    · simp
                    · rw [hmb] at hgg; cases hgg
                      intro j u hj
                      rw [add_mk]
                      simp only [World.cell?, hgq, Nat.zero_add]
                      exact hpre j u hj
                  have hr := run_append_grow (P := P) w t ty e q _ hu hq hz ⟨gg, 0, none⟩ len cap us (by rw [hqs]; exact hul) holds p n xc vs (by rw [hqs]; exact hvl) hpc (by omega) h63 hfits
                  exact ⟨_, hr, rfl, rfl, rfl, rfl⟩
              obtain ⟨w1, hr, hw1, ho1, ho2, ho3⟩ := hrun
              have hsl : slotOk w1 w.heap.size 0 (grownCap w (len + n) cap e * ie.size) :=
                ⟨us.toArray ++ vs.toArray ++ Builtin.zeroCells (toVal ie.zero).cells (grownCap w (len + n) cap e - (len + n)), e, by rw [hw1]; simp, by rw [Nat.zero_add]; exact ha3⟩
              exact ⟨_, _, w1, hr, adv_over g f hb0 hrc ⟨ha1, ha2⟩ hw1 ho1 ho2 ho3, ⟨_, _, rfl, hcap, hcm, .inr ⟨_, upd_self, rfl, hsl⟩⟩, fun b hb => upd_ne hb⟩
          · cases hm
        · cases hm
      · cases hm3
    · cases hm
  · cases hm
end
end Go.Ev
