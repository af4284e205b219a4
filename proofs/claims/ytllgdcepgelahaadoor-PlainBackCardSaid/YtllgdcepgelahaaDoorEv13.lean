/- Operations on memory: copy; calls of builtins. -/
import Derived.Test.YtllgdcepgelahaaDoorEv12
namespace Go.Ev
section
variable {P : Program} {E : Env} {X : Nat → Prop} {h h1 : H} {m : Nat → Option Nat} {w w1 : World} {C : Cx} {slot : Nat}

/-- a block's contents told in other words -/
theorem adv_same {b : Nat} {c c' : Blk} (g : Good E X h m w) (hb : h[b]? = some (.live c)) (hc : ∀ us, relB (cx X h m w) c us → relB (cx X h m w) c' us) : Adv E X h m w (h.set b (.live c')) m w := by
  obtain ⟨us, h1, h2⟩ := g.hp b c (blkAt_live hb)
  rcases h2 with ⟨h2, h3⟩ | ⟨q, arr, T, h3, h4, h5, h6⟩
  · have hbl := (List.getElem?_eq_some_iff.1 hb).1
    have t : Turn E X h m w b c' none (fun _ => False) (h.set b (.live c')) w := {
      good := g
      blk := fun b' d hb' => by
        unfold blkAt at hb'
        rw [List.getElem?_set] at hb'
        by_cases e : b' = b
        · subst e; simp [hbl] at hb'; exact .inl ⟨rfl, hb'.symm⟩
        · rw [if_neg (Ne.symm e)] at hb'; exact .inr ⟨e, id, by unfold blkAt; exact hb'⟩
      live := fun b' d hb' => by
        rw [List.getElem?_set] at hb'
        by_cases e : b' = b
        · exact .inl e
        · rw [if_neg (Ne.symm e)] at hb'; exact .inr ⟨e, hb'⟩
      lt := by simpa using hbl
      len := by simp
      ms := .inl h3
      place := fun k hk => by cases hk
      same := fun _ _ _ => rfl
      shape := fun k hk => by cases hk
      os := rfl, tape := rfl, output := rfl, size := Nat.le_refl _ }
    have e : upd m b none = m := by funext k; unfold upd; split <;> simp_all
    have := t.adv fun S => ⟨us, relB_step S c' us (hc us h1), .inl ⟨h2, rfl⟩⟩
    rwa [e] at this
  · exact adv_set g hb h3 h4 (hc us h1) ⟨h5, h6⟩ rfl h4 (fun _ _ => rfl) rfl rfl rfl rfl

theorem copyA_ok (hE : EnvOk E P) (g : Good E X h m w) {t : TypeId} {ts : Array TypeId} (ty : TypeId) {d x z : AV} {ud ux : Value} {h1 : H} (hm : copyA E h t d x (fun v h => some (v, h)) = some (z, h1)) (hd : rel (cx X h m w) d ud) (hx : rel (cx X h m w) x ux) (hts : ts[0]? = some t) :
    ∃ u w1, (Builtin.copy_ ts ty #[ud, ux]).run P w = .ok u w1 ∧ Adv E X h m w h1 m w1 ∧ rel (cx X h1 m w1) z u := by
  unfold copyA at hm
  split at hm
  · rename_i e _ _ _ ht
    have hu := (hE _ _ ht).und_slice rfl
    split at hm
    · rename_i ie he
      have hT := hE _ _ he
      have hsz := fun w => hT.run_sizeOf (w := w)
      obtain ⟨hp1, hm1⟩ := sel_iff.1 hm
      clear hm
      obtain ⟨hp2, hm2⟩ := sel_iff.1 hm1
      clear hm1
      have hp1 := of_decide_eq_true hp1
      split at hm2
      · rename_i n hn
        split at hm2
        · rename_i b off len sz
          split at hm2
          · rename_i c hb
            obtain ⟨hp3, hm3⟩ := sel_iff.1 hm2
            clear hm2
            obtain ⟨hp4, hm4⟩ := sel_iff.1 hm3
            clear hm3
            have hp3 := of_decide_eq_true hp3
            have hp4 := of_decide_eq_true hp4
            subst hp3
            obtain ⟨y, hy, hm5⟩ := readSl_then hm4
            clear hm4
            obtain ⟨hone, hm⟩ := sel_iff.1 hm5
            clear hm5
            obtain ⟨ax, xc, vs, rfl, hry, hvl, hva⟩ := readSl_ok g hy hn hp2 hx
            rw [Nat.mul_one] at hvl
            have h1c := relB_one hry hone
            obtain ⟨A, cap, rfl, hlc, hcm, hpl⟩ := hd
            -- in one word for both ways
            have key : ∀ (k : Nat) (y' : Blk) (c' : Blk), k = min n len → relB (cx X h m w) y' (vs.take k) → c.put off y' some = some c' →
                ∃ w1, (Builtin.copy_ ts ty #[.slice A len cap, .slice ax n xc]).run P w = .ok (.int .i64 (k : Int)) w1 ∧ Adv E X h m w (h.set b (.live c')) m w1 := by
              intro k y' c' hk hy' hput
              have hkl : (vs.take k).length = k := by rw [List.length_take]; omega
              have hone' : ∀ v ∈ vs.take k, v.oneCell' = true := fun v hv => h1c v (List.mem_of_mem_take hv)
              have hcells : (Builtin.firstCells 1 k (.slice ax n xc)).run P w = .ok (vs.take k).toArray w := by
                rcases hva with rfl | ⟨p, rfl, hpc⟩
                · have : k = 0 := by simp at hkl; omega
                  subst this
                  cases ax <;> simp [Builtin.firstCells, loadCells, loadCellsFrom]
                · have := run_firstCells_some (P := P) w 1 k p n xc (vs.take k) (by rw [hkl, Nat.mul_one]) (cellsAt_take hpc k)
                  exact this
              have hcopy : ∀ base : Option Addr, (Builtin.copy_ ts ty #[.slice base len cap, .slice ax n xc]).run P w = ((match base with | some a => storeCells a (vs.take k) | none => pure ()).run P w).andThen fun _ w' => .ok (.int .i64 (k : Int)) w' := by
                intro base
                have hmin : Nat.min n len = k := hk.symm
                cases base <;> simp [Builtin.copy_, hts, run_underlying hu, Builtin.lenOf, hmin, hsz, hp1, hcells, goInt]
              rcases hpl with hpl | ⟨q, hq, rfl, _⟩
              · have hk0 : k = 0 := by omega
                have hnil : vs.take k = [] := List.eq_nil_of_length_eq_zero (by omega)
                have hsame : ∀ us, relB (cx X h m w) c us → relB (cx X h m w) c' us := fun us hr => by
                  have := (relB_put hput hr hy').2.1
                  rw [hnil] at this
                  simpa using this
                refine ⟨w, ?_, adv_same g hb hsame⟩
                rw [hcopy A, hnil]
                cases A <;> simp [storeCells]
              · have hq : m b = some q := hq
                obtain ⟨us0, arr, T, h5, _⟩ := g.block (blkAt_live hb) hq
                obtain ⟨w1, h6, h7⟩ := store_cells (P := P) (off := off) (vs := vs.take k) g hb hq (fun us hr => ⟨(relB_put hput hr hy').1, (relB_put hput hr hy').2.1⟩) hone'
                exact ⟨w1, by rw [hcopy]; simp [h6], h7⟩
            cases hle : decide (n ≤ len) with
            | true =>
              rw [hle] at hm
              have hle := of_decide_eq_true hle
              simp only [sel_true] at hm
              obtain ⟨c', h2, h3⟩ := put_then hm
              cases h3
              obtain ⟨w1, h4, h5⟩ := key n y c' (by omega) (by rw [List.take_of_length_le (by omega)]; exact hry) h2
              exact ⟨_, w1, h4, h5, rfl⟩
            | false =>
              rw [hle] at hm
              have hle := of_decide_eq_false hle
              simp only [sel_false] at hm
              obtain ⟨y', h0, hm'⟩ := sub_then hm
              obtain ⟨c', h2, h3⟩ := put_then hm'
              cases h3
              obtain ⟨w1, h4, h5⟩ := key len y' c' (by omega) (by simpa using (relB_sub h0 hry).2.1) h2
              exact ⟨_, w1, h4, h5, rfl⟩
          · cases hm2
        · cases hm2
      · cases hm2
    · cases hm
  · cases hm

/-- calls of builtins -/
theorem builtinA_ok (hE : EnvOk E P) (g : Good E X h m w) (f : Free h m slot) {b : Builtin} {ts : Array TypeId} (ty : TypeId) {xs : List AV} {z : AV} {us : List Value} {h1 : H}
    (hm : builtinA E h slot b ts.toList xs (fun v h => some (v, h)) = some (z, h1)) (hx : relL (cx X h m w) xs us) :
    ∃ u m1 w1, (∀ consts, (builtin b ts ty consts us.toArray).run P w = .ok (.value u) w1) ∧ Adv E X h m w h1 m1 w1 ∧ rel (cx X h1 m1 w1) z u ∧ ∀ b, b ≠ slot → m1 b = m b := by
  unfold builtinA at hm
  split at hm
  · split at hm
    · rename_i t r x hts
      obtain ⟨u, _, rfl, hxu, hnil⟩ := hx
      have hnil : _ = [] := hnil
      subst hnil
      have e := lenA_push E t x some (fun v => some (v, h))
      simp only [Option.bind_some] at e
      rw [← e] at hm
      obtain ⟨v, h2, h3⟩ := of_bind hm
      cases h3
      obtain ⟨q, h4, h5⟩ := lenA_ok (P := P) (w := w) hE ty h2 hxu (ts := ts) (by rw [← Array.getElem?_toList, hts]; rfl)
      exact ⟨q, m, w, fun _ => by simp [builtin, h4], Adv.refl g, h5, fun _ _ => rfl⟩
    · cases hm
  · split at hm
    · rename_i v hv
      cases hm
      obtain ⟨q, h4, h5⟩ := maxA_ok (P := P) (w := w) ts ty hv hx
      exact ⟨q, m, w, fun _ => by simp [builtin, h4], Adv.refl g, h5, fun _ _ => rfl⟩
    · cases hm
  · split at hm
    · rename_i v hv
      cases hm
      obtain ⟨q, h4, h5⟩ := minA_ok (P := P) (w := w) ts ty hv hx
      exact ⟨q, m, w, fun _ => by simp [builtin, h4], Adv.refl g, h5, fun _ _ => rfl⟩
    · cases hm
  · split at hm
    · rename_i t u s x hts
      obtain ⟨htu, hm2⟩ := sel_iff.1 hm
      have htu := of_decide_eq_true htu
      subst htu
      obtain ⟨us1, _, rfl, hs, ux, _, rfl, hx, hnil⟩ := hx
      have hnil : _ = [] := hnil
      subst hnil
      obtain ⟨q, m1, w1, h4, h5, h6, h7⟩ := appendA_ok (P := P) hE g f ty hm2 hs hx
      have hts' : ts = #[t, t] := by apply Array.ext'; rw [hts]
      exact ⟨q, m1, w1, fun _ => by rw [hts']; simp [builtin, h4], h5, h6, h7⟩
    · cases hm
  · split at hm
    · rename_i t r d x hts
      obtain ⟨ud, _, rfl, hd, ux, _, rfl, hx, hnil⟩ := hx
      have hnil : _ = [] := hnil
      subst hnil
      obtain ⟨q, w1, h4, h5, h6⟩ := copyA_ok (P := P) hE g ty hm hd hx (ts := ts) (by rw [← Array.getElem?_toList, hts]; rfl)
      exact ⟨q, m, w1, fun _ => by simp [builtin, h4], h5, h6, fun _ _ => rfl⟩
    · cases hm
  · cases hm
end
end Go.Ev
