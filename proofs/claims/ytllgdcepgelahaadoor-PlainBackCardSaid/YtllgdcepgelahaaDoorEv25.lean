/- Regions that draw their order, second part: the order of the text, and what any other order comes to. -/
import Derived.Test.YtllgdcepgelahaaDoorEv24
namespace Go.Ev

theorem overlap_of {b : Nat} : ∀ {l l' : List Nat}, b ∈ l → b ∈ l' → overlap l l' = true
  | x :: r, l', h, h' => by
    simp only [overlap, Bool.or_eq_true]
    rcases List.mem_cons.1 h with rfl | h
    · exact .inl (memN_iff.2 h')
    · exact .inr (overlap_of h h')

theorem overlap_nil : ∀ l : List Nat, overlap l [] = false
  | [] => rfl
  | x :: r => by simp [overlap, memN, overlap_nil r]
theorem conf_nil (a : Bool × List Nat) : conf a (false, []) = false := by simp [conf, overlap_nil]
theorem nil_conf (a : Bool × List Nat) : conf (false, []) a = false := by simp [conf, overlap]

/-! ### what comes ahead -/
theorem nubN_sub {j : Nat} : ∀ {l : List Nat}, j ∈ nubN l → j ∈ l
  | x :: r, h => by
    simp only [nubN] at h
    split at h
    · exact List.mem_cons_of_mem _ (nubN_sub h)
    · rcases List.mem_cons.1 h with rfl | h
      · exact List.mem_cons_self
      · exact List.mem_cons_of_mem _ (nubN_sub h)
theorem befs_old : ∀ (r : List Oper) (acc : List (List Nat)) (k : Nat), k < acc.length → (befs r acc).getD k [] = acc.getD k []
  | [], _, _, _ => rfl
  | o :: r, acc, k, h => by
    rw [befs, befs_old r _ k (by simp; omega)]
    simp only [List.getD_eq_getElem?_getD]
    rw [List.getElem?_append_left h]
theorem befs_get : ∀ (r : List Oper) (acc : List (List Nat)) (i : Nat) (o : Oper), r[i]? = some o → (∀ j ∈ edgesOf o, j < acc.length + i) →
    (befs r acc).getD (acc.length + i) [] = nubN (edgesOf o ++ ((edgesOf o).map fun j => (befs r acc).getD j []).flatten)
  | [], _, _, _, h, _ => by simp at h
  | o :: r, acc, 0, o', h, he => by
    simp only [List.getElem?_cons_zero, Option.some.injEq] at h
    subst h
    rw [befs, Nat.add_zero, befs_old r _ _ (by simp)]
    have e : (edgesOf o).map (fun j => (befs r (acc ++ [nubN (edgesOf o ++ ((edgesOf o).map fun j => acc.getD j []).flatten)])).getD j []) = (edgesOf o).map fun j => acc.getD j [] := by
      apply List.map_congr_left
      intro j hj
      have := he j hj
      rw [befs_old r _ j (by simp; omega)]
      simp only [List.getD_eq_getElem?_getD]
      rw [List.getElem?_append_left (by omega)]
    rw [e]
    simp [List.getD_eq_getElem?_getD]
  | o :: r, acc, i + 1, o', h, he => by
    have := befs_get r (acc ++ [nubN (edgesOf o ++ ((edgesOf o).map fun j => acc.getD j []).flatten)]) i o' (by simpa using h) (fun j hj => by have := he j hj; simp; omega)
    rw [befs, show acc.length + (i + 1) = (acc ++ [nubN (edgesOf o ++ ((edgesOf o).map fun j => acc.getD j []).flatten)]).length + i by simp; omega]
    exact this

section
variable {ops : List Oper}
theorem chkOps_spec {all : List Oper} {bs : List (List Nat)} : ∀ {l : List Oper} {i : Nat}, chkOps all bs i l = true → ∀ k o, l[k]? = some o → (∀ j ∈ edgesOf o, j < i + k) ∧ ∀ u ∈ usesOf all o, chkUse bs (i + k) u 0 all = true
  | [], _, _, k, o, h => by simp at h
  | o :: r, i, hc, 0, o', h => by
    simp only [List.getElem?_cons_zero, Option.some.injEq] at h
    subst h
    simp only [chkOps, Bool.and_eq_true, List.all_eq_true] at hc
    exact ⟨fun j hj => by have := hc.1 j hj; simpa [Nat.blt_eq] using this, hc.2.1⟩
  | o :: r, i, hc, k + 1, o', h => by
    simp only [chkOps, Bool.and_eq_true] at hc
    have := chkOps_spec hc.2.2 k o' (by simpa using h)
    rwa [show i + 1 + k = i + (k + 1) by omega] at this
theorem chkUse_spec {bs : List (List Nat)} {i u : Nat} : ∀ {l : List Oper} {j : Nat}, chkUse bs i u j l = true → ∀ k o, l[k]? = some o → o.dst = some u → j + k = i ∨ j + k ∈ bs.getD i [] ∨ i ∈ bs.getD (j + k) []
  | [], _, _, k, o, h, _ => by simp at h
  | o :: r, j, hc, 0, o', h, hd => by
    simp only [List.getElem?_cons_zero, Option.some.injEq] at h
    subst h
    simp only [chkUse, Bool.and_eq_true, hd] at hc
    have hc := hc.1
    simp only [Nat.beq_refl, Bool.not_true, Bool.false_or, Bool.or_eq_true] at hc
    rcases hc with hc | hc | hc
    · exact .inl (Nat.eq_of_beq_eq_true hc)
    · exact .inr (.inl (memN_iff.1 hc))
    · exact .inr (.inr (memN_iff.1 hc))
  | o :: r, j, hc, k + 1, o', h, hd => by
    simp only [chkUse, Bool.and_eq_true] at hc
    have := chkUse_spec hc.2 k o' (by simpa using h) hd
    rwa [show j + 1 + k = j + (k + 1) by omega] at this

structure RegOk (ops : List Oper) : Prop where
  ed : ∀ k o, ops[k]? = some o → ∀ j ∈ edgesOf o, j < k
  us : ∀ i oi, ops[i]? = some oi → ∀ u ∈ usesOf ops oi, ∀ k o, ops[k]? = some o → o.dst = some u → k = i ∨ k ∈ (befs ops []).getD i [] ∨ i ∈ (befs ops []).getD k []
  nd : ∀ (i k : Nat) (oi ok : Oper) (u : Nat), ops[i]? = some oi → ops[k]? = some ok → oi.dst = some u → ok.dst = some u → i = k
theorem nodup_filterMap {α β : Type} {f : α → Option β} : ∀ {l : List α}, (l.filterMap f).Nodup → ∀ (i k : Nat) (a b : α) (u : β), l[i]? = some a → l[k]? = some b → f a = some u → f b = some u → i = k
  | [], _, i, _, _, _, _, h, _, _, _ => by simp at h
  | x :: r, hn, i, k, a, b, u, h1, h2, h3, h4 => by
    have key : ∀ (j : Nat) (c : α), r[j]? = some c → f c = some u → f x = some u → False := fun j c hj hc hx => by
      rw [List.filterMap_cons_some hx] at hn
      exact (List.nodup_cons.1 hn).1 (List.mem_filterMap.2 ⟨c, List.mem_of_getElem? hj, hc⟩)
    have hn' : (r.filterMap f).Nodup := by
      cases hx : f x with
      | none => rwa [List.filterMap_cons_none hx] at hn
      | some y => rw [List.filterMap_cons_some hx] at hn; exact (List.nodup_cons.1 hn).2
    cases i with
    | zero =>
      cases k with
      | zero => rfl
      | succ k =>
        simp only [List.getElem?_cons_zero, Option.some.injEq] at h1
        subst h1
        exact (key k b (by simpa using h2) h4 h3).elim
    | succ i =>
      cases k with
      | zero =>
        simp only [List.getElem?_cons_zero, Option.some.injEq] at h2
        subst h2
        exact (key i a (by simpa using h1) h3 h4).elim
      | succ k => rw [nodup_filterMap hn' i k a b u (by simpa using h1) (by simpa using h2) h3 h4]
theorem regOk_spec (h : regOk ops = true) : RegOk ops := by
  simp only [regOk, Bool.and_eq_true] at h
  refine ⟨fun k o hk j hj => ?_, fun i oi hi u hu k o hk hd => ?_, fun i k oi ok u hi hk h1 h2 => ?_⟩
  · have := (chkOps_spec h.1 k o hk).1 j hj
    omega
  · have := chkUse_spec ((chkOps_spec h.1 i oi hi).2 u hu) k o hk hd
    simpa using this
  · exact nodup_filterMap (nodupN_nodup h.2) i k oi ok u hi hk h1 h2

theorem RegOk.bef (R : RegOk ops) {i : Nat} {o : Oper} (hi : ops[i]? = some o) : (befs ops []).getD i [] = nubN (edgesOf o ++ ((edgesOf o).map fun j => (befs ops []).getD j []).flatten) := by
  have := befs_get ops [] i o hi (fun j hj => by have := R.ed i o hi j hj; simp; exact this)
  simpa using this
theorem RegOk.bef_lt (R : RegOk ops) : ∀ (i : Nat) (o : Oper), ops[i]? = some o → ∀ j ∈ (befs ops []).getD i [], j < i := by
  intro i
  induction i using Nat.strongRecOn with
  | _ i ih =>
    intro o hi j hj
    rw [R.bef hi] at hj
    replace hj := List.mem_append.1 (nubN_sub hj)
    rcases hj with hj | hj
    · exact R.ed i o hi j hj
    · rw [List.mem_flatten] at hj
      obtain ⟨l, hl, hj⟩ := hj
      obtain ⟨q, hq, rfl⟩ := List.mem_map.1 hl
      have hqi := R.ed i o hi q hq
      have : q < ops.length := by have := (List.getElem?_eq_some_iff.1 hi).1; omega
      have := ih q hqi _ (List.getElem?_eq_getElem this) j hj
      omega
/-- a set of operations with all that comes ahead of them -/
def Closed (ops : List Oper) (L : Nat → Bool) : Prop := ∀ i o, ops[i]? = some o → L i = true → ∀ j ∈ edgesOf o, L j = true
theorem RegOk.ahead (R : RegOk ops) {L : Nat → Bool} (hc : Closed ops L) : ∀ (i : Nat) (o : Oper), ops[i]? = some o → (∀ j ∈ edgesOf o, L j = true) → ∀ j ∈ (befs ops []).getD i [], L j = true := by
  intro i
  induction i using Nat.strongRecOn with
  | _ i ih =>
    intro o hi he j hj
    rw [R.bef hi] at hj
    replace hj := List.mem_append.1 (nubN_sub hj)
    rcases hj with hj | hj
    · exact he j hj
    · rw [List.mem_flatten] at hj
      obtain ⟨l, hl, hj⟩ := hj
      obtain ⟨q, hq, rfl⟩ := List.mem_map.1 hl
      have hqi := R.ed i o hi q hq
      have hlt : q < ops.length := by have := (List.getElem?_eq_some_iff.1 hi).1; omega
      have hoq := List.getElem?_eq_getElem hlt
      exact ih q hqi _ hoq (fun k hk => hc q _ hoq (he q hq) k hk) j hj
theorem RegOk.ahead' (R : RegOk ops) {L : Nat → Bool} (hc : Closed ops L) {i : Nat} {o : Oper} (hi : ops[i]? = some o) (hl : L i = true) : ∀ j ∈ (befs ops []).getD i [], L j = true :=
  R.ahead hc i o hi (hc i o hi hl)
end

/-! ### the order of the text -/
section
variable {E : Env} {call : CallF}
structure TL (E : Env) (call : CallF) (ops : List Oper) (s : Nat) (TT : Nat → List AV) (HH : Nat → H) (V : Nat → AV) (G : Nat → Bool) (M : Nat → Bool × List Nat) (i : Nat) : Prop where
  step : ∀ k o, i ≤ k → ops[k]? = some o → guardA ops (TT k) o = some (G k) ∧ (G k = true → evOp E call (TT k) (HH k) (s + k) o (fun v h => some (v, h)) = some (V k, HH (k + 1)) ∧ M k = mine (s + k) (touch E (TT k) (HH k) o)) ∧
    (G k = false → V k = .tup [] ∧ HH (k + 1) = HH k ∧ M k = (false, [])) ∧ TT (k + 1) = setT (TT k) o.dst (V k)
  len : ∀ k, i ≤ k → k ≤ ops.length → (HH k).length = s + ops.length
  ice : ∀ k, i ≤ k → k ≤ ops.length → noIce (HH k) = true
  cf : ∀ j k, i ≤ j → j < k → k < ops.length → conf (M j) (M k) = true → j ∈ (befs ops []).getD k []
  nw : ∀ k, i ≤ k → k < ops.length → ∀ b ∈ (M k).2, s ≤ b → (b = s + k ∧ (M k).1 = true) ∨ ∃ j, j < k ∧ (i ≤ j → (M j).1 = true) ∧ b = s + j

theorem chkAcc_spec {bi : List Nat} {me : Bool × List Nat} : ∀ {acc : List (Nat × Bool × List Nat)}, chkAcc bi me acc = true → ∀ e ∈ acc, conf e.2 me = true → e.1 ∈ bi
  | [], _, e, he, _ => by cases he
  | x :: r, h, e, he, hc => by
    simp only [chkAcc, Bool.and_eq_true, Bool.or_eq_true, Bool.not_eq_true'] at h
    rcases List.mem_cons.1 he with rfl | he
    · rcases h.1 with h1 | h1
      · rw [hc] at h1; cases h1
      · exact memN_iff.1 h1
    · exact chkAcc_spec h.2 e he hc
theorem chkNew_spec {s : Nat} {acc : List (Nat × Bool × List Nat)} : ∀ {l : List Nat}, chkNew s acc l = true → ∀ b ∈ l, b < s ∨ ∃ e ∈ acc, e.2.1 = true ∧ b = s + e.1
  | [], _, b, hb => by cases hb
  | x :: r, h, b, hb => by
    simp only [chkNew, Bool.and_eq_true, Bool.or_eq_true] at h
    rcases List.mem_cons.1 hb with rfl | hb
    · rcases h.1 with h1 | h1
      · left; simpa [Nat.blt_eq] using h1
      · right
        obtain ⟨e, he, h2⟩ := List.any_eq_true.1 h1
        simp only [Bool.and_eq_true] at h2
        exact ⟨e, he, h2.1, (Nat.eq_of_beq_eq_true h2.2).symm⟩
    · exact chkNew_spec h.2 b hb

theorem evAny_cons {all : List Oper} {bs : List (List Nat)} {s i : Nat} {o : Oper} {rest : List Oper} {t : List AV} {h : H} {acc : List (Nat × Bool × List Nat)} {R : Type} {K : List AV → H → Option R} {r : R}
    (set_self : ∀ {t : List AV} {d : Nat} {b : Bool}, t.getD d .undef = .bool b → t.set d (.bool b) = t) (hr : evAny E call all bs s i (o :: rest) t h acc K = some r) :
    ∃ b, guardA all t o = some b ∧ (b = true → (anyOp E call (bs.getD i []) s i (s + i) o t h acc fun t h acc => evAny E call all bs s (i + 1) rest t h acc K) = some r) ∧ (b = false → evAny E call all bs s (i + 1) rest (setT t o.dst (.tup [])) h acc K = some r) := by
  simp only [evAny] at hr
  unfold guardA
  split at hr
  · rename_i hg
    exact ⟨true, by simp, fun _ => hr, (fun h => by cases h)⟩
  · rename_i j want hg
    split at hr
    · rename_i hd
      exact ⟨false, by simp, (fun h => by cases h), fun _ => hr⟩
    · rename_i d hd
      split at hr
      · rename_i b hb
        clear hg
        cases want with
        | true =>
          refine ⟨b, by simp, ?_⟩
          cases b with
          | true => rw [set_self hb] at hr; exact ⟨fun _ => hr, (fun h => by cases h)⟩
          | false => rw [set_self hb] at hr; exact ⟨(fun h => by cases h), fun _ => hr⟩
        | false =>
          refine ⟨!b, by simp, ?_⟩
          cases b with
          | true => rw [set_self hb] at hr; exact ⟨(fun h => by cases h), fun _ => hr⟩
          | false => rw [set_self hb] at hr; exact ⟨fun _ => hr, (fun h => by cases h)⟩
      · rename_i vs hb
        exact ⟨false, rfl, (fun h => by cases h), fun _ => hr⟩
      · rename_i k n hb
        exact ⟨false, rfl, (fun h => by cases h), fun _ => hr⟩
      · cases hr

theorem evAny_tl (hn : CallNat call) {ops : List Oper} {s : Nat} {R : Type} {K : List AV → H → Option R} {r : R} (set_self : ∀ {t : List AV} {d : Nat} {b : Bool}, t.getD d .undef = .bool b → t.set d (.bool b) = t) :
    ∀ (l : List Oper) (i : Nat) (t : List AV) (h : H) (acc : List (Nat × Bool × List Nat)), i + l.length = ops.length → ops.drop i = l → evAny E call ops (befs ops []) s i l t h acc K = some r → h.length = s + ops.length → noIce h = true → (∀ e ∈ acc, e.1 < i) →
      ∃ TT HH V G M, TT i = t ∧ HH i = h ∧ TL E call ops s TT HH V G M i ∧ (∀ k, i ≤ k → k < ops.length → ∀ e ∈ acc, conf e.2 (M k) = true → e.1 ∈ (befs ops []).getD k []) ∧
        (∀ k, i ≤ k → k < ops.length → ∀ b ∈ (M k).2, s ≤ b → (b = s + k ∧ (M k).1 = true) ∨ (∃ j, i ≤ j ∧ j < k ∧ (M j).1 = true ∧ b = s + j) ∨ ∃ e ∈ acc, e.2.1 = true ∧ b = s + e.1) ∧ K (TT ops.length) (HH ops.length) = some r
  | [], i, t, h, acc, hil, hd, hr, hl, hi, ha => by
    have hil : i = ops.length := by simpa using hil
    subst hil
    refine ⟨fun _ => t, fun _ => h, fun _ => .undef, fun _ => true, fun _ => (false, []), rfl, rfl, ⟨?_, fun _ _ _ => hl, fun _ _ _ => hi, ?_, ?_⟩, ?_, ?_, hr⟩
    rotate_left
    · intro j k _ _ _ h
      rw [conf_nil] at h; cases h
    · intro k _ _ b hb
      cases hb
    · intro k _ _ e _ h
      rw [conf_nil] at h; cases h
    · intro k _ _ b hb
      cases hb
    intro k o hk ho
    have := (List.getElem?_eq_some_iff.1 ho).1
    omega
  | o :: rest, i, t, h, acc, hil, hd, hr, hl, hi, ha => by
    have ho : ops[i]? = some o := by
      have h1 : (ops.drop i)[0]? = some o := by rw [hd]; rfl
      simpa using h1
    have hd' : ops.drop (i + 1) = rest := by rw [← List.drop_drop, hd]; rfl
    have hilt : i < ops.length := (List.getElem?_eq_some_iff.1 ho).1
    obtain ⟨g, hg, hr1, hr2⟩ := evAny_cons set_self hr
    cases g with
    | true =>
      have hr := hr1 rfl
      unfold anyOp at hr
      obtain ⟨hc, hr⟩ := sel_iff.1 hr
      simp only [Bool.and_eq_true] at hc
      obtain ⟨v, h1, h2, h3⟩ := evOp_says E hn hr
      obtain ⟨hc2, h3⟩ := sel_iff.1 h3
      simp only [Bool.and_eq_true] at hc2
      have hl1 : h1.length = s + ops.length := (Nat.eq_of_beq_eq_true hc2.1).trans hl
      obtain ⟨TT, HH, V, G, M, e1, e2, T, A1, A2, A3⟩ := evAny_tl hn set_self rest (i + 1) _ h1 _ (by simp only [List.length_cons] at hil; omega) hd' h3 hl1 hc2.2 (fun e he => by
        rcases List.mem_cons.1 he with rfl | he
        · simp
        · have := ha e he; omega)
      let me := mine (s + i) (touch E t h o)
      have ne : ∀ k, i + 1 ≤ k → ¬ k = i := fun k hk => by omega
      refine ⟨fun k => if k = i then t else TT k, fun k => if k = i then h else HH k, fun k => if k = i then v else V k, fun k => if k = i then true else G k, fun k => if k = i then me else M k, by simp, by simp, ⟨?_, ?_, ?_, ?_, ?_⟩, ?_, ?_, ?_⟩
      · intro k o' hk hk'
        by_cases hki : k = i
        · subst hki
          rw [ho] at hk'
          cases hk'
          have : ¬ k + 1 = k := by omega
          simp only [if_true, this, if_false, e1, e2]
          exact ⟨hg, fun _ => ⟨h2, rfl⟩, (fun h => by cases h), trivial⟩
        · have : ¬ k + 1 = i := by omega
          simp only [hki, this, if_false]
          exact T.step k o' (by omega) hk'
      · intro k hk hk'
        by_cases hki : k = i
        · simp only [hki, if_true]; exact hl
        · simp only [hki, if_false]; exact T.len k (by omega) hk'
      · intro k hk hk'
        by_cases hki : k = i
        · simp only [hki, if_true]; exact hi
        · simp only [hki, if_false]; exact T.ice k (by omega) hk'
      · intro j k hj hjk hk hcf
        have hki : ¬ k = i := by omega
        simp only [hki, if_false] at hcf
        by_cases hji : j = i
        · subst hji
          simp only [if_true] at hcf
          exact A1 k (by omega) hk _ List.mem_cons_self hcf
        · simp only [hji, if_false] at hcf
          exact T.cf j k (by omega) hjk hk hcf
      · intro k hk hk' b hb hsb
        by_cases hki : k = i
        · subst hki
          simp only [if_true] at hb ⊢
          have hb' : (b = s + k ∧ me.1 = true) ∨ b ∈ (touch E t h o).2 := by
            simp only [me, mine] at hb ⊢
            split at hb
            · rcases List.mem_cons.1 hb with rfl | hb
              · exact .inl ⟨rfl, rfl⟩
              · exact .inr hb
            · exact .inr hb
          rcases hb' with hb' | hb'
          · exact .inl hb'
          · rcases chkNew_spec hc.2 b hb' with h4 | ⟨e, he, h4, h5⟩
            · omega
            · exact .inr ⟨e.1, ha e he, fun hj => by have := ha e he; omega, h5⟩
        · simp only [hki, if_false] at hb ⊢
          rcases A2 k (by omega) hk' b hb hsb with h4 | ⟨j, h4, h5, h6, h7⟩ | ⟨e, he, h4, h5⟩
          · exact .inl h4
          · refine .inr ⟨j, h5, fun _ => ?_, h7⟩
            have : ¬ j = i := by omega
            simp only [this, if_false]; exact h6
          · rcases List.mem_cons.1 he with rfl | he
            · refine .inr ⟨i, by omega, fun _ => ?_, h5⟩
              simp only [if_true]; exact h4
            · exact .inr ⟨e.1, by have := ha e he; omega, fun hj => by have := ha e he; omega, h5⟩
      · intro k hk hk' e he hcf
        by_cases hki : k = i
        · subst hki
          simp only [if_true] at hcf
          exact chkAcc_spec hc.1 e he hcf
        · simp only [hki, if_false] at hcf
          exact A1 k (by omega) hk' e (List.mem_cons_of_mem _ he) hcf
      · intro k hk hk' b hb hsb
        by_cases hki : k = i
        · subst hki
          simp only [if_true] at hb ⊢
          have hb' : (b = s + k ∧ me.1 = true) ∨ b ∈ (touch E t h o).2 := by
            simp only [me, mine] at hb ⊢
            split at hb
            · rcases List.mem_cons.1 hb with rfl | hb
              · exact .inl ⟨rfl, rfl⟩
              · exact .inr hb
            · exact .inr hb
          rcases hb' with hb' | hb'
          · exact .inl hb'
          · rcases chkNew_spec hc.2 b hb' with h4 | h4
            · omega
            · exact .inr (.inr h4)
        · simp only [hki, if_false] at hb ⊢
          rcases A2 k (by omega) hk' b hb hsb with h4 | ⟨j, h4, h5, h6, h7⟩ | ⟨e, he, h4, h5⟩
          · exact .inl h4
          · refine .inr (.inl ⟨j, by omega, h5, ?_, h7⟩)
            have : ¬ j = i := by omega
            simp only [this, if_false]; exact h6
          · rcases List.mem_cons.1 he with rfl | he
            · refine .inr (.inl ⟨i, Nat.le_refl _, by omega, ?_, h5⟩)
              simp only [if_true]; exact h4
            · exact .inr (.inr ⟨e, he, h4, h5⟩)
      · have : ¬ ops.length = i := by omega
        simp only [this, if_false]
        exact A3
    | false =>
      have hr := hr2 rfl
      obtain ⟨TT, HH, V, G, M, e1, e2, T, A1, A2, A3⟩ := evAny_tl hn set_self rest (i + 1) _ h _ (by simp only [List.length_cons] at hil; omega) hd' hr hl hi (fun e he => by have := ha e he; omega)
      refine ⟨fun k => if k = i then t else TT k, fun k => if k = i then h else HH k, fun k => if k = i then .tup [] else V k, fun k => if k = i then false else G k, fun k => if k = i then (false, []) else M k, by simp, by simp, ⟨?_, ?_, ?_, ?_, ?_⟩, ?_, ?_, ?_⟩
      · intro k o' hk hk'
        by_cases hki : k = i
        · subst hki
          rw [ho] at hk'
          cases hk'
          have : ¬ k + 1 = k := by omega
          simp only [if_true, this, if_false, e1, e2]
          exact ⟨hg, (fun h => by cases h), fun _ => ⟨trivial, trivial, trivial⟩, trivial⟩
        · have : ¬ k + 1 = i := by omega
          simp only [hki, this, if_false]
          exact T.step k o' (by omega) hk'
      · intro k hk hk'
        by_cases hki : k = i
        · simp only [hki, if_true]; exact hl
        · simp only [hki, if_false]; exact T.len k (by omega) hk'
      · intro k hk hk'
        by_cases hki : k = i
        · simp only [hki, if_true]; exact hi
        · simp only [hki, if_false]; exact T.ice k (by omega) hk'
      · intro j k hj hjk hk hcf
        have hki : ¬ k = i := by omega
        simp only [hki, if_false] at hcf
        by_cases hji : j = i
        · simp only [hji, if_true] at hcf
          rw [nil_conf] at hcf; cases hcf
        · simp only [hji, if_false] at hcf
          exact T.cf j k (by omega) hjk hk hcf
      · intro k hk hk' b hb hsb
        by_cases hki : k = i
        · simp [hki] at hb
        · simp only [hki, if_false] at hb ⊢
          rcases A2 k (by omega) hk' b hb hsb with h4 | ⟨j, h4, h5, h6, h7⟩ | ⟨e, he, h4, h5⟩
          · exact .inl h4
          · refine .inr ⟨j, h5, fun _ => ?_, h7⟩
            have : ¬ j = i := by omega
            simp only [this, if_false]; exact h6
          · exact .inr ⟨e.1, by have := ha e he; omega, fun hj => by have := ha e he; omega, h5⟩
      · intro k hk hk' e he hcf
        by_cases hki : k = i
        · simp only [hki, if_true] at hcf
          rw [conf_nil] at hcf; cases hcf
        · simp only [hki, if_false] at hcf
          exact A1 k (by omega) hk' e he hcf
      · intro k hk hk' b hb hsb
        by_cases hki : k = i
        · simp [hki] at hb
        · simp only [hki, if_false] at hb ⊢
          rcases A2 k (by omega) hk' b hb hsb with h4 | ⟨j, h4, h5, h6, h7⟩ | h4
          · exact .inl h4
          · refine .inr (.inl ⟨j, by omega, h5, ?_, h7⟩)
            have : ¬ j = i := by omega
            simp only [this, if_false]; exact h6
          · exact .inr (.inr h4)
      · have : ¬ ops.length = i := by omega
        simp only [this, if_false]
        exact A3
end
end Go.Ev
