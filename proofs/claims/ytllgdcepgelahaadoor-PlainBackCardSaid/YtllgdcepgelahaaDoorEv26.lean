/- Regions that draw their order, third part: what some of the operations have come to, whichever they are. -/
import Derived.Test.YtllgdcepgelahaaDoorEv25
namespace Go.Ev

def dstOf (ops : List Oper) (k : Nat) : Option Nat := (ops[k]?).bind (·.dst)
/-- the frame behind some operations -/
def tL (ops : List Oper) (V : Nat → AV) (L : Nat → Bool) (t0 : List AV) : Nat → List AV
  | 0 => t0
  | k + 1 => match L k with | true => setT (tL ops V L t0 k) (dstOf ops k) (V k) | false => tL ops V L t0 k
def writes (M : Nat → Bool × List Nat) (k b : Nat) : Bool := (M k).1 && memN (M k).2 b
/-- the last of some operations that may have changed a block (counted from 1) -/
def lastW (M : Nat → Bool × List Nat) (L : Nat → Bool) (b : Nat) : Nat → Nat
  | 0 => 0
  | k + 1 => match L k && writes M k b with | true => k + 1 | false => lastW M L b k
/-- the blocks behind some operations -/
def hL (HH : Nat → H) (M : Nat → Bool × List Nat) (L : Nat → Bool) (n N : Nat) : H := (List.range N).map fun b => (HH (lastW M L b n)).getD b .dead
def addL (L : Nat → Bool) (i : Nat) : Nat → Bool := fun k => L k || k.beq i
def cnt (L : Nat → Bool) : Nat → Nat
  | 0 => 0
  | k + 1 => cnt L k + (L k).toNat

section
variable {ops : List Oper} {V : Nat → AV} {L L' : Nat → Bool} {t0 : List AV} {M : Nat → Bool × List Nat} {HH : Nat → H} {n N : Nat}
theorem setT_length (t : List AV) (d : Option Nat) (v : AV) : (setT t d v).length = t.length := by cases d <;> simp [setT]
theorem tL_length : ∀ k, (tL ops V L t0 k).length = t0.length
  | 0 => rfl
  | k + 1 => by
    simp only [tL]
    cases L k with
    | true => simp only [setT_length]; exact tL_length k
    | false => exact tL_length k
theorem tL_agree {u : Nat} : ∀ k, (∀ j, j < k → dstOf ops j = some u → L j = L' j) → (tL ops V L t0 k)[u]? = (tL ops V L' t0 k)[u]?
  | 0, _ => rfl
  | k + 1, h => by
    have ih := tL_agree k fun j hj hd => h j (by omega) hd
    simp only [tL]
    by_cases hd : dstOf ops k = some u
    · rw [h k (by omega) hd, hd]
      cases L' k with
      | true => simp only [setT]; rw [List.getElem?_set_self', List.getElem?_set_self', ih]
      | false => exact ih
    · have key : ∀ t : List AV, (setT t (dstOf ops k) (V k))[u]? = t[u]? := fun t => by
        cases hq : dstOf ops k with
        | none => rfl
        | some q =>
          simp only [setT]
          rw [List.getElem?_set_ne]
          rintro rfl
          exact hd hq
      cases L k <;> cases L' k <;> simp only [key] <;> exact ih
theorem tL_last {u i : Nat} (hd : dstOf ops i = some u) (hl : L i = true) (hu : ∀ j, dstOf ops j = some u → j = i) (hlt : u < t0.length) : ∀ k, i < k → (tL ops V L t0 k)[u]? = some (V i)
  | 0, h => by omega
  | k + 1, h => by
    simp only [tL]
    by_cases hk : k = i
    · subst hk
      rw [hl, hd]
      simp only [setT]
      rw [List.getElem?_set_self (by rw [tL_length]; exact hlt)]
    · have ih := tL_last hd hl hu hlt k (by omega)
      cases L k with
      | false => exact ih
      | true =>
        cases hq : dstOf ops k with
        | none => exact ih
        | some q =>
          simp only [setT]
          rw [List.getElem?_set_ne, ih]
          rintro rfl
          exact hk (hu k hq)
theorem tL_prefix (i : Nat) : ∀ m, tL ops V (fun j => decide (j < i)) t0 m = tL ops V (fun _ => true) t0 (min i m)
  | 0 => by simp [tL]
  | m + 1 => by
    simp only [tL]
    by_cases h : m < i
    · rw [decide_eq_true h, tL_prefix i m, show min i m = m by omega, show min i (m + 1) = m + 1 by omega]; rfl
    · rw [decide_eq_false h, tL_prefix i m, show min i m = i by omega, show min i (m + 1) = i by omega]
theorem lastW_agree {b : Nat} : ∀ k, (∀ j, j < k → writes M j b = true → L j = L' j) → lastW M L b k = lastW M L' b k
  | 0, _ => rfl
  | k + 1, h => by
    have ih := lastW_agree k fun j hj hd => h j (by omega) hd
    simp only [lastW]
    cases hw : writes M k b with
    | true => rw [h k (by omega) hw]; rw [ih]
    | false => simp only [Bool.and_false]; exact ih
theorem lastW_is {b i : Nat} (hl : L i = true) (hw : writes M i b = true) : ∀ k, i < k → (∀ j, i < j → j < k → writes M j b = true → L j = false) → lastW M L b k = i + 1
  | 0, h, _ => by omega
  | k + 1, h, hj => by
    simp only [lastW]
    by_cases hk : k = i
    · subst hk; rw [hl, hw]; rfl
    · have ih := lastW_is hl hw k (by omega) fun j h1 h2 h3 => hj j h1 (by omega) h3
      cases hq : writes M k b with
      | true => rw [hj k (by omega) (by omega) hq]; exact ih
      | false => simp only [Bool.and_false]; exact ih
theorem lastW_le (b : Nat) : ∀ k, lastW M L b k ≤ k
  | 0 => Nat.le_refl _
  | k + 1 => by
    have := lastW_le b k
    simp only [lastW]
    split <;> omega
theorem lastW_prefix (b i : Nat) : ∀ m, lastW M (fun j => decide (j < i)) b m = lastW M (fun _ => true) b (min i m)
  | 0 => by simp [lastW]
  | m + 1 => by
    simp only [lastW]
    by_cases h : m < i
    · rw [decide_eq_true h, lastW_prefix b i m, show min i m = m by omega, show min i (m + 1) = m + 1 by omega]; rfl
    · rw [decide_eq_false h, lastW_prefix b i m, show min i m = i by omega, show min i (m + 1) = i by omega]; rfl
theorem hL_length : (hL HH M L n N).length = N := by simp [hL]
theorem hL_get {b : Nat} (h : b < N) : (hL HH M L n N)[b]? = some ((HH (lastW M L b n)).getD b .dead) := by
  unfold hL
  rw [List.getElem?_map, List.getElem?_range h]; rfl
theorem cnt_le : ∀ k, cnt L k ≤ k
  | 0 => Nat.le_refl _
  | k + 1 => by
    have := cnt_le k
    have := Bool.toNat_le (L k)
    simp only [cnt]; omega
theorem cnt_all : ∀ k, cnt L k = k → ∀ j, j < k → L j = true
  | 0, _, j, h => by omega
  | k + 1, h, j, hj => by
    have h1 := cnt_le (L := L) k
    have h2 := Bool.toNat_le (L k)
    simp only [cnt] at h
    by_cases hk : j = k
    · subst hk
      cases hq : L j with
      | true => rfl
      | false => rw [hq] at h; simp at h; omega
    · exact cnt_all k (by omega) j (by omega)
theorem cnt_add {i : Nat} (hl : L i = false) : ∀ k, cnt (addL L i) k = cnt L k + (decide (i < k)).toNat
  | 0 => by simp [cnt]
  | k + 1 => by
    simp only [cnt, cnt_add hl k]
    by_cases hk : k = i
    · subst hk
      simp [addL, hl]
    · have : k.beq i = false := by
        cases h : k.beq i with
        | false => rfl
        | true => exact absurd (Nat.eq_of_beq_eq_true h) hk
      simp only [addL, this, Bool.or_false]
      by_cases h : i < k
      · have h2 : i < k + 1 := by omega
        simp [h, h2]; omega
      · have h2 : ¬ i < k + 1 := by omega
        simp [h, h2]
theorem noIce_iff {h : H} : noIce h = true ↔ ∀ (b : Nat) c, h[b]? ≠ some (HB.ice c) := by
  induction h with
  | nil => simp [noIce]
  | cons x r ih =>
    constructor
    · intro hn b c hb
      have hr : noIce r = true := by cases x <;> simp_all [noIce]
      cases b with
      | zero => cases x <;> simp_all [noIce]
      | succ b => exact ih.1 hr b c (by simpa using hb)
    · intro hh
      have hr : noIce r = true := ih.2 fun b c hb => hh (b + 1) c (by simpa using hb)
      cases x with
      | dead => exact hr
      | live c => exact hr
      | ice c => exact absurd rfl (hh 0 c)
end

section
variable {E : Env} {call : CallF} {ops : List Oper} {s : Nat} {TT : Nat → List AV} {HH : Nat → H} {V : Nat → AV} {G : Nat → Bool} {M : Nat → Bool × List Nat} {L : Nat → Bool}
theorem TL.tt (T : TL E call ops s TT HH V G M 0) : ∀ i, i ≤ ops.length → TT i = tL ops V (fun _ => true) (TT 0) i
  | 0, _ => rfl
  | i + 1, h => by
    have hi := List.getElem?_eq_getElem (show i < ops.length by omega)
    obtain ⟨_, _, _, h4⟩ := T.step i _ (Nat.zero_le _) hi
    rw [h4, T.tt i (by omega)]
    simp only [tL, dstOf, hi, Option.bind_some]
theorem TL.hh (hcall : CallLoc E call) (T : TL E call ops s TT HH V G M 0) (b : Nat) : ∀ i, i ≤ ops.length → (HH i)[b]? = (HH (lastW M (fun _ => true) b i))[b]?
  | 0, _ => rfl
  | i + 1, h => by
    have hi := List.getElem?_eq_getElem (show i < ops.length by omega)
    obtain ⟨_, h2, h3, _⟩ := T.step i _ (Nat.zero_le _) hi
    simp only [lastW, Bool.true_and]
    cases hw : writes M i b with
    | true => rfl
    | false =>
      simp only []
      rw [← T.hh hcall b i (by omega)]
      cases hg : G i with
      | false => rw [(h3 hg).2.1]
      | true =>
        obtain ⟨h4, h5⟩ := h2 hg
        have hl := T.len i (Nat.zero_le _) (by omega)
        obtain ⟨U, h6, h7, _, h8⟩ := evOp_loc hcall (h' := HH i) rfl (by omega) (T.ice i (Nat.zero_le _) (by omega)) (fun _ _ => rfl) h4 (by rw [hl, T.len (i + 1) (Nat.zero_le _) h])
        rw [h7]
        rw [← h5] at h6
        simp only [writes, Bool.and_eq_false_iff] at hw
        rcases hw with hw | hw
        · have : U = [] := h8 (by
            rw [h5] at hw
            unfold mine at hw
            split at hw
            · cases hw
            · assumption)
          subst this; rfl
        · refine app_off U _ b fun p hp e => ?_
          subst e
          have := memN_iff.2 (h6 p hp)
          rw [hw] at this; cases this

theorem guardA_congr {all : List Oper} {t t' : List AV} {o : Oper} (h : ∀ u ∈ usesOf all o, t'.getD u .undef = t.getD u .undef) : guardA all t' o = guardA all t o := by
  unfold guardA
  cases hg : o.guard with
  | none => rfl
  | some p =>
    obtain ⟨j, want⟩ := p
    simp only []
    cases hd : (all[j]?).bind (·.dst) with
    | none => rfl
    | some d =>
      simp only []
      rw [h d (by unfold usesOf; rw [hg]; simp [hd])]

/-- what an operation comes to, whichever others are done -/
structure AtL (E : Env) (call : CallF) (ops : List Oper) (s : Nat) (TT : Nat → List AV) (HH : Nat → H) (V : Nat → AV) (G : Nat → Bool) (M : Nat → Bool × List Nat) (L : Nat → Bool) (i : Nat) (o : Oper) : Prop where
  guard : guardA ops (tL ops V L (TT 0) ops.length) o = some (G i)
  op : G i = true → evOp E call (tL ops V L (TT 0) ops.length) (hL HH M L ops.length (s + ops.length)) (s + i) o (fun v h => some (v, h)) = some (V i, hL HH M (addL L i) ops.length (s + ops.length))
  skip : G i = false → V i = .tup [] ∧ hL HH M (addL L i) ops.length (s + ops.length) = hL HH M L ops.length (s + ops.length)
  put : tL ops V (addL L i) (TT 0) ops.length = setT (tL ops V L (TT 0) ops.length) o.dst (V i)
  slot : (HH 0)[s + i]? = some .dead → (hL HH M L ops.length (s + ops.length))[s + i]? = some .dead

theorem getD_of {t t' : List AV} {u : Nat} (h : t'[u]? = t[u]?) : t'.getD u .undef = t.getD u .undef := by rw [List.getD_eq_getElem?_getD, List.getD_eq_getElem?_getD, h]

theorem atL (hcall : CallLoc E call) (R : RegOk ops) (T : TL E call ops s TT HH V G M 0) (hc : Closed ops L) {i : Nat} {o : Oper} (hi : ops[i]? = some o) (hl : L i = false) (he : ∀ j ∈ edgesOf o, L j = true) : AtL E call ops s TT HH V G M L i o := by
  have hin : i < ops.length := (List.getElem?_eq_some_iff.1 hi).1
  have hbef := R.ahead hc i o hi he
  have hafter : ∀ j oj, ops[j]? = some oj → i ∈ (befs ops []).getD j [] → L j = false := fun j oj hj hm => by
    cases hq : L j with
    | false => rfl
    | true => have := R.ahead' hc hj hq i hm; rw [hl] at this; cases this
  have hlt := R.bef_lt
  -- the frame
  have htt : ∀ u ∈ usesOf ops o, (tL ops V L (TT 0) ops.length)[u]? = (TT i)[u]? := fun u hu => by
    rw [T.tt i (by omega)]
    have e := tL_prefix (ops := ops) (V := V) (t0 := TT 0) i ops.length
    rw [show min i ops.length = i by omega] at e
    rw [← e]
    refine tL_agree _ fun j hj hd => ?_
    have hoj := List.getElem?_eq_getElem hj
    have hd' : ops[j].dst = some u := by simpa [dstOf, hoj] using hd
    rcases R.us i o hi u hu j _ hoj hd' with h | h | h
    · subst h; rw [hl, decide_eq_false (Nat.lt_irrefl _)]
    · rw [hbef j h, decide_eq_true (hlt i o hi j h)]
    · have := hlt j _ hoj i h
      rw [hafter j _ hoj h, decide_eq_false (by omega)]
  -- the blocks
  have hw : ∀ b ∈ (M i).2, lastW M L b ops.length = lastW M (fun _ => true) b i := fun b hb => by
    have e := lastW_prefix (M := M) b i ops.length
    rw [show min i ops.length = i by omega] at e
    rw [← e]
    refine lastW_agree _ fun j hj hwj => ?_
    simp only [writes, Bool.and_eq_true] at hwj
    have hbj := memN_iff.1 hwj.2
    rcases Nat.lt_trichotomy j i with h | h | h
    · rw [hbef j (T.cf j i (Nat.zero_le _) h hin (by simp [conf, hwj.1, overlap_of hbj hb])), decide_eq_true h]
    · subst h; rw [hl, decide_eq_false (Nat.lt_irrefl _)]
    · rw [hafter j _ (List.getElem?_eq_getElem hj) (T.cf i j (Nat.zero_le _) h hj (by simp [conf, hwj.1, overlap_of hb hbj])), decide_eq_false (by omega)]
  have hlast : ∀ j, i < j → j < ops.length → ∀ b, writes M i b = true → writes M j b = true → L j = false := fun j h hj b h1 h2 => by
    simp only [writes, Bool.and_eq_true] at h1 h2
    exact hafter j _ (List.getElem?_eq_getElem hj) (T.cf i j (Nat.zero_le _) h hj (by simp [conf, h2.1, overlap_of (memN_iff.1 h1.2) (memN_iff.1 h2.2)]))
  have hlen := T.len i (Nat.zero_le _) (by omega)
  have hHget : ∀ k, k ≤ ops.length → ∀ b, b < s + ops.length → (HH k)[b]? = some ((HH k).getD b .dead) := fun k hk b hb => by
    have := T.len k (Nat.zero_le _) hk
    rw [List.getD_eq_getElem?_getD, List.getElem?_eq_getElem (by omega)]; rfl
  have hagree : ∀ b ∈ (M i).2, (hL HH M L ops.length (s + ops.length))[b]? = (HH i)[b]? := fun b hb => by
    by_cases hbn : b < s + ops.length
    · rw [hL_get hbn, hw b hb, T.hh hcall b i (by omega)]
      exact (hHget _ (Nat.le_trans (lastW_le b i) (by omega)) b hbn).symm
    · rw [List.getElem?_eq_none (by rw [hL_length]; omega), List.getElem?_eq_none (by omega)]
  have hnoIce : ∀ L, noIce (hL HH M L ops.length (s + ops.length)) = true := fun L => noIce_iff.2 fun b c hb => by
    have hbn : b < s + ops.length := by have := (List.getElem?_eq_some_iff.1 hb).1; rwa [hL_length] at this
    rw [hL_get hbn] at hb
    have hk := lastW_le (M := M) (L := L) b ops.length
    have := hHget _ hk b hbn
    rw [Option.some.inj hb] at this
    exact noIce_iff.1 (T.ice _ (Nat.zero_le _) hk) b c this
  have hadd : ∀ b, ¬ writes M i b = true → lastW M (addL L i) b ops.length = lastW M L b ops.length := fun b hb => by
    refine lastW_agree _ fun j _ hwj => ?_
    have : ¬ j = i := by rintro rfl; exact hb hwj
    have h2 : j.beq i = false := by
      cases h : j.beq i with
      | false => rfl
      | true => exact absurd (Nat.eq_of_beq_eq_true h) this
    simp [addL, h2]
  have hLi : addL L i i = true := by simp [addL]
  obtain ⟨hg, ho, hs, hp⟩ := T.step i o (Nat.zero_le _) hi
  refine ⟨?_, ?_, ?_, ?_, ?_⟩
  · rw [← hg]
    exact guardA_congr fun u hu => getD_of (htt u hu)
  · intro hgi
    obtain ⟨h1, h2⟩ := ho hgi
    rw [evOp_tmps (t := TT i) fun u hu => getD_of (htt u (List.mem_append_left _ hu))]
    obtain ⟨U, h3, h4, h5, h6⟩ := evOp_loc hcall (h' := hL HH M L ops.length (s + ops.length)) (by rw [hL_length, hlen]) (by omega) (hnoIce L) (by rw [← h2]; exact hagree) h1 (by rw [hlen, T.len (i + 1) (Nat.zero_le _) (by omega)])
    rw [h5]
    congr 2
    apply List.ext_getElem?
    intro b
    by_cases hbn : b < s + ops.length
    · rw [hL_get hbn]
      by_cases hwb : writes M i b = true
      · rw [lastW_is hLi hwb _ hin fun j h7 h8 h9 => by
          have := hlast j h7 h8 b hwb h9
          have h10 : j.beq i = false := by
            cases h : j.beq i with
            | false => rfl
            | true => have := Nat.eq_of_beq_eq_true h; omega
          simp [addL, this, h10]]
        rw [← hHget (i + 1) (by omega) b hbn, h4]
        simp only [writes, Bool.and_eq_true] at hwb
        exact app_on U _ _ b (by rw [hL_length, hlen]) (hagree b (memN_iff.1 hwb.2))
      · rw [hadd b hwb, ← hL_get hbn]
        cases ht : (M i).1 with
        | false =>
          have : U = [] := h6 (by
            rw [h2] at ht
            unfold mine at ht
            split at ht
            · cases ht
            · assumption)
          subst this; rfl
        | true =>
          refine app_off U _ b fun p hp e => ?_
          subst e
          apply hwb
          simp only [writes, ht, Bool.true_and]
          rw [h2]
          exact memN_iff.2 (h3 p hp)
    · rw [List.getElem?_eq_none (by rw [app_length, hL_length]; omega), List.getElem?_eq_none (by rw [hL_length]; omega)]
  · intro hgi
    obtain ⟨h1, _, h3⟩ := hs hgi
    refine ⟨h1, ?_⟩
    apply List.ext_getElem?
    intro b
    by_cases hbn : b < s + ops.length
    · rw [hL_get hbn, hL_get hbn, hadd b (by rw [writes, h3]; simp)]
    · rw [List.getElem?_eq_none (by rw [hL_length]; omega), List.getElem?_eq_none (by rw [hL_length]; omega)]
  · apply List.ext_getElem?
    intro u
    have hdi : dstOf ops i = o.dst := by simp [dstOf, hi]
    by_cases hu : o.dst = some u
    · rw [hu]
      simp only [setT]
      have huq : ∀ j, dstOf ops j = some u → j = i := fun j hj => by
        unfold dstOf at hj
        cases hq : ops[j]? with
        | none => rw [hq] at hj; cases hj
        | some oj => rw [hq] at hj; exact R.nd j i oj o u hq hi hj hu
      by_cases hul : u < (TT 0).length
      · rw [tL_last (hdi.trans hu) hLi huq hul _ hin, List.getElem?_set_self (by rw [tL_length]; exact hul)]
      · rw [List.getElem?_eq_none (by rw [tL_length]; omega), List.getElem?_eq_none (by rw [List.length_set, tL_length]; omega)]
    · have e : (setT (tL ops V L (TT 0) ops.length) o.dst (V i))[u]? = (tL ops V L (TT 0) ops.length)[u]? := by
        cases hq : o.dst with
        | none => rfl
        | some q =>
          simp only [setT]
          rw [List.getElem?_set_ne]
          rintro rfl
          exact hu hq
      rw [e]
      refine tL_agree _ fun j _ hd => ?_
      have : ¬ j = i := by
        rintro rfl
        rw [hdi] at hd
        exact hu hd
      have h2 : j.beq i = false := by
        cases h : j.beq i with
        | false => rfl
        | true => exact absurd (Nat.eq_of_beq_eq_true h) this
      simp [addL, h2]
  · intro hd0
    have hbn : s + i < s + ops.length := by omega
    have : lastW M L (s + i) ops.length = 0 := by
      have z : lastW M (fun _ => false) (s + i) ops.length = 0 := by
        generalize ops.length = k
        induction k with
        | zero => rfl
        | succ k ih => simp [lastW, ih]
      rw [← z]
      refine lastW_agree _ fun j hj hwj => ?_
      simp only [writes, Bool.and_eq_true] at hwj
      have hbj := memN_iff.1 hwj.2
      have hoj := List.getElem?_eq_getElem hj
      rcases T.nw j (Nat.zero_le _) hj _ hbj (by omega) with ⟨h1, _⟩ | ⟨q, h1, h2, h3⟩
      · have : j = i := by omega
        subst this; exact hl
      · have : q = i := by omega
        subst this
        have hwq := h2 (Nat.zero_le _)
        refine hafter j _ hoj (T.cf q j (Nat.zero_le _) h1 hj ?_)
        have hmine : s + q ∈ (M q).2 := by
          cases hgq : G q with
          | false => rw [(hs hgq).2.2] at hwq; cases hwq
          | true =>
            rw [(ho hgq).2] at hwq ⊢
            unfold mine at hwq ⊢
            split at hwq
            · exact List.mem_cons_self
            · cases hwq
        simp [conf, hwq, overlap_of hmine hbj]
    rw [hL_get hbn, this, List.getD_eq_getElem?_getD, hd0]; rfl
end
end Go.Ev
