/- Tables by number; pieces of code by where they lie; a value by a name. -/
import Derived.Test.YtllgdcepgelahaaDoorEv22
namespace Go.Ev
def letV {α R : Type} (e : α) (f : α → Option R) : Option R := f e
theorem letV_bind {α R S : Type} (e : α) (f : α → Option R) (J : R → Option S) : (letV e f).bind J = letV e fun x => (f x).bind J := rfl
def NR : Nat := 1000000000000
universe u
def lkN {α : Type u} : List (Nat × α) → Nat → Option α
  | [], _ => none
  | (k, x) :: r, n => match k.beq n with | true => some x | false => lkN r n
def keepOf (tbl : List (Nat × List (Nat × List Nat))) : FuncId → Nat → Option (List Nat) := fun f k => match lkN tbl f with | some l => lkN l k | none => none
/-- the piece of a code at a place -/
def subC : List Nat → Code → Code
  | [], c => c
  | 0 :: p, .seq a _ => subC p a
  | _ :: p, .seq _ b => subC p b
  | 0 :: p, .cond _ a _ => subC p a
  | _ :: p, .cond _ _ b => subC p b
  | _ :: p, .block _ c => subC p c
  | _ :: p, .loop c => subC p c
  | _ :: p, .scope c => subC p c
  | _ :: _, c => c
/-- what a scope's label leads to -/
def restC : Code → Code
  | .scope c => (match labOf c with | 0 => .skip | l + 1 => (match findLabel c l with | some r => r | none => .skip))
  | _ => .skip
def bodyOf (f : Func) : Code := match f.body with | some c => c | none => .skip
end Go.Ev
namespace Go.Ev
theorem none_bind' {R S : Type} (J : R → Option S) : (none : Option R).bind J = none := rfl
theorem body_of {f : Func} {c : Code} (h : f.body = some c) : c = bodyOf f := by unfold bodyOf; rw [h]
end Go.Ev
namespace Go.Ev
theorem sel_push {R S : Type} {J : R → Option S} {c : Bool} {a b : Option R} {a' b' : Option S} (h1 : a.bind J = a') (h2 : b.bind J = b') : (sel c a b).bind J = sel c a' b' := by rw [sel_bind, h1, h2]
theorem letV_push {α R S : Type} {J : R → Option S} {e : α} {f : α → Option R} {g : α → Option S} (h : ∀ x, (f x).bind J = g x) : (letV e f).bind J = letV e g := h e
end Go.Ev
namespace Go.Ev
theorem ONat.nilT : ONat (lkN ([] : List (Nat × PSpec))) := fun _ _ h => nomatch h
theorem ONat.consT {k : Nat} {sp : PSpec} {r : List (Nat × PSpec)} (h : ∀ (st : St) (R S : Type) (K : Ex → St → Option R) (J : R → Option S), (sp st R K).bind J = sp st S fun ex st => (K ex st).bind J) (hr : ONat (lkN r)) : ONat (lkN ((k, sp) :: r)) := fun key sp' h' => by
  simp only [lkN] at h'
  split at h'
  · cases h'; exact h
  · exact hr key sp' h'
end Go.Ev
namespace Go.Ev
/-- a row of values, all but some of them forgotten -/
def spread : Nat → Nat → List Nat → List AV → List AV
  | 0, _, _, _ => []
  | n + 1, i, ss, vs => match ss, vs with
    | s :: ss', v :: vs' => (match s.beq i with | true => v :: spread n (i + 1) ss' vs' | false => .undef :: spread n (i + 1) ss vs)
    | _, _ => .undef :: spread n (i + 1) ss vs
def isU : AV → Bool | .undef => true | _ => false
def pickL : Nat → List Nat → List AV → Option (List AV)
  | _, [], [] => some []
  | _, _ :: _, [] => none
  | i, [], v :: t => match isU v with | true => pickL (i + 1) [] t | false => none
  | i, s :: ss, v :: t => match s.beq i with
    | true => (match pickL (i + 1) ss t with | some vs => some (v :: vs) | none => none)
    | false => match isU v with | true => pickL (i + 1) (s :: ss) t | false => none
theorem isU_eq {v : AV} (h : isU v = true) : v = .undef := by cases v <;> simp_all [isU]
theorem pickL_eq : ∀ (t : List AV) (i : Nat) (ss : List Nat) (vs : List AV), pickL i ss t = some vs → t = spread t.length i ss vs
  | [], i, ss, vs, h => by cases ss <;> rfl
  | v :: t, i, [], vs, h => by
    simp only [pickL] at h
    split at h
    · rename_i hu
      rw [isU_eq hu]
      simp only [List.length_cons, spread]
      rw [← pickL_eq t (i + 1) [] vs h]
    · cases h
  | v :: t, i, s :: ss, vs, h => by
    simp only [pickL] at h
    split at h
    · rename_i hb
      split at h
      · rename_i vs' h'
        cases h
        simp only [List.length_cons, spread, hb]
        rw [← pickL_eq t (i + 1) ss vs' h']
      · cases h
    · rename_i hb
      split at h
      · rename_i hu
        rw [isU_eq hu]
        have ih := pickL_eq t (i + 1) (s :: ss) vs h
        cases vs with
        | nil => simp only [List.length_cons, spread]; rw [← ih]
        | cons v' vs' => simp only [List.length_cons, spread, hb]; rw [← ih]
      · cases h
def pickM {R : Type} (n : Nat) (ss : List Nat) (st : St) (f : List AV → H → Option R) : Option R := match st.t.length.beq n with
  | true => (match pickL 0 ss st.t with | some vs => f vs st.h | none => none)
  | false => none
theorem pickM_push {R S : Type} {n : Nat} {ss : List Nat} {st : St} {f : List AV → H → Option R} {g : List AV → H → Option S} {J : R → Option S} (h : ∀ vs hh, (f vs hh).bind J = g vs hh) : (pickM n ss st f).bind J = pickM n ss st g := by
  unfold pickM
  cases st.t.length.beq n with
  | false => rfl
  | true =>
    cases pickL 0 ss st.t with
    | none => rfl
    | some vs => exact h vs st.h
theorem pickM_some {R : Type} {r : R} {n : Nat} {ss : List Nat} {st : St} {f : List AV → H → Option R} (h : pickM n ss st f = some r) : ∃ vs hh, st = ⟨spread n 0 ss vs, hh⟩ ∧ f vs hh = some r := by
  unfold pickM at h
  split at h
  · rename_i hb
    obtain hb := Nat.eq_of_beq_eq_true hb
    split at h
    · rename_i vs h1
      refine ⟨vs, st.h, ?_, h⟩
      have := pickL_eq _ _ _ _ h1
      rw [hb] at this
      cases st; simp_all
    · cases h
  · cases h
end Go.Ev
