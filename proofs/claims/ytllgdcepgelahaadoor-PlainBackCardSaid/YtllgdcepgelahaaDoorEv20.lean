/- Tables that tell the evaluator of a program: what is to be shown of them. -/
import Derived.Test.YtllgdcepgelahaaDoorEv19
namespace Go.Ev

def zzB (i : TI) : Bool := match i.kind with
  | .int k => (match i.zero with | .int k' n => decide (k = k') && decide (n = 0) | _ => false)
  | .bool => (match i.zero with | .bool b => !b | _ => false)
  | _ => true
theorem zz_of {i : TI} (h : zzB i = true) : (∀ k, i.kind = .int k → i.zero = .int k 0) ∧ (i.kind = .bool → i.zero = .bool false) := by
  unfold zzB at h
  refine ⟨fun k hk => ?_, fun hk => ?_⟩
  · rw [hk] at h
    simp only at h
    split at h
    · rename_i k' n hz
      simp only [Bool.and_eq_true, decide_eq_true_eq] at h
      rw [hz, h.1, h.2]
    · cases h
  · rw [hk] at h
    simp only at h
    split at h
    · rename_i b hz
      rw [hz]; cases b <;> simp_all
    · cases h

def AllT (P : Program) : Nat → List (Option TI) → Prop
  | _, [] => True
  | k, none :: r => AllT P (k + 1) r
  | k, some i :: r => TOk P k i ∧ AllT P (k + 1) r
theorem AllT.get {P : Program} : ∀ {k : Nat} {l : List (Option TI)}, AllT P k l → ∀ {j : Nat} {i : TI}, l.getD j none = some i → TOk P (k + j) i
  | _, [], _, j, i, h => by simp at h
  | k, none :: r, hl, 0, i, h => by simp at h
  | k, some x :: r, hl, 0, i, h => by simp at h; subst h; exact hl.1
  | k, none :: r, hl, j + 1, i, h => by
    have hl : AllT P (k + 1) r := hl
    have := AllT.get hl (j := j) (i := i) (by simpa using h)
    rwa [Nat.add_assoc, Nat.add_comm 1 j] at this
  | k, some x :: r, hl, j + 1, i, h => by
    have := AllT.get hl.2 (j := j) (i := i) (by simpa using h)
    rwa [Nat.add_assoc, Nat.add_comm 1 j] at this
theorem AllT.ok {P : Program} {l : List (Option TI)} (h : AllT P 0 l) : ∀ t i, l.getD t none = some i → TOk P t i := fun t i hi => by
  have := h.get hi
  rwa [Nat.zero_add] at this

def FOk (P : Program) (f : FuncId) (fn : Func) : Prop := P.funcs[f]? = some fn ∧ (fn.name == "runtime.NumGoroutine") = false
def AllF (P : Program) : Nat → List (Option Func) → Prop
  | _, [] => True
  | k, none :: r => AllF P (k + 1) r
  | k, some i :: r => FOk P k i ∧ AllF P (k + 1) r
theorem AllF.get {P : Program} : ∀ {k : Nat} {l : List (Option Func)}, AllF P k l → ∀ {j : Nat} {i : Func}, l.getD j none = some i → FOk P (k + j) i
  | _, [], _, j, i, h => by simp at h
  | k, none :: r, hl, 0, i, h => by simp at h
  | k, some x :: r, hl, 0, i, h => by simp at h; subst h; exact hl.1
  | k, none :: r, hl, j + 1, i, h => by
    have hl : AllF P (k + 1) r := hl
    have := AllF.get hl (j := j) (i := i) (by simpa using h)
    rwa [Nat.add_assoc, Nat.add_comm 1 j] at this
  | k, some x :: r, hl, j + 1, i, h => by
    have := AllF.get hl.2 (j := j) (i := i) (by simpa using h)
    rwa [Nat.add_assoc, Nat.add_comm 1 j] at this
theorem AllF.ok {P : Program} {l : List (Option Func)} (h : AllF P 0 l) : ∀ t i, l.getD t none = some i → FOk P t i := fun t i hi => by
  have := h.get hi
  rwa [Nat.zero_add] at this
end Go.Ev
