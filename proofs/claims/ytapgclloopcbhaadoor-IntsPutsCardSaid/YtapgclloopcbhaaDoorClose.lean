/- The variable that the rows list, in a world where a row's condition holds; a world where it holds. Printed by a program of this repo (wip/close.py). -/
import Derived.Test.YtapgclloopcbhaaDoorFn
import Derived.Test.YtapgclloopcbhaaDoorRows
import Derived.Test.YtapgclloopcbhaaDoorTie
import Derived.Test.YtapgclloopcbhaaDoorCards
import Derived.Test.YtapgclloopcbhaaDoorEvC
import Derived.ChangeSame
import Derived.JoinedOf
import Derived.LaidLaws
import Derived.Lib.LaidTab
import Derived.SevenTiedAt
import Derived.ChangeVars
import Derived.RowKitTokens
import Derived.LaidHandle
import Derived.Stop.Joined
namespace Go.Proofs.YtapgclloopcbhaaDoor
open Go Go.Ev Go.RowKit
set_option maxRecDepth 100000

theorem own : ownKnob Tryd.prog.godebug = none := by kernel_rfl
theorem laid_out : laidOutB Tryd.prog = true := by kernel_rfl
theorem noStand {P : Program} {ts : Array TypeId} (h : ts.toList.all (fun t => !P.wantsStandIn t) = true) (j : Nat) (t : TypeId) (ht : ts[j]? = some t) : P.wantsStandIn t = false := by
  have hm : t ∈ ts.toList := by
    rw [← Array.getElem?_toList] at ht
    exact List.mem_of_getElem? ht
  simpa using List.all_eq_true.1 h t hm
abbrev laidL : List (String × DataW Unit) := [("errors.errorType", Rows.laid_errors_errorType)]
abbrev Laid (W : World) : Prop := laidMetH Tryd.prog laidL W
theorem et_N : Tryd.prog.globalNamed "errors.errorType" = some 1 := by kernel_rfl
theorem et_rt : (Tryd.prog.cutTypes.find? (·.1 == "internal/reflectlite.rtype")).map (·.2) = some 159 := by kernel_rfl
theorem et_row : ((List.range 212).filter fun t => Tryd.prog.rowNamed t [101, 114, 114, 111, 114]) = [105] := by kernel_rfl
theorem et_size : Tryd.prog.types.size = 212 := by kernel_rfl
theorem handle_of_laid {W : World} (h : Laid W) : W.cell? ⟨1, 0, none⟩ = some etV := by
  have h' : laidMet Tryd.prog [] W ∧ handlesMet Tryd.prog laidL W := h
  obtain ⟨name, u, ty, e1, e2, e3, e4, e5⟩ := h'.2 _ (List.mem_singleton.2 rfl)
  have en : name = [101, 114, 114, 111, 114] := (Option.some.inj e1).symm
  subst en
  obtain rfl := Option.some.inj (et_rt.symm.trans e2)
  have hm : ty ∈ (List.range 212).filter fun t => Tryd.prog.rowNamed t [101, 114, 114, 111, 114] := List.mem_filter.2 ⟨List.mem_range.2 (by rw [← et_size]; exact e3), e4⟩
  rw [et_row] at hm
  obtain rfl := List.mem_singleton.1 hm
  have hh : typeHandle Tryd.prog 105 = .pointer (some ⟨5, 105, none⟩) := by kernel_rfl
  rw [hh] at e5
  simpa [etV] using World.var?_cell et_N e5 0
theorem glob_ok (keep : FuncId → Nat → Option (List Nat)) (vs : FuncId → Bool) {W : World} (h : Laid W) : GlobOk (env keep vs) (fun _ => False) W := by
  intro g c hg
  have hg : Gv g = some c := hg
  unfold Gv at hg
  split at hg
  · rename_i hb
    cases hg
    obtain rfl := Nat.eq_of_beq_eq_true hb
    have hc := handle_of_laid h
    refine ⟨cell_lt hc, fun h => h, [etV], ⟨etV, [], rfl, rfl, rfl⟩, ?_⟩
    intro i u hi
    cases i with
    | zero => cases hi; exact hc
    | succ i => cases hi
  · cases hg

noncomputable def laidWorld (os : Os) : World :=
  { World.holding Tryd.prog os ⟨#[], #[], []⟩ with heap := (World.holding Tryd.prog os ⟨#[], #[], []⟩).heap.modify 1 (fun
      | .cells _ t frozen => .cells #[etV] t frozen
      | o => o) }
theorem laidWorld_met (os : Os) (args : Array Value) : Laid ((laidWorld os).forCall (fun _ _ => 0) ⟨#[], args, []⟩).memory :=
  laidMetH_of_parts (laidMet_nil _ _) (by kernel_rfl)
end Go.Proofs.YtapgclloopcbhaaDoor
