/- The variable that the rows list, in a world where a row's condition holds; a world where it holds. Printed by a program of this repo (wip/close.py). -/
import Derived.Test.YtginjngnmboglaaFn
import Derived.Test.YtginjngnmboglaaRows
import Derived.Test.YtginjngnmboglaaEvC
import Derived.ChangeSame
import Derived.JoinedOf
import Derived.LaidLaws
import Derived.Lib.LaidTab
import Derived.SevenTiedAt
namespace Go.Proofs.Ytginjngnmboglaa
open Go Go.Ev Go.RowKit
set_option maxRecDepth 100000

theorem own : ownKnob Try.prog.godebug = none := by kernel_rfl
theorem laid_out : laidOutB Try.prog = true := by kernel_rfl
theorem noStand {P : Program} {ts : Array TypeId} (h : ts.toList.all (fun t => !P.wantsStandIn t) = true) (j : Nat) (t : TypeId) (ht : ts[j]? = some t) : P.wantsStandIn t = false := by
  have hm : t ∈ ts.toList := by
    rw [← Array.getElem?_toList] at ht
    exact List.mem_of_getElem? ht
  simpa using List.all_eq_true.1 h t hm
abbrev Laid (_ : World) : Prop := True
theorem glob_ok (keep : FuncId → Nat → Option (List Nat)) (vs : FuncId → Bool) {W : World} (_ : Laid W) : GlobOk (env keep vs) (fun _ => False) W := fun g c hg => nomatch hg
noncomputable def laidWorld (os : Os) : World := World.holding Try.prog os ⟨#[], #[], []⟩
end Go.Proofs.Ytginjngnmboglaa
