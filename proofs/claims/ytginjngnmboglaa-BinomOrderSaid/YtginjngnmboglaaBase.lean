/- The functions of this seat's program that are told of otherwise than by their texts: none. Printed by a program of this repo (wip/mkenv.py). -/
import Derived.Test.YtginjngnmboglaaEnv
import Derived.Test.YtginjngnmboglaaEvC
namespace Go.Proofs.Ytginjngnmboglaa
open Go Go.Ev
-- BASE BEGIN
noncomputable def baseL : List (Nat × Ev.Spec) := []
-- BASE END
noncomputable def B0 : FuncId → Option Ev.Spec := lkN baseL
theorem base_nat : BNat B0 := fun _ _ h => nomatch h
theorem base_ok (keep : FuncId → Nat → Option (List Nat)) (vs : FuncId → Bool) : ∀ f sp, B0 f = some sp → SpecOk Try.prog (env keep vs) f sp := fun _ _ h => nomatch h
end Go.Proofs.Ytginjngnmboglaa
