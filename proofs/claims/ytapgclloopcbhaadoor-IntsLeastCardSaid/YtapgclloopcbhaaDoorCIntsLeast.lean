/- 'IntsLeast' is true of every input that its row lets in: the row, and the card that ties the listed variable to the program's text. Conditions: the row's own. Printed by a program of this repo (wip/close.py). -/
import Derived.Test.YtapgclloopcbhaaDoorClose
import Derived.Test.YtapgclloopcbhaaDoorIntsLaws
namespace Go.Proofs.YtapgclloopcbhaaDoor
open Go Go.Ev Go.RowKit
set_option maxRecDepth 100000

theorem intsLeast_lifted (os : Os) (started : os.Started) (H : Type) (enc : TypeId × Value → H) :
    ReturnsInHanded {} Tryd.checked os 7 .any (fun w args => (Rows.intsLeastSpec.pre enc Tryd.prog Tryd.f7 [] false w args ∧ Laid w) ∧ sizedMet enc Tryd.prog Tryd.f7 (OpenSpec.ofChange Rows.intsLeastSpec) false w args)
      (Rows.intsLeastSpec.post enc Tryd.prog Tryd.f7 false true false false) := by
  refine returnsInHanded_of_change_and (C := Tryd.checked) (X := fun w _ => Laid w) (fun _ _ _ hh h => h.of_heap hh) own started (by kernel_rfl) Tryd.func7
    (ChangeSpec.witness_at (enc := enc) (C := Tryd.checked) (os := os) (X := fun w _ => Laid w) false (laidWorld os) #[.slice none 0 0] 8 rfl (by kernel_rfl) (by kernel_rfl) (by kernel_rfl) (by kernel_rfl) (by kernel_rfl)
      (laidWorld_met os _)) ?_
  intro W base args ds gs before hval hW _ _ hL _
  obtain ⟨sp, hsp, hle⟩ := ok7
  exact law_contract (sp := sp) (env_types _ _) hsp laid_out (by kernel_rfl) (pas := IntsLeast_pas) (by kernel_rfl) rfl Tryd.underlying4 rfl (fun H ds hd => by
    match ds, hd with
    | [d1], _ => rfl) (fun vs h => hle vs _ (IntsLeast_law vs h)) hval hW (glob_ok _ _ hL)
theorem intsLeast_holds : Rows.IntsLeastSaid :=
  OpenClaim.holds_of_wide 7 Tryd.f7 rfl rfl rfl rfl rfl rfl rfl ⟨rfl, rfl, rfl, rfl, rfl⟩ rfl rfl rfl rfl rfl (by kernel_rfl) Tryd.func7 (by kernel_rfl)
    (of_decide_eq_true (by kernel_rfl)) (by unfold Func.isWrapper; rw [if_neg (of_decide_eq_false (by kernel_rfl))]; exact ⟨rfl, rfl⟩)
    (fun os started H enc _ => intsLeast_lifted os started H enc)
theorem intsLeast_card : Rows.IntsLeastCardSaid :=
  Claim7.holds_tied_plain_at .later [] [.handle] true (true, "1b50f34ccb643ca66587109ebd88131d1e2fa79012ab042a423bd5c8f50745b4") true
    intsLeast_holds (fun _ h => by cases h) (by kernel_rfl) (fun _ h => by cases h) intsLeast_row_tie rfl ⟨rfl, rfl⟩ (by kernel_rfl) rfl
    (fun f fn hf hfn => by
      obtain rfl : f = 7 := Option.some.inj ((show Tryd.prog.funcNamed "haystack/haystacklaw03.IntsLeast" = some 7 by kernel_rfl).symm.trans hf) |>.symm
      obtain rfl : fn = Tryd.f7 := (Option.some.inj (Tryd.func7.symm.trans hfn)).symm
      exact ⟨by kernel_rfl, fun j t ht => noStand (by kernel_rfl) j t ht⟩)
    (by kernel_rfl)
#print axioms intsLeast_card
end Go.Proofs.YtapgclloopcbhaaDoor
