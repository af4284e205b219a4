/- 'IntsPuts' is true of every input that its row lets in: the row, and the card that ties the listed variable to the program's text. Conditions: the row's own. Printed by a program of this repo (wip/close.py). -/
import Derived.Test.YtapgclloopcbhaaDoorClose
import Derived.Test.YtapgclloopcbhaaDoorIntsLaws
namespace Go.Proofs.YtapgclloopcbhaaDoor
open Go Go.Ev Go.RowKit
set_option maxRecDepth 100000

theorem intsPuts_lifted (os : Os) (started : os.Started) (H : Type) (enc : TypeId × Value → H) :
    ReturnsInHanded {} Tryd.checked os 10 .any (fun w args => (Rows.intsPutsSpec.pre enc Tryd.prog Tryd.f10 [] false w args ∧ Laid w) ∧ sizedMet enc Tryd.prog Tryd.f10 (OpenSpec.ofChange Rows.intsPutsSpec) false w args)
      (Rows.intsPutsSpec.post enc Tryd.prog Tryd.f10 false true false false) := by
  refine returnsInHanded_of_change_and (C := Tryd.checked) (X := fun w _ => Laid w) (fun _ _ _ hh h => h.of_heap hh) own started (by kernel_rfl) Tryd.func10
    (ChangeSpec.witness_at (enc := enc) (C := Tryd.checked) (os := os) (X := fun w _ => Laid w) false (laidWorld os) #[.agg #[.int .i64 0, .int .i64 0, .int .i64 0, .slice none 0 0], .int .i64 0, .int .u64 0, .int .i64 0] 8 rfl (by kernel_rfl) (by kernel_rfl) (by kernel_rfl) (by kernel_rfl) (by kernel_rfl)
      (laidWorld_met os _)) ?_
  intro W base args ds gs before hval hW _ _ hL _
  obtain ⟨sp, hsp, hle⟩ := ok10
  exact law_contract (sp := sp) (env_types _ _) hsp laid_out (by kernel_rfl) (pas := IntsPuts_pas) (by kernel_rfl) rfl Tryd.underlying4 rfl (fun H ds hd => by
    match ds, hd with
    | [d1, d2, d3, d4], _ => rfl) (fun vs h => hle vs _ (IntsPuts_law vs h)) hval hW (glob_ok _ _ hL)
theorem intsPuts_holds : Rows.IntsPutsSaid :=
  OpenClaim.holds_of_wide 10 Tryd.f10 rfl rfl rfl rfl rfl rfl rfl ⟨rfl, rfl, rfl, rfl, rfl⟩ rfl rfl rfl rfl rfl (by kernel_rfl) Tryd.func10 (by kernel_rfl)
    (of_decide_eq_true (by kernel_rfl)) (by unfold Func.isWrapper; rw [if_neg (of_decide_eq_false (by kernel_rfl))]; exact ⟨rfl, rfl⟩)
    (fun os started H enc _ => intsPuts_lifted os started H enc)
theorem intsPuts_card : Rows.IntsPutsCardSaid :=
  Claim7.holds_tied_plain_at .later [] [.handle] true (true, "1b50f34ccb643ca66587109ebd88131d1e2fa79012ab042a423bd5c8f50745b4") true
    intsPuts_holds (fun _ h => by cases h) (by kernel_rfl) (fun _ h => by cases h) intsPuts_row_tie rfl ⟨rfl, rfl⟩ (by kernel_rfl) rfl
    (fun f fn hf hfn => by
      obtain rfl : f = 10 := Option.some.inj ((show Tryd.prog.funcNamed "haystack/haystacklaw03.IntsPuts" = some 10 by kernel_rfl).symm.trans hf) |>.symm
      obtain rfl : fn = Tryd.f10 := (Option.some.inj (Tryd.func10.symm.trans hfn)).symm
      exact ⟨by kernel_rfl, fun j t ht => noStand (by kernel_rfl) j t ht⟩)
    (by kernel_rfl)
#print axioms intsPuts_card
end Go.Proofs.YtapgclloopcbhaaDoor
