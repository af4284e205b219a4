/- 'RrrTells' is true of every input that its row lets in: the row, and the card that ties the listed variable to the program's text. Conditions: the row's own. Printed by a program of this repo (wip/close.py). -/
import Derived.Test.YtdojekdcdoaccaaGreatDoorClose
import Derived.Test.YtdojekdcdoaccaaGreatDoorRrrLaws2
namespace Go.Proofs.YtdojekdcdoaccaaGreatDoor
open Go Go.Ev Go.RowKit
set_option maxRecDepth 100000

theorem rrrTells_lifted (os : Os) (started : os.Started) (H : Type) (enc : TypeId × Value → H) :
    ReturnsInHanded {} Tryz.checked os 4 .any (fun w args => (Rows.rrrTellsSpec.pre enc Tryz.prog Tryz.f4 [] false w args ∧ Laid w) ∧ sizedMet enc Tryz.prog Tryz.f4 (OpenSpec.ofChange Rows.rrrTellsSpec) false w args)
      (Rows.rrrTellsSpec.post enc Tryz.prog Tryz.f4 false true false false) := by
  refine returnsInHanded_of_change_and (C := Tryz.checked) (X := fun w _ => Laid w) (fun _ _ _ hh h => h.of_heap hh) own started (by kernel_rfl) Tryz.func4
    (ChangeSpec.witness_at (enc := enc) (C := Tryz.checked) (os := os) (X := fun w _ => Laid w) false (laidWorld os) #[.agg #[.int .i64 0, .int .i64 0, .int .i64 0, .int .i64 0, .slice none 0 0, .int .i64 0, .slice none 0 0, .slice none 0 0, .slice none 0 0], .bool false, .int .i64 0] 8 rfl (by kernel_rfl) (by kernel_rfl) (by kernel_rfl) (by kernel_rfl) (by kernel_rfl)
      (laidWorld_met os _)) ?_
  intro W base args ds gs before hval hW _ _ hL _
  obtain ⟨sp, hsp, hle⟩ := ok4
  exact law_contract (sp := sp) (env_types _ _) hsp laid_out (by kernel_rfl) (pas := RrrTells_pas) (by kernel_rfl) rfl Tryz.underlying4 rfl (fun H ds hd => by
    match ds, hd with
    | [d1, d2, d3], _ => rfl) (fun vs h => hle vs _ (RrrTells_law vs h)) hval hW (glob_ok _ _ hL)
theorem rrrTells_holds : Rows.RrrTellsSaid :=
  OpenClaim.holds_of_wide 4 Tryz.f4 rfl rfl rfl rfl rfl rfl rfl ⟨rfl, rfl, rfl, rfl, rfl⟩ rfl rfl rfl rfl rfl (by kernel_rfl) Tryz.func4 (by kernel_rfl)
    (of_decide_eq_true (by kernel_rfl)) (by unfold Func.isWrapper; rw [if_neg (of_decide_eq_false (by kernel_rfl))]; exact ⟨rfl, rfl⟩)
    (fun os started H enc _ => rrrTells_lifted os started H enc)
theorem rrrTells_card : Rows.RrrTellsCardSaid :=
  Claim7.holds_tied_plain_at .later [] [.data, .handle] true (true, "62765a14dd5deb030ebb8747b026f2621b1d9205e782fd160a1b07e101dff8c2") true
    rrrTells_holds (fun _ h => by cases h) (by kernel_rfl) (fun _ h => by cases h) rrrTells_row_tie rfl ⟨rfl, rfl⟩ (by kernel_rfl) rfl
    (fun f fn hf hfn => by
      obtain rfl : f = 4 := Option.some.inj ((show Tryz.prog.funcNamed "haystack/haystacklaw08.RrrTells" = some 4 by kernel_rfl).symm.trans hf) |>.symm
      obtain rfl : fn = Tryz.f4 := (Option.some.inj (Tryz.func4.symm.trans hfn)).symm
      exact ⟨by kernel_rfl, fun j t ht => noStand (by kernel_rfl) j t ht⟩)
    (by kernel_rfl)
#print axioms rrrTells_card
end Go.Proofs.YtdojekdcdoaccaaGreatDoor
