/- 'FanoTells' is true of every input that its row lets in: the row, and the card that ties the listed variable to the program's text. Conditions: the row's own. Printed by a program of this repo (wip/close.py). -/
import Derived.Test.YtdojekdcdoaccaaDoorClose
import Derived.Test.YtdojekdcdoaccaaDoorFanoLawsB
namespace Go.Proofs.YtdojekdcdoaccaaDoor
open Go Go.Ev Go.RowKit
set_option maxRecDepth 100000

theorem fanoTells_lifted (os : Os) (started : os.Started) (H : Type) (enc : TypeId × Value → H) :
    ReturnsInHanded {} Tryd.checked os 6 .any (fun w args => (Rows.fanoTellsSpec.pre enc Tryd.prog Tryd.f6 [] false w args ∧ Laid w) ∧ sizedMet enc Tryd.prog Tryd.f6 (OpenSpec.ofChange Rows.fanoTellsSpec) false w args)
      (Rows.fanoTellsSpec.post enc Tryd.prog Tryd.f6 false true false false) := by
  refine returnsInHanded_of_change_and (C := Tryd.checked) (X := fun w _ => Laid w) (fun _ _ _ hh h => h.of_heap hh) own started (by kernel_rfl) Tryd.func6
    (ChangeSpec.witness_at (enc := enc) (C := Tryd.checked) (os := os) (X := fun w _ => Laid w) false (laidWorld os) #[.agg #[.int .i64 0, .int .i64 0, .int .i64 0, .int .i64 0, .int .i64 0, .slice none 0 0, .int .i64 0, .slice none 0 0], .bool false, .int .i64 0] 8 rfl (by kernel_rfl) (by kernel_rfl) (by kernel_rfl) (by kernel_rfl) (by kernel_rfl)
      (laidWorld_met os _)) ?_
  intro W base args ds gs before hval hW _ _ hL _
  obtain ⟨sp, hsp, hle⟩ := ok6
  exact law_contract (sp := sp) (env_types _ _) hsp laid_out (by kernel_rfl) (pas := FanoTells_pas) (by kernel_rfl) rfl Tryd.underlying4 rfl (fun H ds hd => by
    match ds, hd with
    | [d1, d2, d3], _ => rfl) (fun vs h => hle vs _ (FanoTells_law vs h)) hval hW (glob_ok _ _ hL)
theorem fanoTells_holds : Rows.FanoTellsSaid :=
  OpenClaim.holds_of_wide 6 Tryd.f6 rfl rfl rfl rfl rfl rfl rfl ⟨rfl, rfl, rfl, rfl, rfl⟩ rfl rfl rfl rfl rfl (by kernel_rfl) Tryd.func6 (by kernel_rfl)
    (of_decide_eq_true (by kernel_rfl)) (by unfold Func.isWrapper; rw [if_neg (of_decide_eq_false (by kernel_rfl))]; exact ⟨rfl, rfl⟩)
    (fun os started H enc _ => fanoTells_lifted os started H enc)
theorem fanoTells_card : Rows.FanoTellsCardSaid :=
  Claim7.holds_tied_plain_at .later [] [.data, .handle] true (true, "ce2cc3d47608fb24bac19d79b68a9da7a044046359222089d2ff31a4222f07d8") true
    fanoTells_holds (fun _ h => by cases h) (by kernel_rfl) (fun _ h => by cases h) fanoTells_row_tie rfl ⟨rfl, rfl⟩ (by kernel_rfl) rfl
    (fun f fn hf hfn => by
      obtain rfl : f = 6 := Option.some.inj ((show Tryd.prog.funcNamed "haystack/haystacklaw09.FanoTells" = some 6 by kernel_rfl).symm.trans hf) |>.symm
      obtain rfl : fn = Tryd.f6 := (Option.some.inj (Tryd.func6.symm.trans hfn)).symm
      exact ⟨by kernel_rfl, fun j t ht => noStand (by kernel_rfl) j t ht⟩)
    (by kernel_rfl)
#print axioms fanoTells_card
end Go.Proofs.YtdojekdcdoaccaaDoor
