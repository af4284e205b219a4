/- 'WordTells' is true of every input that its row lets in: the row, and the card that ties the listed variable to the program's text. Conditions: the row's own. Printed by a program of this repo (wip/close.py). -/
import Derived.Test.YtblpggndekhebaaDoorClose
import Derived.Test.YtblpggndekhebaaDoorWordLaws
namespace Go.Proofs.YtblpggndekhebaaDoor
open Go Go.Ev Go.RowKit
set_option maxRecDepth 100000

theorem wordTells_lifted (os : Os) (started : os.Started) (H : Type) (enc : TypeId × Value → H) :
    ReturnsInHanded {} Tryd.checked os 5 .any (fun w args => (Rows.wordTellsSpec.pre enc Tryd.prog Tryd.f5 [] false w args ∧ Laid w) ∧ sizedMet enc Tryd.prog Tryd.f5 (OpenSpec.ofChange Rows.wordTellsSpec) false w args)
      (Rows.wordTellsSpec.post enc Tryd.prog Tryd.f5 false true false false) := by
  refine returnsInHanded_of_change_and (C := Tryd.checked) (X := fun w _ => Laid w) (fun _ _ _ hh h => h.of_heap hh) own started (by kernel_rfl) Tryd.func5
    (ChangeSpec.witness_at (enc := enc) (C := Tryd.checked) (os := os) (X := fun w _ => Laid w) false (laidWorld os) #[.int .u64 0, .int .i64 0, .int .i64 0] 8 rfl (by kernel_rfl) (by kernel_rfl) (by kernel_rfl) (by kernel_rfl) (by kernel_rfl)
      (laidWorld_met os _)) ?_
  intro W base args ds gs before hval hW _ _ hL _
  exact law_contract (env_types _) ok5 laid_out (by kernel_rfl) (pas := WordTells_pas) (by kernel_rfl) rfl Tryd.underlying4 rfl (fun H ds hd => by
    match ds, hd with
    | [d1, d2, d3], _ => rfl) WordTells_law hval hW (glob_ok _ hL)
theorem wordTells_holds : Rows.WordTellsSaid :=
  OpenClaim.holds_of_wide 5 Tryd.f5 rfl rfl rfl rfl rfl rfl rfl ⟨rfl, rfl, rfl, rfl, rfl⟩ rfl rfl rfl rfl rfl (by kernel_rfl) Tryd.func5 (by kernel_rfl)
    (of_decide_eq_true (by kernel_rfl)) (by unfold Func.isWrapper; rw [if_neg (of_decide_eq_false (by kernel_rfl))]; exact ⟨rfl, rfl⟩)
    (fun os started H enc _ => wordTells_lifted os started H enc)
theorem wordTells_card : Rows.WordTellsCardSaid :=
  Claim7.holds_tied_plain_at .later [] [.data] true (true, "19cc0320ab2d58a969619129450d2b5dc03a3e38ff4142add095b8dc0248f84a") false
    wordTells_holds (fun _ h => by cases h) (by kernel_rfl) (fun _ h => by cases h) wordTells_row_tie rfl ⟨rfl, rfl⟩ (by kernel_rfl) rfl
    (fun f fn hf hfn => by
      obtain rfl : f = 5 := Option.some.inj ((show Tryd.prog.funcNamed "haystack/haystacklaw01.WordTells" = some 5 by kernel_rfl).symm.trans hf) |>.symm
      obtain rfl : fn = Tryd.f5 := (Option.some.inj (Tryd.func5.symm.trans hfn)).symm
      exact ⟨by kernel_rfl, fun j t ht => noStand (by kernel_rfl) j t ht⟩)
    (by kernel_rfl)
#print axioms wordTells_card
end Go.Proofs.YtblpggndekhebaaDoor
