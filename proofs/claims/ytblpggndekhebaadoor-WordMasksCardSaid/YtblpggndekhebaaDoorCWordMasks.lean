/- 'WordMasks' is true of every input that its row lets in: the row, and the card that ties the listed variable to the program's text. Conditions: the row's own. Printed by a program of this repo (wip/close.py). -/
import Derived.Test.YtblpggndekhebaaDoorClose
import Derived.Test.YtblpggndekhebaaDoorWordLaws
namespace Go.Proofs.YtblpggndekhebaaDoor
open Go Go.Ev Go.RowKit
set_option maxRecDepth 100000

theorem wordMasks_lifted (os : Os) (started : os.Started) (H : Type) (enc : TypeId × Value → H) :
    ReturnsInHanded {} Tryd.checked os 4 .any (fun w args => (Rows.wordMasksSpec.pre enc Tryd.prog Tryd.f4 [] false w args ∧ Laid w) ∧ sizedMet enc Tryd.prog Tryd.f4 (OpenSpec.ofChange Rows.wordMasksSpec) false w args)
      (Rows.wordMasksSpec.post enc Tryd.prog Tryd.f4 false true false false) := by
  refine returnsInHanded_of_change_and (C := Tryd.checked) (X := fun w _ => Laid w) (fun _ _ _ hh h => h.of_heap hh) own started (by kernel_rfl) Tryd.func4
    (ChangeSpec.witness_at (enc := enc) (C := Tryd.checked) (os := os) (X := fun w _ => Laid w) false (laidWorld os) #[.int .i64 0] 8 rfl (by kernel_rfl) (by kernel_rfl) (by kernel_rfl) (by kernel_rfl) (by kernel_rfl)
      (laidWorld_met os _)) ?_
  intro W base args ds gs before hval hW _ _ hL _
  exact law_contract (env_types _) ok4 laid_out (by kernel_rfl) (pas := WordMasks_pas) (by kernel_rfl) rfl Tryd.underlying4 rfl (fun H ds hd => by
    match ds, hd with
    | [d1], _ => rfl) WordMasks_law hval hW (glob_ok _ hL)
theorem wordMasks_holds : Rows.WordMasksSaid :=
  OpenClaim.holds_of_wide 4 Tryd.f4 rfl rfl rfl rfl rfl rfl rfl ⟨rfl, rfl, rfl, rfl, rfl⟩ rfl rfl rfl rfl rfl (by kernel_rfl) Tryd.func4 (by kernel_rfl)
    (of_decide_eq_true (by kernel_rfl)) (by unfold Func.isWrapper; rw [if_neg (of_decide_eq_false (by kernel_rfl))]; exact ⟨rfl, rfl⟩)
    (fun os started H enc _ => wordMasks_lifted os started H enc)
theorem wordMasks_card : Rows.WordMasksCardSaid :=
  Claim7.holds_tied_plain_at .later [] [.data] true (true, "19cc0320ab2d58a969619129450d2b5dc03a3e38ff4142add095b8dc0248f84a") false
    wordMasks_holds (fun _ h => by cases h) (by kernel_rfl) (fun _ h => by cases h) wordMasks_row_tie rfl ⟨rfl, rfl⟩ (by kernel_rfl) rfl
    (fun f fn hf hfn => by
      obtain rfl : f = 4 := Option.some.inj ((show Tryd.prog.funcNamed "haystack/haystacklaw01.WordMasks" = some 4 by kernel_rfl).symm.trans hf) |>.symm
      obtain rfl : fn = Tryd.f4 := (Option.some.inj (Tryd.func4.symm.trans hfn)).symm
      exact ⟨by kernel_rfl, fun j t ht => noStand (by kernel_rfl) j t ht⟩)
    (by kernel_rfl)
#print axioms wordMasks_card
end Go.Proofs.YtblpggndekhebaaDoor
