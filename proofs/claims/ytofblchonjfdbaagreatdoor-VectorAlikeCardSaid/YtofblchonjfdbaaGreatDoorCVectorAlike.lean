/- 'VectorAlike' is true of every input that its row lets in: the row, and the card that ties the listed variable to the program's text. Conditions: the row's own. Printed by a program of this repo (wip/close.py). -/
import Derived.Test.YtofblchonjfdbaaGreatDoorClose
import Derived.Test.YtofblchonjfdbaaGreatDoorVectorLaws
namespace Go.Proofs.YtofblchonjfdbaaGreatDoor
open Go Go.Ev Go.RowKit
set_option maxRecDepth 100000

theorem vectorAlike_lifted (os : Os) (started : os.Started) (H : Type) (enc : TypeId × Value → H) :
    ReturnsInHanded {} Tryz.checked os 3 .any (fun w args => (Rows.vectorAlikeSpec.pre enc Tryz.prog Tryz.f3 [] false w args ∧ Laid w) ∧ sizedMet enc Tryz.prog Tryz.f3 (OpenSpec.ofChange Rows.vectorAlikeSpec) false w args)
      (Rows.vectorAlikeSpec.post enc Tryz.prog Tryz.f3 false true false false) := by
  refine returnsInHanded_of_change_and (C := Tryz.checked) (X := fun w _ => Laid w) (fun _ _ _ hh h => h.of_heap hh) own started (by kernel_rfl) Tryz.func3
    (ChangeSpec.witness_at (enc := enc) (C := Tryz.checked) (os := os) (X := fun w _ => Laid w) false (laidWorld os) #[.int .i64 0, .int .i64 0, .agg #[.int .i64 0, .slice none 0 0], .int .i64 0] 8 rfl (by kernel_rfl) (by kernel_rfl) (by kernel_rfl) (by kernel_rfl) (by kernel_rfl)
      (laidWorld_met os _)) ?_
  intro W base args ds gs before hval hW _ _ hL _
  obtain ⟨sp, hsp, hle⟩ := ok3
  exact law_contract (sp := sp) (env_types _ _) hsp laid_out (by kernel_rfl) (pas := VectorAlike_pas) (by kernel_rfl) rfl Tryz.underlying4 rfl (fun H ds hd => by
    match ds, hd with
    | [d1, d2, d3, d4], _ => rfl) (fun vs h => hle vs _ (VectorAlike_law vs h)) hval hW (glob_ok _ _ hL)
theorem vectorAlike_holds : Rows.VectorAlikeSaid :=
  OpenClaim.holds_of_wide 3 Tryz.f3 rfl rfl rfl rfl rfl rfl rfl ⟨rfl, rfl, rfl, rfl, rfl⟩ rfl rfl rfl rfl rfl (by kernel_rfl) Tryz.func3 (by kernel_rfl)
    (of_decide_eq_true (by kernel_rfl)) (by unfold Func.isWrapper; rw [if_neg (of_decide_eq_false (by kernel_rfl))]; exact ⟨rfl, rfl⟩)
    (fun os started H enc _ => vectorAlike_lifted os started H enc)
theorem vectorAlike_card : Rows.VectorAlikeCardSaid :=
  Claim7.holds_tied_plain_at .later [] [.data, .handle] true (true, "68c809e1ddd1db0cb8c265e0895120f790e387fbb719f0d63db3b5a9c16eb5b6") true
    vectorAlike_holds (fun _ h => by cases h) (by kernel_rfl) (fun _ h => by cases h) vectorAlike_row_tie rfl ⟨rfl, rfl⟩ (by kernel_rfl) rfl
    (fun f fn hf hfn => by
      obtain rfl : f = 3 := Option.some.inj ((show Tryz.prog.funcNamed "haystack/haystacklaw10.VectorAlike" = some 3 by kernel_rfl).symm.trans hf) |>.symm
      obtain rfl : fn = Tryz.f3 := (Option.some.inj (Tryz.func3.symm.trans hfn)).symm
      exact ⟨by kernel_rfl, fun j t ht => noStand (by kernel_rfl) j t ht⟩)
    (by kernel_rfl)
#print axioms vectorAlike_card
end Go.Proofs.YtofblchonjfdbaaGreatDoor
