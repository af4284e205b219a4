/- 'VectorBack' is true of every input that its row lets in: the row, and the card that ties the listed variable to the program's text. Conditions: the row's own. Printed by a program of this repo (wip/close.py). -/
import Derived.Test.YtofblchonjfdbaaGreatDoorClose
import Derived.Test.YtofblchonjfdbaaGreatDoorVectorLaws
namespace Go.Proofs.YtofblchonjfdbaaGreatDoor
open Go Go.Ev Go.RowKit
set_option maxRecDepth 100000

theorem vectorBack_lifted (os : Os) (started : os.Started) (H : Type) (enc : TypeId × Value → H) :
    ReturnsInHanded {} Tryz.checked os 6 .any (fun w args => (Rows.vectorBackSpec.pre enc Tryz.prog Tryz.f6 [] false w args ∧ Laid w) ∧ sizedMet enc Tryz.prog Tryz.f6 (OpenSpec.ofChange Rows.vectorBackSpec) false w args)
      (Rows.vectorBackSpec.post enc Tryz.prog Tryz.f6 false true false false) := by
  refine returnsInHanded_of_change_and (C := Tryz.checked) (X := fun w _ => Laid w) (fun _ _ _ hh h => h.of_heap hh) own started (by kernel_rfl) Tryz.func6
    (ChangeSpec.witness_at (enc := enc) (C := Tryz.checked) (os := os) (X := fun w _ => Laid w) false (laidWorld os) #[.int .i64 0, .agg #[.int .i64 0, .slice none 0 0], .bool false, .int .i64 0] 8 rfl (by kernel_rfl) (by kernel_rfl) (by kernel_rfl) (by kernel_rfl) (by kernel_rfl)
      (laidWorld_met os _)) ?_
  intro W base args ds gs before hval hW _ _ hL _
  obtain ⟨sp, hsp, hle⟩ := ok6
  exact law_contract (sp := sp) (env_types _ _) hsp laid_out (by kernel_rfl) (pas := VectorBack_pas) (by kernel_rfl) rfl Tryz.underlying4 rfl (fun H ds hd => by
    match ds, hd with
    | [d1, d2, d3, d4], _ => rfl) (fun vs h => hle vs _ (VectorBack_law vs h)) hval hW (glob_ok _ _ hL)
theorem vectorBack_holds : Rows.VectorBackSaid :=
  OpenClaim.holds_of_wide 6 Tryz.f6 rfl rfl rfl rfl rfl rfl rfl ⟨rfl, rfl, rfl, rfl, rfl⟩ rfl rfl rfl rfl rfl (by kernel_rfl) Tryz.func6 (by kernel_rfl)
    (of_decide_eq_true (by kernel_rfl)) (by unfold Func.isWrapper; rw [if_neg (of_decide_eq_false (by kernel_rfl))]; exact ⟨rfl, rfl⟩)
    (fun os started H enc _ => vectorBack_lifted os started H enc)
theorem vectorBack_card : Rows.VectorBackCardSaid :=
  Claim7.holds_tied_plain_at .later [] [.data, .handle] true (true, "68c809e1ddd1db0cb8c265e0895120f790e387fbb719f0d63db3b5a9c16eb5b6") true
    vectorBack_holds (fun _ h => by cases h) (by kernel_rfl) (fun _ h => by cases h) vectorBack_row_tie rfl ⟨rfl, rfl⟩ (by kernel_rfl) rfl
    (fun f fn hf hfn => by
      obtain rfl : f = 6 := Option.some.inj ((show Tryz.prog.funcNamed "haystack/haystacklaw10.VectorBack" = some 6 by kernel_rfl).symm.trans hf) |>.symm
      obtain rfl : fn = Tryz.f6 := (Option.some.inj (Tryz.func6.symm.trans hfn)).symm
      exact ⟨by kernel_rfl, fun j t ht => noStand (by kernel_rfl) j t ht⟩)
    (by kernel_rfl)
#print axioms vectorBack_card
end Go.Proofs.YtofblchonjfdbaaGreatDoor
