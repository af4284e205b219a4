/- 'BinomSums' is true of every input that its row lets in: the row, and the card that ties the listed variable to the program's text. Conditions: the row's own. Printed by a program of this repo (wip/close.py). -/
import Derived.Test.YtginjngnmboglaaClose
import Derived.Test.YtginjngnmboglaaBinomLaws
namespace Go.Proofs.Ytginjngnmboglaa
open Go Go.Ev Go.RowKit
set_option maxRecDepth 100000

theorem binomSums_lifted (os : Os) (started : os.Started) (H : Type) (enc : TypeId × Value → H) :
    ReturnsInHanded {} Try.checked os 8 .any (Rows.binomSumsSpec.pre6 enc Try.prog Try.f8 [] false) (Rows.binomSumsSpec.post enc Try.prog Try.f8 false true false false) := by
  refine returnsInHanded_of_change (C := Try.checked) own started (by kernel_rfl) Try.func8
    (let ⟨w, t, i, h1, h2, h3, h4, ⟨⟨h5, _⟩, h6⟩, h7⟩ := ChangeSpec.witness_at (enc := enc) (C := Try.checked) (os := os) (X := fun _ _ => True) false (laidWorld os) #[.int .i64 0, .int .i64 0] 8 rfl (by kernel_rfl) (by kernel_rfl) (by kernel_rfl) (by kernel_rfl) (by kernel_rfl) trivial
    ⟨w, t, i, h1, h2, h3, h4, ⟨h5, h6⟩, h7⟩) ?_
  intro W base args ds gs before hval hW _ _
  obtain ⟨sp, hsp, hle⟩ := ok8
  exact law_contract (sp := sp) (env_types _ _) hsp laid_out (by kernel_rfl) (pas := BinomSums_pas) (by kernel_rfl) rfl Try.underlying4 rfl (fun H ds hd => by
    match ds, hd with
    | [d1, d2], _ => rfl) (fun vs h => hle vs _ (BinomSums_law vs h)) hval hW (glob_ok _ _ trivial)
theorem binomSums_holds : Rows.BinomSumsSaid :=
  OpenClaim.holds_of_wide 8 Try.f8 rfl rfl rfl rfl rfl rfl rfl ⟨rfl, rfl, rfl, rfl, rfl⟩ rfl rfl rfl rfl rfl (by kernel_rfl) Try.func8 (by kernel_rfl)
    (of_decide_eq_true (by kernel_rfl)) (by unfold Func.isWrapper; rw [if_neg (of_decide_eq_false (by kernel_rfl))]; exact ⟨rfl, rfl⟩)
    (fun os started H enc _ => binomSums_lifted os started H enc)
#print axioms binomSums_holds
end Go.Proofs.Ytginjngnmboglaa
