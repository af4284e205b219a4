/-
  DERIVED. GIVEN WITH THE SEED: THE CARDS: each row of YtdojekdcdoaccaaDoorRows.lean that lists a variable, with what it lists TIED to the program's text (the seventh form; the later family's looks); each row that meets fmt, with fmt's text TOLD by the authors' own Lean function (tested against real Go, not proved from fmt's source: count such statements apart). THE CARD IS WHAT COUNTS. Prove the row's statement (the work); the ties are given (YtdojekdcdoaccaaDoorTie.lean); close each card by the builder's one call (the guide's Derived/Test/ToyasCard.lean, 'card_holds'). Laid BY PROGRAM, IN A SANDBOX (cutbox-door.mjs). By AI agents, Wed Nov 11 2026. No macro, syntax, notation, axiom, sorry.
-/
import Derived.Test.YtdojekdcdoaccaaDoorRows
import GoSem.ClaimSeven
namespace Go.Proofs.YtdojekdcdoaccaaDoor
namespace Rows

/-- THE TIED CARD OF 'haystacklaw09.FanoCounts'. -/
def fanoCountsCard : Claim7 := { stood := { row := fanoCountsRow, standIns := [], harness := (true, "ce2cc3d47608fb24bac19d79b68a9da7a044046359222089d2ff31a4222f07d8"), looks := true }, kinds := [], alts := [], laidByText := true, laidKinds := [.data, .handle], laidTests := true, laidLooks := .later }
def FanoCountsCardSaid : Prop := Claim7.holds Tryd.pinned (.plain (OpenSpec.ofChange fanoCountsSpec)) fanoCountsCard

/-- THE TIED CARD OF 'haystacklaw09.FanoSizes'. -/
def fanoSizesCard : Claim7 := { stood := { row := fanoSizesRow, standIns := [], harness := (true, "ce2cc3d47608fb24bac19d79b68a9da7a044046359222089d2ff31a4222f07d8"), looks := true }, kinds := [], alts := [], laidByText := true, laidKinds := [.data, .handle], laidTests := true, laidLooks := .later }
def FanoSizesCardSaid : Prop := Claim7.holds Tryd.pinned (.plain (OpenSpec.ofChange fanoSizesSpec)) fanoSizesCard

/-- THE TIED CARD OF 'haystacklaw09.FanoBuilds'. -/
def fanoBuildsCard : Claim7 := { stood := { row := fanoBuildsRow, standIns := [], harness := (true, "ce2cc3d47608fb24bac19d79b68a9da7a044046359222089d2ff31a4222f07d8"), looks := true }, kinds := [], alts := [], laidByText := true, laidKinds := [.data, .handle], laidTests := true, laidLooks := .later }
def FanoBuildsCardSaid : Prop := Claim7.holds Tryd.pinned (.plain (OpenSpec.ofChange fanoBuildsSpec)) fanoBuildsCard

/-- THE TIED CARD OF 'haystacklaw09.FanoTells'. -/
def fanoTellsCard : Claim7 := { stood := { row := fanoTellsRow, standIns := [], harness := (true, "ce2cc3d47608fb24bac19d79b68a9da7a044046359222089d2ff31a4222f07d8"), looks := true }, kinds := [], alts := [], laidByText := true, laidKinds := [.data, .handle], laidTests := true, laidLooks := .later }
def FanoTellsCardSaid : Prop := Claim7.holds Tryd.pinned (.plain (OpenSpec.ofChange fanoTellsSpec)) fanoTellsCard

/-- THE TIED CARD OF 'haystacklaw09.FanoBack'. -/
def fanoBackCard : Claim7 := { stood := { row := fanoBackRow, standIns := [], harness := (true, "ce2cc3d47608fb24bac19d79b68a9da7a044046359222089d2ff31a4222f07d8"), looks := true }, kinds := [], alts := [], laidByText := true, laidKinds := [.data, .handle], laidTests := true, laidLooks := .later }
def FanoBackCardSaid : Prop := Claim7.holds Tryd.pinned (.plain (OpenSpec.ofChange fanoBackSpec)) fanoBackCard

/-- THE TIED CARD OF 'haystacklaw08.RrrCounts'. -/
def rrrCountsCard : Claim7 := { stood := { row := rrrCountsRow, standIns := [], harness := (true, "ce2cc3d47608fb24bac19d79b68a9da7a044046359222089d2ff31a4222f07d8"), looks := true }, kinds := [], alts := [], laidByText := true, laidKinds := [.data, .handle], laidTests := true, laidLooks := .later }
def RrrCountsCardSaid : Prop := Claim7.holds Tryd.pinned (.plain (OpenSpec.ofChange rrrCountsSpec)) rrrCountsCard

/-- THE TIED CARD OF 'haystacklaw08.RrrSizes'. -/
def rrrSizesCard : Claim7 := { stood := { row := rrrSizesRow, standIns := [], harness := (true, "ce2cc3d47608fb24bac19d79b68a9da7a044046359222089d2ff31a4222f07d8"), looks := true }, kinds := [], alts := [], laidByText := true, laidKinds := [.data, .handle], laidTests := true, laidLooks := .later }
def RrrSizesCardSaid : Prop := Claim7.holds Tryd.pinned (.plain (OpenSpec.ofChange rrrSizesSpec)) rrrSizesCard

/-- THE TIED CARD OF 'haystacklaw08.RrrBack'. -/
def rrrBackCard : Claim7 := { stood := { row := rrrBackRow, standIns := [], harness := (true, "ce2cc3d47608fb24bac19d79b68a9da7a044046359222089d2ff31a4222f07d8"), looks := true }, kinds := [], alts := [], laidByText := true, laidKinds := [.data, .handle], laidTests := true, laidLooks := .later }
def RrrBackCardSaid : Prop := Claim7.holds Tryd.pinned (.plain (OpenSpec.ofChange rrrBackSpec)) rrrBackCard

/-- THE SECOND FORM's CARD OF 'haystacklaw09.FanoCounts'. -/
def fanoCountsUptoCard : Claim7 := { stood := { row := fanoCountsUptoRow, standIns := [], harness := (true, "ce2cc3d47608fb24bac19d79b68a9da7a044046359222089d2ff31a4222f07d8"), looks := true }, kinds := [], alts := [], laidByText := true, laidKinds := [.data, .handle], laidTests := true, laidLooks := .later }
def FanoCountsUptoCardSaid : Prop := Claim7.holds Tryd.pinned (.plain (OpenSpec.upto fanoCountsSpec)) fanoCountsUptoCard

/-- THE SECOND FORM's CARD OF 'haystacklaw09.FanoSizes'. -/
def fanoSizesUptoCard : Claim7 := { stood := { row := fanoSizesUptoRow, standIns := [], harness := (true, "ce2cc3d47608fb24bac19d79b68a9da7a044046359222089d2ff31a4222f07d8"), looks := true }, kinds := [], alts := [], laidByText := true, laidKinds := [.data, .handle], laidTests := true, laidLooks := .later }
def FanoSizesUptoCardSaid : Prop := Claim7.holds Tryd.pinned (.plain (OpenSpec.upto fanoSizesSpec)) fanoSizesUptoCard

/-- THE SECOND FORM's CARD OF 'haystacklaw09.FanoBuilds'. -/
def fanoBuildsUptoCard : Claim7 := { stood := { row := fanoBuildsUptoRow, standIns := [], harness := (true, "ce2cc3d47608fb24bac19d79b68a9da7a044046359222089d2ff31a4222f07d8"), looks := true }, kinds := [], alts := [], laidByText := true, laidKinds := [.data, .handle], laidTests := true, laidLooks := .later }
def FanoBuildsUptoCardSaid : Prop := Claim7.holds Tryd.pinned (.plain (OpenSpec.upto fanoBuildsSpec)) fanoBuildsUptoCard

/-- THE SECOND FORM's CARD OF 'haystacklaw09.FanoTells'. -/
def fanoTellsUptoCard : Claim7 := { stood := { row := fanoTellsUptoRow, standIns := [], harness := (true, "ce2cc3d47608fb24bac19d79b68a9da7a044046359222089d2ff31a4222f07d8"), looks := true }, kinds := [], alts := [], laidByText := true, laidKinds := [.data, .handle], laidTests := true, laidLooks := .later }
def FanoTellsUptoCardSaid : Prop := Claim7.holds Tryd.pinned (.plain (OpenSpec.upto fanoTellsSpec)) fanoTellsUptoCard

/-- THE SECOND FORM's CARD OF 'haystacklaw09.FanoBack'. -/
def fanoBackUptoCard : Claim7 := { stood := { row := fanoBackUptoRow, standIns := [], harness := (true, "ce2cc3d47608fb24bac19d79b68a9da7a044046359222089d2ff31a4222f07d8"), looks := true }, kinds := [], alts := [], laidByText := true, laidKinds := [.data, .handle], laidTests := true, laidLooks := .later }
def FanoBackUptoCardSaid : Prop := Claim7.holds Tryd.pinned (.plain (OpenSpec.upto fanoBackSpec)) fanoBackUptoCard

/-- THE SECOND FORM's CARD OF 'haystacklaw08.RrrCounts'. -/
def rrrCountsUptoCard : Claim7 := { stood := { row := rrrCountsUptoRow, standIns := [], harness := (true, "ce2cc3d47608fb24bac19d79b68a9da7a044046359222089d2ff31a4222f07d8"), looks := true }, kinds := [], alts := [], laidByText := true, laidKinds := [.data, .handle], laidTests := true, laidLooks := .later }
def RrrCountsUptoCardSaid : Prop := Claim7.holds Tryd.pinned (.plain (OpenSpec.upto rrrCountsSpec)) rrrCountsUptoCard

/-- THE SECOND FORM's CARD OF 'haystacklaw08.RrrSizes'. -/
def rrrSizesUptoCard : Claim7 := { stood := { row := rrrSizesUptoRow, standIns := [], harness := (true, "ce2cc3d47608fb24bac19d79b68a9da7a044046359222089d2ff31a4222f07d8"), looks := true }, kinds := [], alts := [], laidByText := true, laidKinds := [.data, .handle], laidTests := true, laidLooks := .later }
def RrrSizesUptoCardSaid : Prop := Claim7.holds Tryd.pinned (.plain (OpenSpec.upto rrrSizesSpec)) rrrSizesUptoCard

/-- THE SECOND FORM's CARD OF 'haystacklaw08.RrrBack'. -/
def rrrBackUptoCard : Claim7 := { stood := { row := rrrBackUptoRow, standIns := [], harness := (true, "ce2cc3d47608fb24bac19d79b68a9da7a044046359222089d2ff31a4222f07d8"), looks := true }, kinds := [], alts := [], laidByText := true, laidKinds := [.data, .handle], laidTests := true, laidLooks := .later }
def RrrBackUptoCardSaid : Prop := Claim7.holds Tryd.pinned (.plain (OpenSpec.upto rrrBackSpec)) rrrBackUptoCard
end Rows
end Go.Proofs.YtdojekdcdoaccaaDoor
