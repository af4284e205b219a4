/-
  DERIVED. GIVEN WITH THE SEED: THE CARDS: each row of YtofblchonjfdbaaGreatDoorRows.lean that lists a variable, with what it lists TIED to the program's text (the seventh form; the later family's looks); each row that meets fmt, with fmt's text TOLD by the authors' own Lean function (tested against real Go, not proved from fmt's source: count such statements apart). THE CARD IS WHAT COUNTS. Prove the row's statement (the work); the ties are given (YtofblchonjfdbaaGreatDoorTie.lean); close each card by the builder's one call (the guide's Derived/Test/ToyasCard.lean, 'card_holds'). Laid BY PROGRAM, IN A SANDBOX (cutbox-door.mjs). By AI agents, Wed Nov 11 2026. No macro, syntax, notation, axiom, sorry.
-/
import Derived.Test.YtofblchonjfdbaaGreatDoorRows
import GoSem.ClaimSeven
namespace Go.Proofs.YtofblchonjfdbaaGreatDoor
namespace Rows

/-- THE TIED CARD OF 'haystacklaw10.VectorAlike'. -/
def vectorAlikeCard : Claim7 := { stood := { row := vectorAlikeRow, standIns := [], harness := (true, "68c809e1ddd1db0cb8c265e0895120f790e387fbb719f0d63db3b5a9c16eb5b6"), looks := true }, kinds := [], alts := [], laidByText := true, laidKinds := [.data, .handle], laidTests := true, laidLooks := .later }
def VectorAlikeCardSaid : Prop := Claim7.holds Tryz.pinned (.plain (OpenSpec.ofChange vectorAlikeSpec)) vectorAlikeCard

/-- THE TIED CARD OF 'haystacklaw10.VectorBuilds'. -/
def vectorBuildsCard : Claim7 := { stood := { row := vectorBuildsRow, standIns := [], harness := (true, "68c809e1ddd1db0cb8c265e0895120f790e387fbb719f0d63db3b5a9c16eb5b6"), looks := true }, kinds := [], alts := [], laidByText := true, laidKinds := [.data, .handle], laidTests := true, laidLooks := .later }
def VectorBuildsCardSaid : Prop := Claim7.holds Tryz.pinned (.plain (OpenSpec.ofChange vectorBuildsSpec)) vectorBuildsCard

/-- THE TIED CARD OF 'haystacklaw10.VectorTells'. -/
def vectorTellsCard : Claim7 := { stood := { row := vectorTellsRow, standIns := [], harness := (true, "68c809e1ddd1db0cb8c265e0895120f790e387fbb719f0d63db3b5a9c16eb5b6"), looks := true }, kinds := [], alts := [], laidByText := true, laidKinds := [.data, .handle], laidTests := true, laidLooks := .later }
def VectorTellsCardSaid : Prop := Claim7.holds Tryz.pinned (.plain (OpenSpec.ofChange vectorTellsSpec)) vectorTellsCard

/-- THE TIED CARD OF 'haystacklaw10.VectorBack'. -/
def vectorBackCard : Claim7 := { stood := { row := vectorBackRow, standIns := [], harness := (true, "68c809e1ddd1db0cb8c265e0895120f790e387fbb719f0d63db3b5a9c16eb5b6"), looks := true }, kinds := [], alts := [], laidByText := true, laidKinds := [.data, .handle], laidTests := true, laidLooks := .later }
def VectorBackCardSaid : Prop := Claim7.holds Tryz.pinned (.plain (OpenSpec.ofChange vectorBackSpec)) vectorBackCard

/-- THE TIED CARD OF 'haystacklaw14.MatrixAlike'. -/
def matrixAlikeCard : Claim7 := { stood := { row := matrixAlikeRow, standIns := [], harness := (true, "68c809e1ddd1db0cb8c265e0895120f790e387fbb719f0d63db3b5a9c16eb5b6"), looks := true }, kinds := [], alts := [], laidByText := true, laidKinds := [.data, .handle], laidTests := true, laidLooks := .later }
def MatrixAlikeCardSaid : Prop := Claim7.holds Tryz.pinned (.plain (OpenSpec.ofChange matrixAlikeSpec)) matrixAlikeCard

/-- THE TIED CARD OF 'haystacklaw14.MatrixCounts'. -/
def matrixCountsCard : Claim7 := { stood := { row := matrixCountsRow, standIns := [], harness := (true, "68c809e1ddd1db0cb8c265e0895120f790e387fbb719f0d63db3b5a9c16eb5b6"), looks := true }, kinds := [], alts := [], laidByText := true, laidKinds := [.data, .handle], laidTests := true, laidLooks := .later }
def MatrixCountsCardSaid : Prop := Claim7.holds Tryz.pinned (.plain (OpenSpec.ofChange matrixCountsSpec)) matrixCountsCard

/-- THE TIED CARD OF 'haystacklaw14.MatrixBuilds'. -/
def matrixBuildsCard : Claim7 := { stood := { row := matrixBuildsRow, standIns := [], harness := (true, "68c809e1ddd1db0cb8c265e0895120f790e387fbb719f0d63db3b5a9c16eb5b6"), looks := true }, kinds := [], alts := [], laidByText := true, laidKinds := [.data, .handle], laidTests := true, laidLooks := .later }
def MatrixBuildsCardSaid : Prop := Claim7.holds Tryz.pinned (.plain (OpenSpec.ofChange matrixBuildsSpec)) matrixBuildsCard

/-- THE TIED CARD OF 'haystacklaw14.MatrixTells'. -/
def matrixTellsCard : Claim7 := { stood := { row := matrixTellsRow, standIns := [], harness := (true, "68c809e1ddd1db0cb8c265e0895120f790e387fbb719f0d63db3b5a9c16eb5b6"), looks := true }, kinds := [], alts := [], laidByText := true, laidKinds := [.data, .handle], laidTests := true, laidLooks := .later }
def MatrixTellsCardSaid : Prop := Claim7.holds Tryz.pinned (.plain (OpenSpec.ofChange matrixTellsSpec)) matrixTellsCard

/-- THE TIED CARD OF 'haystacklaw14.MatrixBack'. -/
def matrixBackCard : Claim7 := { stood := { row := matrixBackRow, standIns := [], harness := (true, "68c809e1ddd1db0cb8c265e0895120f790e387fbb719f0d63db3b5a9c16eb5b6"), looks := true }, kinds := [], alts := [], laidByText := true, laidKinds := [.data, .handle], laidTests := true, laidLooks := .later }
def MatrixBackCardSaid : Prop := Claim7.holds Tryz.pinned (.plain (OpenSpec.ofChange matrixBackSpec)) matrixBackCard

/-- THE SECOND FORM's CARD OF 'haystacklaw10.VectorAlike'. -/
def vectorAlikeUptoCard : Claim7 := { stood := { row := vectorAlikeUptoRow, standIns := [], harness := (true, "68c809e1ddd1db0cb8c265e0895120f790e387fbb719f0d63db3b5a9c16eb5b6"), looks := true }, kinds := [], alts := [], laidByText := true, laidKinds := [.data, .handle], laidTests := true, laidLooks := .later }
def VectorAlikeUptoCardSaid : Prop := Claim7.holds Tryz.pinned (.plain (OpenSpec.upto vectorAlikeSpec)) vectorAlikeUptoCard

/-- THE SECOND FORM's CARD OF 'haystacklaw10.VectorBuilds'. -/
def vectorBuildsUptoCard : Claim7 := { stood := { row := vectorBuildsUptoRow, standIns := [], harness := (true, "68c809e1ddd1db0cb8c265e0895120f790e387fbb719f0d63db3b5a9c16eb5b6"), looks := true }, kinds := [], alts := [], laidByText := true, laidKinds := [.data, .handle], laidTests := true, laidLooks := .later }
def VectorBuildsUptoCardSaid : Prop := Claim7.holds Tryz.pinned (.plain (OpenSpec.upto vectorBuildsSpec)) vectorBuildsUptoCard

/-- THE SECOND FORM's CARD OF 'haystacklaw10.VectorTells'. -/
def vectorTellsUptoCard : Claim7 := { stood := { row := vectorTellsUptoRow, standIns := [], harness := (true, "68c809e1ddd1db0cb8c265e0895120f790e387fbb719f0d63db3b5a9c16eb5b6"), looks := true }, kinds := [], alts := [], laidByText := true, laidKinds := [.data, .handle], laidTests := true, laidLooks := .later }
def VectorTellsUptoCardSaid : Prop := Claim7.holds Tryz.pinned (.plain (OpenSpec.upto vectorTellsSpec)) vectorTellsUptoCard

/-- THE SECOND FORM's CARD OF 'haystacklaw10.VectorBack'. -/
def vectorBackUptoCard : Claim7 := { stood := { row := vectorBackUptoRow, standIns := [], harness := (true, "68c809e1ddd1db0cb8c265e0895120f790e387fbb719f0d63db3b5a9c16eb5b6"), looks := true }, kinds := [], alts := [], laidByText := true, laidKinds := [.data, .handle], laidTests := true, laidLooks := .later }
def VectorBackUptoCardSaid : Prop := Claim7.holds Tryz.pinned (.plain (OpenSpec.upto vectorBackSpec)) vectorBackUptoCard

/-- THE SECOND FORM's CARD OF 'haystacklaw14.MatrixAlike'. -/
def matrixAlikeUptoCard : Claim7 := { stood := { row := matrixAlikeUptoRow, standIns := [], harness := (true, "68c809e1ddd1db0cb8c265e0895120f790e387fbb719f0d63db3b5a9c16eb5b6"), looks := true }, kinds := [], alts := [], laidByText := true, laidKinds := [.data, .handle], laidTests := true, laidLooks := .later }
def MatrixAlikeUptoCardSaid : Prop := Claim7.holds Tryz.pinned (.plain (OpenSpec.upto matrixAlikeSpec)) matrixAlikeUptoCard

/-- THE SECOND FORM's CARD OF 'haystacklaw14.MatrixCounts'. -/
def matrixCountsUptoCard : Claim7 := { stood := { row := matrixCountsUptoRow, standIns := [], harness := (true, "68c809e1ddd1db0cb8c265e0895120f790e387fbb719f0d63db3b5a9c16eb5b6"), looks := true }, kinds := [], alts := [], laidByText := true, laidKinds := [.data, .handle], laidTests := true, laidLooks := .later }
def MatrixCountsUptoCardSaid : Prop := Claim7.holds Tryz.pinned (.plain (OpenSpec.upto matrixCountsSpec)) matrixCountsUptoCard

/-- THE SECOND FORM's CARD OF 'haystacklaw14.MatrixBuilds'. -/
def matrixBuildsUptoCard : Claim7 := { stood := { row := matrixBuildsUptoRow, standIns := [], harness := (true, "68c809e1ddd1db0cb8c265e0895120f790e387fbb719f0d63db3b5a9c16eb5b6"), looks := true }, kinds := [], alts := [], laidByText := true, laidKinds := [.data, .handle], laidTests := true, laidLooks := .later }
def MatrixBuildsUptoCardSaid : Prop := Claim7.holds Tryz.pinned (.plain (OpenSpec.upto matrixBuildsSpec)) matrixBuildsUptoCard

/-- THE SECOND FORM's CARD OF 'haystacklaw14.MatrixTells'. -/
def matrixTellsUptoCard : Claim7 := { stood := { row := matrixTellsUptoRow, standIns := [], harness := (true, "68c809e1ddd1db0cb8c265e0895120f790e387fbb719f0d63db3b5a9c16eb5b6"), looks := true }, kinds := [], alts := [], laidByText := true, laidKinds := [.data, .handle], laidTests := true, laidLooks := .later }
def MatrixTellsUptoCardSaid : Prop := Claim7.holds Tryz.pinned (.plain (OpenSpec.upto matrixTellsSpec)) matrixTellsUptoCard

/-- THE SECOND FORM's CARD OF 'haystacklaw14.MatrixBack'. -/
def matrixBackUptoCard : Claim7 := { stood := { row := matrixBackUptoRow, standIns := [], harness := (true, "68c809e1ddd1db0cb8c265e0895120f790e387fbb719f0d63db3b5a9c16eb5b6"), looks := true }, kinds := [], alts := [], laidByText := true, laidKinds := [.data, .handle], laidTests := true, laidLooks := .later }
def MatrixBackUptoCardSaid : Prop := Claim7.holds Tryz.pinned (.plain (OpenSpec.upto matrixBackSpec)) matrixBackUptoCard
end Rows
end Go.Proofs.YtofblchonjfdbaaGreatDoor
