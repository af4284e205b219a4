/-
  DERIVED. GIVEN WITH THE SEED: THE CARDS: each row of YtblpggndekhebaaDoorRows.lean that lists a variable, with what it lists TIED to the program's text (the seventh form; the later family's looks); each row that meets fmt, with fmt's text TOLD by the authors' own Lean function (tested against real Go, not proved from fmt's source: count such statements apart). THE CARD IS WHAT COUNTS. Prove the row's statement (the work); the ties are given (YtblpggndekhebaaDoorTie.lean); close each card by the builder's one call (the guide's Derived/Test/ToyasCard.lean, 'card_holds'). Laid BY PROGRAM, IN A SANDBOX (cutbox-door.mjs). By AI agents, Wed Nov 11 2026. No macro, syntax, notation, axiom, sorry.
-/
import Derived.Test.YtblpggndekhebaaDoorRows
import GoSem.ClaimSeven
namespace Go.Proofs.YtblpggndekhebaaDoor
namespace Rows

/-- THE TIED CARD OF 'haystacklaw01.WordRises'. -/
def wordRisesCard : Claim7 := { stood := { row := wordRisesRow, standIns := [], harness := (true, "19cc0320ab2d58a969619129450d2b5dc03a3e38ff4142add095b8dc0248f84a"), looks := false }, kinds := [], alts := [], laidByText := true, laidKinds := [.data], laidTests := true, laidLooks := .later }
def WordRisesCardSaid : Prop := Claim7.holds Tryd.pinned (.plain (OpenSpec.ofChange wordRisesSpec)) wordRisesCard

/-- THE TIED CARD OF 'haystacklaw01.WordMasks'. -/
def wordMasksCard : Claim7 := { stood := { row := wordMasksRow, standIns := [], harness := (true, "19cc0320ab2d58a969619129450d2b5dc03a3e38ff4142add095b8dc0248f84a"), looks := false }, kinds := [], alts := [], laidByText := true, laidKinds := [.data], laidTests := true, laidLooks := .later }
def WordMasksCardSaid : Prop := Claim7.holds Tryd.pinned (.plain (OpenSpec.ofChange wordMasksSpec)) wordMasksCard

/-- THE TIED CARD OF 'haystacklaw01.WordTells'. -/
def wordTellsCard : Claim7 := { stood := { row := wordTellsRow, standIns := [], harness := (true, "19cc0320ab2d58a969619129450d2b5dc03a3e38ff4142add095b8dc0248f84a"), looks := false }, kinds := [], alts := [], laidByText := true, laidKinds := [.data], laidTests := true, laidLooks := .later }
def WordTellsCardSaid : Prop := Claim7.holds Tryd.pinned (.plain (OpenSpec.ofChange wordTellsSpec)) wordTellsCard

/-- THE TIED CARD OF 'haystacklaw01.WordBack'. -/
def wordBackCard : Claim7 := { stood := { row := wordBackRow, standIns := [], harness := (true, "19cc0320ab2d58a969619129450d2b5dc03a3e38ff4142add095b8dc0248f84a"), looks := false }, kinds := [], alts := [], laidByText := true, laidKinds := [.data], laidTests := true, laidLooks := .later }
def WordBackCardSaid : Prop := Claim7.holds Tryd.pinned (.plain (OpenSpec.ofChange wordBackSpec)) wordBackCard

/-- THE TIED CARD OF 'haystacklaw01.WordParts'. -/
def wordPartsCard : Claim7 := { stood := { row := wordPartsRow, standIns := [], harness := (true, "19cc0320ab2d58a969619129450d2b5dc03a3e38ff4142add095b8dc0248f84a"), looks := false }, kinds := [], alts := [], laidByText := true, laidKinds := [.data], laidTests := true, laidLooks := .later }
def WordPartsCardSaid : Prop := Claim7.holds Tryd.pinned (.plain (OpenSpec.ofChange wordPartsSpec)) wordPartsCard

/-- THE TIED CARD OF 'haystacklaw01.WordLong'. -/
def wordLongCard : Claim7 := { stood := { row := wordLongRow, standIns := [], harness := (true, "19cc0320ab2d58a969619129450d2b5dc03a3e38ff4142add095b8dc0248f84a"), looks := false }, kinds := [], alts := [], laidByText := true, laidKinds := [.data], laidTests := true, laidLooks := .later }
def WordLongCardSaid : Prop := Claim7.holds Tryd.pinned (.plain (OpenSpec.ofChange wordLongSpec)) wordLongCard

/-- THE SECOND FORM's CARD OF 'haystacklaw01.WordRises'. -/
def wordRisesUptoCard : Claim7 := { stood := { row := wordRisesUptoRow, standIns := [], harness := (true, "19cc0320ab2d58a969619129450d2b5dc03a3e38ff4142add095b8dc0248f84a"), looks := false }, kinds := [], alts := [], laidByText := true, laidKinds := [.data], laidTests := true, laidLooks := .later }
def WordRisesUptoCardSaid : Prop := Claim7.holds Tryd.pinned (.plain (OpenSpec.upto wordRisesSpec)) wordRisesUptoCard

/-- THE SECOND FORM's CARD OF 'haystacklaw01.WordMasks'. -/
def wordMasksUptoCard : Claim7 := { stood := { row := wordMasksUptoRow, standIns := [], harness := (true, "19cc0320ab2d58a969619129450d2b5dc03a3e38ff4142add095b8dc0248f84a"), looks := false }, kinds := [], alts := [], laidByText := true, laidKinds := [.data], laidTests := true, laidLooks := .later }
def WordMasksUptoCardSaid : Prop := Claim7.holds Tryd.pinned (.plain (OpenSpec.upto wordMasksSpec)) wordMasksUptoCard

/-- THE SECOND FORM's CARD OF 'haystacklaw01.WordTells'. -/
def wordTellsUptoCard : Claim7 := { stood := { row := wordTellsUptoRow, standIns := [], harness := (true, "19cc0320ab2d58a969619129450d2b5dc03a3e38ff4142add095b8dc0248f84a"), looks := false }, kinds := [], alts := [], laidByText := true, laidKinds := [.data], laidTests := true, laidLooks := .later }
def WordTellsUptoCardSaid : Prop := Claim7.holds Tryd.pinned (.plain (OpenSpec.upto wordTellsSpec)) wordTellsUptoCard

/-- THE SECOND FORM's CARD OF 'haystacklaw01.WordBack'. -/
def wordBackUptoCard : Claim7 := { stood := { row := wordBackUptoRow, standIns := [], harness := (true, "19cc0320ab2d58a969619129450d2b5dc03a3e38ff4142add095b8dc0248f84a"), looks := false }, kinds := [], alts := [], laidByText := true, laidKinds := [.data], laidTests := true, laidLooks := .later }
def WordBackUptoCardSaid : Prop := Claim7.holds Tryd.pinned (.plain (OpenSpec.upto wordBackSpec)) wordBackUptoCard

/-- THE SECOND FORM's CARD OF 'haystacklaw01.WordParts'. -/
def wordPartsUptoCard : Claim7 := { stood := { row := wordPartsUptoRow, standIns := [], harness := (true, "19cc0320ab2d58a969619129450d2b5dc03a3e38ff4142add095b8dc0248f84a"), looks := false }, kinds := [], alts := [], laidByText := true, laidKinds := [.data], laidTests := true, laidLooks := .later }
def WordPartsUptoCardSaid : Prop := Claim7.holds Tryd.pinned (.plain (OpenSpec.upto wordPartsSpec)) wordPartsUptoCard

/-- THE SECOND FORM's CARD OF 'haystacklaw01.WordLong'. -/
def wordLongUptoCard : Claim7 := { stood := { row := wordLongUptoRow, standIns := [], harness := (true, "19cc0320ab2d58a969619129450d2b5dc03a3e38ff4142add095b8dc0248f84a"), looks := false }, kinds := [], alts := [], laidByText := true, laidKinds := [.data], laidTests := true, laidLooks := .later }
def WordLongUptoCardSaid : Prop := Claim7.holds Tryd.pinned (.plain (OpenSpec.upto wordLongSpec)) wordLongUptoCard
end Rows
end Go.Proofs.YtblpggndekhebaaDoor
