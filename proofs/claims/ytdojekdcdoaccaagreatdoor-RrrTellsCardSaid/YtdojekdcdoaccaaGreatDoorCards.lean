/-
  DERIVED. GIVEN WITH THE SEED: THE CARDS: each row of YtdojekdcdoaccaaGreatDoorRows.lean that lists a variable, with what it lists TIED to the program's text (the seventh form; the later family's looks); each row that meets fmt, with fmt's text TOLD by the authors' own Lean function (tested against real Go, not proved from fmt's source: count such statements apart). THE CARD IS WHAT COUNTS. Prove the row's statement (the work); the ties are given (YtdojekdcdoaccaaGreatDoorTie.lean); close each card by the builder's one call (the guide's Derived/Test/ToyasCard.lean, 'card_holds'). Laid BY PROGRAM, IN A SANDBOX (cutbox-door.mjs). By AI agents, Wed Nov 11 2026. No macro, syntax, notation, axiom, sorry.
-/
import Derived.Test.YtdojekdcdoaccaaGreatDoorRows
import GoSem.ClaimSeven
namespace Go.Proofs.YtdojekdcdoaccaaGreatDoor
namespace Rows

/-- THE TIED CARD OF 'haystacklaw08.RrrBuilds'. -/
def rrrBuildsCard : Claim7 := { stood := { row := rrrBuildsRow, standIns := [], harness := (true, "62765a14dd5deb030ebb8747b026f2621b1d9205e782fd160a1b07e101dff8c2"), looks := true }, kinds := [], alts := [], laidByText := true, laidKinds := [.data, .handle], laidTests := true, laidLooks := .later }
def RrrBuildsCardSaid : Prop := Claim7.holds Tryz.pinned (.plain (OpenSpec.ofChange rrrBuildsSpec)) rrrBuildsCard

/-- THE TIED CARD OF 'haystacklaw08.RrrTells'. -/
def rrrTellsCard : Claim7 := { stood := { row := rrrTellsRow, standIns := [], harness := (true, "62765a14dd5deb030ebb8747b026f2621b1d9205e782fd160a1b07e101dff8c2"), looks := true }, kinds := [], alts := [], laidByText := true, laidKinds := [.data, .handle], laidTests := true, laidLooks := .later }
def RrrTellsCardSaid : Prop := Claim7.holds Tryz.pinned (.plain (OpenSpec.ofChange rrrTellsSpec)) rrrTellsCard

/-- THE SECOND FORM's CARD OF 'haystacklaw08.RrrBuilds'. -/
def rrrBuildsUptoCard : Claim7 := { stood := { row := rrrBuildsUptoRow, standIns := [], harness := (true, "62765a14dd5deb030ebb8747b026f2621b1d9205e782fd160a1b07e101dff8c2"), looks := true }, kinds := [], alts := [], laidByText := true, laidKinds := [.data, .handle], laidTests := true, laidLooks := .later }
def RrrBuildsUptoCardSaid : Prop := Claim7.holds Tryz.pinned (.plain (OpenSpec.upto rrrBuildsSpec)) rrrBuildsUptoCard

/-- THE SECOND FORM's CARD OF 'haystacklaw08.RrrTells'. -/
def rrrTellsUptoCard : Claim7 := { stood := { row := rrrTellsUptoRow, standIns := [], harness := (true, "62765a14dd5deb030ebb8747b026f2621b1d9205e782fd160a1b07e101dff8c2"), looks := true }, kinds := [], alts := [], laidByText := true, laidKinds := [.data, .handle], laidTests := true, laidLooks := .later }
def RrrTellsUptoCardSaid : Prop := Claim7.holds Tryz.pinned (.plain (OpenSpec.upto rrrTellsSpec)) rrrTellsUptoCard
end Rows
end Go.Proofs.YtdojekdcdoaccaaGreatDoor
