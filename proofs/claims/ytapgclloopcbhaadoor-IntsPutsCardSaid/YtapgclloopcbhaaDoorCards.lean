/-
  DERIVED. GIVEN WITH THE SEED: THE CARDS: each row of YtapgclloopcbhaaDoorRows.lean that lists a variable, with what it lists TIED to the program's text (the seventh form; the later family's looks); each row that meets fmt, with fmt's text TOLD by the authors' own Lean function (tested against real Go, not proved from fmt's source: count such statements apart). THE CARD IS WHAT COUNTS. Prove the row's statement (the work); the ties are given (YtapgclloopcbhaaDoorTie.lean); close each card by the builder's one call (the guide's Derived/Test/ToyasCard.lean, 'card_holds'). Laid BY PROGRAM, IN A SANDBOX (cutbox-door.mjs). By AI agents, Wed Nov 11 2026. No macro, syntax, notation, axiom, sorry.
-/
import Derived.Test.YtapgclloopcbhaaDoorRows
import GoSem.ClaimSeven
namespace Go.Proofs.YtapgclloopcbhaaDoor
namespace Rows

/-- THE TIED CARD OF 'haystacklaw07.PlainCounts'. -/
def plainCountsCard : Claim7 := { stood := { row := plainCountsRow, standIns := [], harness := (true, "1b50f34ccb643ca66587109ebd88131d1e2fa79012ab042a423bd5c8f50745b4"), looks := true }, kinds := [], alts := [], laidByText := true, laidKinds := [.data], laidTests := true, laidLooks := .later }
def PlainCountsCardSaid : Prop := Claim7.holds Tryd.pinned (.plain (OpenSpec.ofChange plainCountsSpec)) plainCountsCard

/-- THE TIED CARD OF 'haystacklaw07.PlainBuilds'. -/
def plainBuildsCard : Claim7 := { stood := { row := plainBuildsRow, standIns := [], harness := (true, "1b50f34ccb643ca66587109ebd88131d1e2fa79012ab042a423bd5c8f50745b4"), looks := true }, kinds := [], alts := [], laidByText := true, laidKinds := [.data], laidTests := true, laidLooks := .later }
def PlainBuildsCardSaid : Prop := Claim7.holds Tryd.pinned (.plain (OpenSpec.ofChange plainBuildsSpec)) plainBuildsCard

/-- THE TIED CARD OF 'haystacklaw07.PlainTells'. -/
def plainTellsCard : Claim7 := { stood := { row := plainTellsRow, standIns := [], harness := (true, "1b50f34ccb643ca66587109ebd88131d1e2fa79012ab042a423bd5c8f50745b4"), looks := true }, kinds := [], alts := [], laidByText := true, laidKinds := [.data], laidTests := true, laidLooks := .later }
def PlainTellsCardSaid : Prop := Claim7.holds Tryd.pinned (.plain (OpenSpec.ofChange plainTellsSpec)) plainTellsCard

/-- THE TIED CARD OF 'haystacklaw07.PlainBack'. -/
def plainBackCard : Claim7 := { stood := { row := plainBackRow, standIns := [], harness := (true, "1b50f34ccb643ca66587109ebd88131d1e2fa79012ab042a423bd5c8f50745b4"), looks := true }, kinds := [], alts := [], laidByText := true, laidKinds := [.data], laidTests := true, laidLooks := .later }
def PlainBackCardSaid : Prop := Claim7.holds Tryd.pinned (.plain (OpenSpec.ofChange plainBackSpec)) plainBackCard

/-- THE TIED CARD OF 'haystacklaw03.IntsLeast'. -/
def intsLeastCard : Claim7 := { stood := { row := intsLeastRow, standIns := [], harness := (true, "1b50f34ccb643ca66587109ebd88131d1e2fa79012ab042a423bd5c8f50745b4"), looks := true }, kinds := [], alts := [], laidByText := true, laidKinds := [.handle], laidTests := true, laidLooks := .later }
def IntsLeastCardSaid : Prop := Claim7.holds Tryd.pinned (.plain (OpenSpec.ofChange intsLeastSpec)) intsLeastCard

/-- THE TIED CARD OF 'haystacklaw03.IntsTell'. -/
def intsTellCard : Claim7 := { stood := { row := intsTellRow, standIns := [], harness := (true, "1b50f34ccb643ca66587109ebd88131d1e2fa79012ab042a423bd5c8f50745b4"), looks := true }, kinds := [], alts := [], laidByText := true, laidKinds := [.handle], laidTests := true, laidLooks := .later }
def IntsTellCardSaid : Prop := Claim7.holds Tryd.pinned (.plain (OpenSpec.ofChange intsTellSpec)) intsTellCard

/-- THE TIED CARD OF 'haystacklaw03.IntsBack'. -/
def intsBackCard : Claim7 := { stood := { row := intsBackRow, standIns := [], harness := (true, "1b50f34ccb643ca66587109ebd88131d1e2fa79012ab042a423bd5c8f50745b4"), looks := true }, kinds := [], alts := [], laidByText := true, laidKinds := [.handle], laidTests := true, laidLooks := .later }
def IntsBackCardSaid : Prop := Claim7.holds Tryd.pinned (.plain (OpenSpec.ofChange intsBackSpec)) intsBackCard

/-- THE TIED CARD OF 'haystacklaw03.IntsPuts'. -/
def intsPutsCard : Claim7 := { stood := { row := intsPutsRow, standIns := [], harness := (true, "1b50f34ccb643ca66587109ebd88131d1e2fa79012ab042a423bd5c8f50745b4"), looks := true }, kinds := [], alts := [], laidByText := true, laidKinds := [.handle], laidTests := true, laidLooks := .later }
def IntsPutsCardSaid : Prop := Claim7.holds Tryd.pinned (.plain (OpenSpec.ofChange intsPutsSpec)) intsPutsCard

/-- THE TIED CARD OF 'haystacklaw20.ConfigBack'. -/
def configBackCard : Claim7 := { stood := { row := configBackRow, standIns := [], harness := (true, "1b50f34ccb643ca66587109ebd88131d1e2fa79012ab042a423bd5c8f50745b4"), looks := true }, kinds := [], alts := [], laidByText := true, laidKinds := [.data, .data, .data], laidTests := true, laidLooks := .later }
def ConfigBackCardSaid : Prop := Claim7.holds Tryd.pinned (.plain (OpenSpec.ofChange configBackSpec)) configBackCard

/-- THE TIED CARD OF 'haystacklaw20.ConfigApart'. -/
def configApartCard : Claim7 := { stood := { row := configApartRow, standIns := [], harness := (true, "1b50f34ccb643ca66587109ebd88131d1e2fa79012ab042a423bd5c8f50745b4"), looks := true }, kinds := [], alts := [], laidByText := true, laidKinds := [.data, .data, .data], laidTests := true, laidLooks := .later }
def ConfigApartCardSaid : Prop := Claim7.holds Tryd.pinned (.plain (OpenSpec.ofChange configApartSpec)) configApartCard

/-- THE TIED CARD OF 'haystacklaw20.ConfigTells'. -/
def configTellsCard : Claim7 := { stood := { row := configTellsRow, standIns := [], harness := (true, "1b50f34ccb643ca66587109ebd88131d1e2fa79012ab042a423bd5c8f50745b4"), looks := true }, kinds := [], alts := [], laidByText := true, laidKinds := [.data, .data, .data], laidTests := true, laidLooks := .later }
def ConfigTellsCardSaid : Prop := Claim7.holds Tryd.pinned (.plain (OpenSpec.ofChange configTellsSpec)) configTellsCard

/-- THE TIED CARD OF 'haystacklaw20.ConfigAll'. -/
def configAllCard : Claim7 := { stood := { row := configAllRow, standIns := [], harness := (true, "1b50f34ccb643ca66587109ebd88131d1e2fa79012ab042a423bd5c8f50745b4"), looks := true }, kinds := [], alts := [], laidByText := true, laidKinds := [.data, .data, .data], laidTests := true, laidLooks := .later }
def ConfigAllCardSaid : Prop := Claim7.holds Tryd.pinned (.plain (OpenSpec.ofChange configAllSpec)) configAllCard

/-- THE SECOND FORM's CARD OF 'haystacklaw07.PlainCounts'. -/
def plainCountsUptoCard : Claim7 := { stood := { row := plainCountsUptoRow, standIns := [], harness := (true, "1b50f34ccb643ca66587109ebd88131d1e2fa79012ab042a423bd5c8f50745b4"), looks := true }, kinds := [], alts := [], laidByText := true, laidKinds := [.data], laidTests := true, laidLooks := .later }
def PlainCountsUptoCardSaid : Prop := Claim7.holds Tryd.pinned (.plain (OpenSpec.upto plainCountsSpec)) plainCountsUptoCard

/-- THE SECOND FORM's CARD OF 'haystacklaw07.PlainBuilds'. -/
def plainBuildsUptoCard : Claim7 := { stood := { row := plainBuildsUptoRow, standIns := [], harness := (true, "1b50f34ccb643ca66587109ebd88131d1e2fa79012ab042a423bd5c8f50745b4"), looks := true }, kinds := [], alts := [], laidByText := true, laidKinds := [.data], laidTests := true, laidLooks := .later }
def PlainBuildsUptoCardSaid : Prop := Claim7.holds Tryd.pinned (.plain (OpenSpec.upto plainBuildsSpec)) plainBuildsUptoCard

/-- THE SECOND FORM's CARD OF 'haystacklaw07.PlainTells'. -/
def plainTellsUptoCard : Claim7 := { stood := { row := plainTellsUptoRow, standIns := [], harness := (true, "1b50f34ccb643ca66587109ebd88131d1e2fa79012ab042a423bd5c8f50745b4"), looks := true }, kinds := [], alts := [], laidByText := true, laidKinds := [.data], laidTests := true, laidLooks := .later }
def PlainTellsUptoCardSaid : Prop := Claim7.holds Tryd.pinned (.plain (OpenSpec.upto plainTellsSpec)) plainTellsUptoCard

/-- THE SECOND FORM's CARD OF 'haystacklaw07.PlainBack'. -/
def plainBackUptoCard : Claim7 := { stood := { row := plainBackUptoRow, standIns := [], harness := (true, "1b50f34ccb643ca66587109ebd88131d1e2fa79012ab042a423bd5c8f50745b4"), looks := true }, kinds := [], alts := [], laidByText := true, laidKinds := [.data], laidTests := true, laidLooks := .later }
def PlainBackUptoCardSaid : Prop := Claim7.holds Tryd.pinned (.plain (OpenSpec.upto plainBackSpec)) plainBackUptoCard

/-- THE SECOND FORM's CARD OF 'haystacklaw03.IntsLeast'. -/
def intsLeastUptoCard : Claim7 := { stood := { row := intsLeastUptoRow, standIns := [], harness := (true, "1b50f34ccb643ca66587109ebd88131d1e2fa79012ab042a423bd5c8f50745b4"), looks := true }, kinds := [], alts := [], laidByText := true, laidKinds := [.handle], laidTests := true, laidLooks := .later }
def IntsLeastUptoCardSaid : Prop := Claim7.holds Tryd.pinned (.plain (OpenSpec.upto intsLeastSpec)) intsLeastUptoCard

/-- THE SECOND FORM's CARD OF 'haystacklaw03.IntsTell'. -/
def intsTellUptoCard : Claim7 := { stood := { row := intsTellUptoRow, standIns := [], harness := (true, "1b50f34ccb643ca66587109ebd88131d1e2fa79012ab042a423bd5c8f50745b4"), looks := true }, kinds := [], alts := [], laidByText := true, laidKinds := [.handle], laidTests := true, laidLooks := .later }
def IntsTellUptoCardSaid : Prop := Claim7.holds Tryd.pinned (.plain (OpenSpec.upto intsTellSpec)) intsTellUptoCard

/-- THE SECOND FORM's CARD OF 'haystacklaw03.IntsBack'. -/
def intsBackUptoCard : Claim7 := { stood := { row := intsBackUptoRow, standIns := [], harness := (true, "1b50f34ccb643ca66587109ebd88131d1e2fa79012ab042a423bd5c8f50745b4"), looks := true }, kinds := [], alts := [], laidByText := true, laidKinds := [.handle], laidTests := true, laidLooks := .later }
def IntsBackUptoCardSaid : Prop := Claim7.holds Tryd.pinned (.plain (OpenSpec.upto intsBackSpec)) intsBackUptoCard

/-- THE SECOND FORM's CARD OF 'haystacklaw03.IntsPuts'. -/
def intsPutsUptoCard : Claim7 := { stood := { row := intsPutsUptoRow, standIns := [], harness := (true, "1b50f34ccb643ca66587109ebd88131d1e2fa79012ab042a423bd5c8f50745b4"), looks := true }, kinds := [], alts := [], laidByText := true, laidKinds := [.handle], laidTests := true, laidLooks := .later }
def IntsPutsUptoCardSaid : Prop := Claim7.holds Tryd.pinned (.plain (OpenSpec.upto intsPutsSpec)) intsPutsUptoCard

/-- THE SECOND FORM's CARD OF 'haystacklaw20.ConfigBack'. -/
def configBackUptoCard : Claim7 := { stood := { row := configBackUptoRow, standIns := [], harness := (true, "1b50f34ccb643ca66587109ebd88131d1e2fa79012ab042a423bd5c8f50745b4"), looks := true }, kinds := [], alts := [], laidByText := true, laidKinds := [.data, .data, .data], laidTests := true, laidLooks := .later }
def ConfigBackUptoCardSaid : Prop := Claim7.holds Tryd.pinned (.plain (OpenSpec.upto configBackSpec)) configBackUptoCard

/-- THE SECOND FORM's CARD OF 'haystacklaw20.ConfigApart'. -/
def configApartUptoCard : Claim7 := { stood := { row := configApartUptoRow, standIns := [], harness := (true, "1b50f34ccb643ca66587109ebd88131d1e2fa79012ab042a423bd5c8f50745b4"), looks := true }, kinds := [], alts := [], laidByText := true, laidKinds := [.data, .data, .data], laidTests := true, laidLooks := .later }
def ConfigApartUptoCardSaid : Prop := Claim7.holds Tryd.pinned (.plain (OpenSpec.upto configApartSpec)) configApartUptoCard

/-- THE SECOND FORM's CARD OF 'haystacklaw20.ConfigTells'. -/
def configTellsUptoCard : Claim7 := { stood := { row := configTellsUptoRow, standIns := [], harness := (true, "1b50f34ccb643ca66587109ebd88131d1e2fa79012ab042a423bd5c8f50745b4"), looks := true }, kinds := [], alts := [], laidByText := true, laidKinds := [.data, .data, .data], laidTests := true, laidLooks := .later }
def ConfigTellsUptoCardSaid : Prop := Claim7.holds Tryd.pinned (.plain (OpenSpec.upto configTellsSpec)) configTellsUptoCard

/-- THE SECOND FORM's CARD OF 'haystacklaw20.ConfigAll'. -/
def configAllUptoCard : Claim7 := { stood := { row := configAllUptoRow, standIns := [], harness := (true, "1b50f34ccb643ca66587109ebd88131d1e2fa79012ab042a423bd5c8f50745b4"), looks := true }, kinds := [], alts := [], laidByText := true, laidKinds := [.data, .data, .data], laidTests := true, laidLooks := .later }
def ConfigAllUptoCardSaid : Prop := Claim7.holds Tryd.pinned (.plain (OpenSpec.upto configAllSpec)) configAllUptoCard
end Rows
end Go.Proofs.YtapgclloopcbhaaDoor
