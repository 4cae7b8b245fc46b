/-
  DERIVED. GIVEN WITH THE SEED: THE CARDS: each row of YtcmbdnjcfneinaaGreatDoorRows.lean that lists a variable, with what it lists TIED to the program's text (the seventh form; the later family's looks); each row that meets fmt, with fmt's text TOLD by the authors' own Lean function (tested against real Go, not proved from fmt's source: count such statements apart). THE CARD IS WHAT COUNTS. Prove the row's statement (the work); the ties are given (YtcmbdnjcfneinaaGreatDoorTie.lean); close each card by the builder's one call (the guide's Derived/Test/ToyasCard.lean, 'card_holds'). Laid BY PROGRAM, IN A SANDBOX (cutbox-door.mjs). By AI agents, Wed Nov 11 2026. No macro, syntax, notation, axiom, sorry.
-/
import Derived.Test.YtcmbdnjcfneinaaGreatDoorRows
import GoSem.ClaimSeven
namespace Go.Proofs.YtcmbdnjcfneinaaGreatDoor
namespace Rows

/-- THE TIED CARD OF 'tableaulaw19.PackChecks'. -/
def packChecksCard : Claim7 := { stood := { row := packChecksRow, standIns := [], harness := (true, "7ec0ad55d3354f52aea780a735bd2434ee4ea5db52afc32ed44ecce17283086d"), looks := true }, kinds := [], alts := [], laidByText := true, laidKinds := [.data, .data, .data, .handle, .sentinel], laidTests := true, laidLooks := .later }
def PackChecksCardSaid : Prop := Claim7.holds Tryz.pinned (.plain (OpenSpec.ofChange packChecksSpec)) packChecksCard

/-- THE TIED CARD OF 'tableaulaw19.PackDecodes'. -/
def packDecodesCard : Claim7 := { stood := { row := packDecodesRow, standIns := [], harness := (true, "7ec0ad55d3354f52aea780a735bd2434ee4ea5db52afc32ed44ecce17283086d"), looks := true }, kinds := [], alts := [], laidByText := true, laidKinds := [.data, .data, .data, .handle, .sentinel], laidTests := true, laidLooks := .later }
def PackDecodesCardSaid : Prop := Claim7.holds Tryz.pinned (.plain (OpenSpec.ofChange packDecodesSpec)) packDecodesCard

/-- THE SECOND FORM's CARD OF 'tableaulaw19.PackChecks'. -/
def packChecksUptoCard : Claim7 := { stood := { row := packChecksUptoRow, standIns := [], harness := (true, "7ec0ad55d3354f52aea780a735bd2434ee4ea5db52afc32ed44ecce17283086d"), looks := true }, kinds := [], alts := [], laidByText := true, laidKinds := [.data, .data, .data, .handle, .sentinel], laidTests := true, laidLooks := .later }
def PackChecksUptoCardSaid : Prop := Claim7.holds Tryz.pinned (.plain (OpenSpec.upto packChecksSpec)) packChecksUptoCard

/-- THE SECOND FORM's CARD OF 'tableaulaw19.PackDecodes'. -/
def packDecodesUptoCard : Claim7 := { stood := { row := packDecodesUptoRow, standIns := [], harness := (true, "7ec0ad55d3354f52aea780a735bd2434ee4ea5db52afc32ed44ecce17283086d"), looks := true }, kinds := [], alts := [], laidByText := true, laidKinds := [.data, .data, .data, .handle, .sentinel], laidTests := true, laidLooks := .later }
def PackDecodesUptoCardSaid : Prop := Claim7.holds Tryz.pinned (.plain (OpenSpec.upto packDecodesSpec)) packDecodesUptoCard
end Rows
end Go.Proofs.YtcmbdnjcfneinaaGreatDoor
