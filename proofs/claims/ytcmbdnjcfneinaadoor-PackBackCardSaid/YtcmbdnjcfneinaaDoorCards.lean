/-
  DERIVED. GIVEN WITH THE SEED: THE CARDS: each row of YtcmbdnjcfneinaaDoorRows.lean that lists a variable, with what it lists TIED to the program's text (the seventh form; the later family's looks); each row that meets fmt, with fmt's text TOLD by the authors' own Lean function (tested against real Go, not proved from fmt's source: count such statements apart). THE CARD IS WHAT COUNTS. Prove the row's statement (the work); the ties are given (YtcmbdnjcfneinaaDoorTie.lean); close each card by the builder's one call (the guide's Derived/Test/ToyasCard.lean, 'card_holds'). Laid BY PROGRAM, IN A SANDBOX (cutbox-door.mjs). By AI agents, Wed Nov 11 2026. No macro, syntax, notation, axiom, sorry.
-/
import Derived.Test.YtcmbdnjcfneinaaDoorRows
import GoSem.ClaimSeven
namespace Go.Proofs.YtcmbdnjcfneinaaDoor
namespace Rows

/-- THE TIED CARD OF 'tableaulaw19.PackBack'. -/
def packBackCard : Claim7 := { stood := { row := packBackRow, standIns := [], harness := (true, "de715c00f93e708d84228315571af0a3981d5a0f50dc002b2951170e7b7430a3"), looks := true }, kinds := [], alts := [], laidByText := true, laidKinds := [.handle, .sentinel], laidTests := true, laidLooks := .later }
def PackBackCardSaid : Prop := Claim7.holds Tryd.pinned (.plain (OpenSpec.ofChange packBackSpec)) packBackCard

/-- THE TIED CARD OF 'tableaulaw19.PackBurst'. -/
def packBurstCard : Claim7 := { stood := { row := packBurstRow, standIns := [], harness := (true, "de715c00f93e708d84228315571af0a3981d5a0f50dc002b2951170e7b7430a3"), looks := true }, kinds := [], alts := [], laidByText := true, laidKinds := [.handle, .sentinel], laidTests := true, laidLooks := .later }
def PackBurstCardSaid : Prop := Claim7.holds Tryd.pinned (.plain (OpenSpec.ofChange packBurstSpec)) packBurstCard

/-- THE TIED CARD OF 'tableaulaw19.PackCut'. -/
def packCutCard : Claim7 := { stood := { row := packCutRow, standIns := [], harness := (true, "de715c00f93e708d84228315571af0a3981d5a0f50dc002b2951170e7b7430a3"), looks := true }, kinds := [], alts := [], laidByText := true, laidKinds := [.handle, .sentinel], laidTests := true, laidLooks := .later }
def PackCutCardSaid : Prop := Claim7.holds Tryd.pinned (.plain (OpenSpec.ofChange packCutSpec)) packCutCard

/-- THE SECOND FORM's CARD OF 'tableaulaw19.PackBack'. -/
def packBackUptoCard : Claim7 := { stood := { row := packBackUptoRow, standIns := [], harness := (true, "de715c00f93e708d84228315571af0a3981d5a0f50dc002b2951170e7b7430a3"), looks := true }, kinds := [], alts := [], laidByText := true, laidKinds := [.handle, .sentinel], laidTests := true, laidLooks := .later }
def PackBackUptoCardSaid : Prop := Claim7.holds Tryd.pinned (.plain (OpenSpec.upto packBackSpec)) packBackUptoCard

/-- THE SECOND FORM's CARD OF 'tableaulaw19.PackBurst'. -/
def packBurstUptoCard : Claim7 := { stood := { row := packBurstUptoRow, standIns := [], harness := (true, "de715c00f93e708d84228315571af0a3981d5a0f50dc002b2951170e7b7430a3"), looks := true }, kinds := [], alts := [], laidByText := true, laidKinds := [.handle, .sentinel], laidTests := true, laidLooks := .later }
def PackBurstUptoCardSaid : Prop := Claim7.holds Tryd.pinned (.plain (OpenSpec.upto packBurstSpec)) packBurstUptoCard

/-- THE SECOND FORM's CARD OF 'tableaulaw19.PackCut'. -/
def packCutUptoCard : Claim7 := { stood := { row := packCutUptoRow, standIns := [], harness := (true, "de715c00f93e708d84228315571af0a3981d5a0f50dc002b2951170e7b7430a3"), looks := true }, kinds := [], alts := [], laidByText := true, laidKinds := [.handle, .sentinel], laidTests := true, laidLooks := .later }
def PackCutUptoCardSaid : Prop := Claim7.holds Tryd.pinned (.plain (OpenSpec.upto packCutSpec)) packCutUptoCard
end Rows
end Go.Proofs.YtcmbdnjcfneinaaDoor
