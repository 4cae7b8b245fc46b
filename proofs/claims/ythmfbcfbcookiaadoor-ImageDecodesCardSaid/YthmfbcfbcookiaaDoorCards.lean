/-
  DERIVED. GIVEN WITH THE SEED: THE CARDS: each row of YthmfbcfbcookiaaDoorRows.lean that lists a variable, with what it lists TIED to the program's text (the seventh form; the later family's looks); each row that meets fmt, with fmt's text TOLD by the authors' own Lean function (tested against real Go, not proved from fmt's source: count such statements apart). THE CARD IS WHAT COUNTS. Prove the row's statement (the work); the ties are given (YthmfbcfbcookiaaDoorTie.lean); close each card by the builder's one call (the guide's Derived/Test/ToyasCard.lean, 'card_holds'). Laid BY PROGRAM, IN A SANDBOX (cutbox-door.mjs). By AI agents, Wed Nov 11 2026. No macro, syntax, notation, axiom, sorry.
-/
import Derived.Test.YthmfbcfbcookiaaDoorRows
import GoSem.ClaimSeven
namespace Go.Proofs.YthmfbcfbcookiaaDoor
namespace Rows

/-- THE TIED CARD OF 'tableaulaw07.ImageBack'. -/
def imageBackCard : Claim7 := { stood := { row := imageBackRow, standIns := [], harness := (true, "ea57a5ab42cce588c808dd543943b27a9180c6ae3487fafe93aeaf07edc6b854"), looks := false }, kinds := [], alts := [], laidByText := true, laidKinds := [.sentinel], laidTests := true, laidLooks := .later }
def ImageBackCardSaid : Prop := Claim7.holds Tryd.pinned (.plain (OpenSpec.ofChange imageBackSpec)) imageBackCard

/-- THE TIED CARD OF 'tableaulaw07.ImageCut'. -/
def imageCutCard : Claim7 := { stood := { row := imageCutRow, standIns := [], harness := (true, "ea57a5ab42cce588c808dd543943b27a9180c6ae3487fafe93aeaf07edc6b854"), looks := false }, kinds := [], alts := [], laidByText := true, laidKinds := [.sentinel], laidTests := true, laidLooks := .later }
def ImageCutCardSaid : Prop := Claim7.holds Tryd.pinned (.plain (OpenSpec.ofChange imageCutSpec)) imageCutCard

/-- THE TIED CARD OF 'tableaulaw07.ImageSame'. -/
def imageSameCard : Claim7 := { stood := { row := imageSameRow, standIns := [], harness := (true, "ea57a5ab42cce588c808dd543943b27a9180c6ae3487fafe93aeaf07edc6b854"), looks := false }, kinds := [], alts := [], laidByText := true, laidKinds := [.sentinel], laidTests := true, laidLooks := .later }
def ImageSameCardSaid : Prop := Claim7.holds Tryd.pinned (.plain (OpenSpec.ofChange imageSameSpec)) imageSameCard

/-- THE TIED CARD OF 'tableaulaw07.ImageDecodes'. -/
def imageDecodesCard : Claim7 := { stood := { row := imageDecodesRow, standIns := [], harness := (true, "ea57a5ab42cce588c808dd543943b27a9180c6ae3487fafe93aeaf07edc6b854"), looks := false }, kinds := [], alts := [], laidByText := true, laidKinds := [.data, .data, .data, .sentinel], laidTests := true, laidLooks := .later }
def ImageDecodesCardSaid : Prop := Claim7.holds Tryd.pinned (.plain (OpenSpec.ofChange imageDecodesSpec)) imageDecodesCard

/-- THE SECOND FORM's CARD OF 'tableaulaw07.ImageBack'. -/
def imageBackUptoCard : Claim7 := { stood := { row := imageBackUptoRow, standIns := [], harness := (true, "ea57a5ab42cce588c808dd543943b27a9180c6ae3487fafe93aeaf07edc6b854"), looks := false }, kinds := [], alts := [], laidByText := true, laidKinds := [.sentinel], laidTests := true, laidLooks := .later }
def ImageBackUptoCardSaid : Prop := Claim7.holds Tryd.pinned (.plain (OpenSpec.upto imageBackSpec)) imageBackUptoCard

/-- THE SECOND FORM's CARD OF 'tableaulaw07.ImageCut'. -/
def imageCutUptoCard : Claim7 := { stood := { row := imageCutUptoRow, standIns := [], harness := (true, "ea57a5ab42cce588c808dd543943b27a9180c6ae3487fafe93aeaf07edc6b854"), looks := false }, kinds := [], alts := [], laidByText := true, laidKinds := [.sentinel], laidTests := true, laidLooks := .later }
def ImageCutUptoCardSaid : Prop := Claim7.holds Tryd.pinned (.plain (OpenSpec.upto imageCutSpec)) imageCutUptoCard

/-- THE SECOND FORM's CARD OF 'tableaulaw07.ImageSame'. -/
def imageSameUptoCard : Claim7 := { stood := { row := imageSameUptoRow, standIns := [], harness := (true, "ea57a5ab42cce588c808dd543943b27a9180c6ae3487fafe93aeaf07edc6b854"), looks := false }, kinds := [], alts := [], laidByText := true, laidKinds := [.sentinel], laidTests := true, laidLooks := .later }
def ImageSameUptoCardSaid : Prop := Claim7.holds Tryd.pinned (.plain (OpenSpec.upto imageSameSpec)) imageSameUptoCard

/-- THE SECOND FORM's CARD OF 'tableaulaw07.ImageDecodes'. -/
def imageDecodesUptoCard : Claim7 := { stood := { row := imageDecodesUptoRow, standIns := [], harness := (true, "ea57a5ab42cce588c808dd543943b27a9180c6ae3487fafe93aeaf07edc6b854"), looks := false }, kinds := [], alts := [], laidByText := true, laidKinds := [.data, .data, .data, .sentinel], laidTests := true, laidLooks := .later }
def ImageDecodesUptoCardSaid : Prop := Claim7.holds Tryd.pinned (.plain (OpenSpec.upto imageDecodesSpec)) imageDecodesUptoCard
end Rows
end Go.Proofs.YthmfbcfbcookiaaDoor
