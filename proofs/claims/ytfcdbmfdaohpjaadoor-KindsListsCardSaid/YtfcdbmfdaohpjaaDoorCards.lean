/-
  DERIVED. GIVEN WITH THE SEED: THE CARDS: each row of YtfcdbmfdaohpjaaDoorRows.lean that lists a variable, with what it lists TIED to the program's text (the seventh form; the later family's looks); each row that meets fmt, with fmt's text TOLD by the authors' own Lean function (tested against real Go, not proved from fmt's source: count such statements apart). THE CARD IS WHAT COUNTS. Prove the row's statement (the work); the ties are given (YtfcdbmfdaohpjaaDoorTie.lean); close each card by the builder's one call (the guide's Derived/Test/ToyasCard.lean, 'card_holds'). Laid BY PROGRAM, IN A SANDBOX (cutbox-door.mjs). By AI agents, Wed Nov 11 2026. No macro, syntax, notation, axiom, sorry.
-/
import Derived.Test.YtfcdbmfdaohpjaaDoorRows
import GoSem.ClaimSeven
namespace Go.Proofs.YtfcdbmfdaohpjaaDoor
namespace Rows

/-- THE TIED CARD OF 'tableaulaw12.KindsLists'. -/
def kindsListsCard : Claim7 := { stood := { row := kindsListsRow, standIns := [], harness := (true, "83de5dbd51c20597405805c81cbcbd7669517900bb4a7a5f632a5fb8d79c076c"), looks := false }, kinds := [], alts := [], laidByText := true, laidKinds := [.data, .data, .data], laidTests := true, laidLooks := .later }
def KindsListsCardSaid : Prop := Claim7.holds Tryd.pinned (.plain (OpenSpec.ofChange kindsListsSpec)) kindsListsCard

/-- THE TIED CARD OF 'tableaulaw12.KindsNames'. -/
def kindsNamesCard : Claim7 := { stood := { row := kindsNamesRow, standIns := [], harness := (true, "83de5dbd51c20597405805c81cbcbd7669517900bb4a7a5f632a5fb8d79c076c"), looks := false }, kinds := [], alts := [], laidByText := true, laidKinds := [.data, .data, .data], laidTests := true, laidLooks := .later }
def KindsNamesCardSaid : Prop := Claim7.holds Tryd.pinned (.plain (OpenSpec.ofChange kindsNamesSpec)) kindsNamesCard

/-- THE SECOND FORM's CARD OF 'tableaulaw12.KindsLists'. -/
def kindsListsUptoCard : Claim7 := { stood := { row := kindsListsUptoRow, standIns := [], harness := (true, "83de5dbd51c20597405805c81cbcbd7669517900bb4a7a5f632a5fb8d79c076c"), looks := false }, kinds := [], alts := [], laidByText := true, laidKinds := [.data, .data, .data], laidTests := true, laidLooks := .later }
def KindsListsUptoCardSaid : Prop := Claim7.holds Tryd.pinned (.plain (OpenSpec.upto kindsListsSpec)) kindsListsUptoCard

/-- THE SECOND FORM's CARD OF 'tableaulaw12.KindsNames'. -/
def kindsNamesUptoCard : Claim7 := { stood := { row := kindsNamesUptoRow, standIns := [], harness := (true, "83de5dbd51c20597405805c81cbcbd7669517900bb4a7a5f632a5fb8d79c076c"), looks := false }, kinds := [], alts := [], laidByText := true, laidKinds := [.data, .data, .data], laidTests := true, laidLooks := .later }
def KindsNamesUptoCardSaid : Prop := Claim7.holds Tryd.pinned (.plain (OpenSpec.upto kindsNamesSpec)) kindsNamesUptoCard
end Rows
end Go.Proofs.YtfcdbmfdaohpjaaDoor
