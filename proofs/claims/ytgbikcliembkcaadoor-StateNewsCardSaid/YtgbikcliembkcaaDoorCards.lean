/-
  DERIVED. GIVEN WITH THE SEED: THE CARDS: each row of YtgbikcliembkcaaDoorRows.lean that lists a variable, with what it lists TIED to the program's text (the seventh form; the later family's looks); each row that meets fmt, with fmt's text TOLD by the authors' own Lean function (tested against real Go, not proved from fmt's source: count such statements apart). THE CARD IS WHAT COUNTS. Prove the row's statement (the work); the ties are given (YtgbikcliembkcaaDoorTie.lean); close each card by the builder's one call (the guide's Derived/Test/ToyasCard.lean, 'card_holds'). Laid BY PROGRAM, IN A SANDBOX (cutbox-door.mjs). By AI agents, Wed Nov 11 2026. No macro, syntax, notation, axiom, sorry.
-/
import Derived.Test.YtgbikcliembkcaaDoorRows
import GoSem.ClaimSeven
namespace Go.Proofs.YtgbikcliembkcaaDoor
namespace Rows

/-- THE TIED CARD OF 'tableaulaw05.StateNews'. -/
def stateNewsCard : Claim7 := { stood := { row := stateNewsRow, standIns := [], harness := (true, "5deab2623d18103fec2fcc75e43211b05adaaa5024303a5dfca378e202255294"), looks := false }, kinds := [], alts := [], laidByText := true, laidKinds := [.data, .data, .data], laidTests := true, laidLooks := .later }
def StateNewsCardSaid : Prop := Claim7.holds Tryd.pinned (.plain (OpenSpec.ofChange stateNewsSpec)) stateNewsCard

/-- THE TIED CARD OF 'tableaulaw05.StateCopies'. -/
def stateCopiesCard : Claim7 := { stood := { row := stateCopiesRow, standIns := [], harness := (true, "5deab2623d18103fec2fcc75e43211b05adaaa5024303a5dfca378e202255294"), looks := false }, kinds := [], alts := [], laidByText := true, laidKinds := [.data, .data, .data], laidTests := true, laidLooks := .later }
def StateCopiesCardSaid : Prop := Claim7.holds Tryd.pinned (.plain (OpenSpec.ofChange stateCopiesSpec)) stateCopiesCard

/-- THE SECOND FORM's CARD OF 'tableaulaw05.StateNews'. -/
def stateNewsUptoCard : Claim7 := { stood := { row := stateNewsUptoRow, standIns := [], harness := (true, "5deab2623d18103fec2fcc75e43211b05adaaa5024303a5dfca378e202255294"), looks := false }, kinds := [], alts := [], laidByText := true, laidKinds := [.data, .data, .data], laidTests := true, laidLooks := .later }
def StateNewsUptoCardSaid : Prop := Claim7.holds Tryd.pinned (.plain (OpenSpec.upto stateNewsSpec)) stateNewsUptoCard

/-- THE SECOND FORM's CARD OF 'tableaulaw05.StateCopies'. -/
def stateCopiesUptoCard : Claim7 := { stood := { row := stateCopiesUptoRow, standIns := [], harness := (true, "5deab2623d18103fec2fcc75e43211b05adaaa5024303a5dfca378e202255294"), looks := false }, kinds := [], alts := [], laidByText := true, laidKinds := [.data, .data, .data], laidTests := true, laidLooks := .later }
def StateCopiesUptoCardSaid : Prop := Claim7.holds Tryd.pinned (.plain (OpenSpec.upto stateCopiesSpec)) stateCopiesUptoCard
end Rows
end Go.Proofs.YtgbikcliembkcaaDoor
