/-
  DERIVED. GIVEN WITH THE SEED: THE CARDS: each row of YtalngbdjabjahaaDoorRows.lean that lists a variable, with what it lists TIED to the program's text (the seventh form; the later family's looks); each row that meets fmt, with fmt's text TOLD by the authors' own Lean function (tested against real Go, not proved from fmt's source: count such statements apart). THE CARD IS WHAT COUNTS. Prove the row's statement (the work); the ties are given (YtalngbdjabjahaaDoorTie.lean); close each card by the builder's one call (the guide's Derived/Test/ToyasCard.lean, 'card_holds'). Laid BY PROGRAM, IN A SANDBOX (cutbox-door.mjs). By AI agents, Wed Nov 11 2026. No macro, syntax, notation, axiom, sorry.
-/
import Derived.Test.YtalngbdjabjahaaDoorRows
import GoSem.ClaimSeven
namespace Go.Proofs.YtalngbdjabjahaaDoor
namespace Rows

/-- THE TIED CARD OF 'tableaulaw03.DiceShuffles'. -/
def diceShufflesCard : Claim7 := { stood := { row := diceShufflesRow, standIns := [], harness := (true, "51dffe5f78f23d8e58933ee542892896f6611d45e8b2ead27caf5af3d938d83e"), looks := false }, kinds := [], alts := [], laidByText := true, laidKinds := [.data, .data, .data], laidTests := true, laidLooks := .later }
def DiceShufflesCardSaid : Prop := Claim7.holds Tryd.pinned (.plain (OpenSpec.ofChange diceShufflesSpec)) diceShufflesCard

/-- THE TIED CARD OF 'tableaulaw03.DiceDraws'. -/
def diceDrawsCard : Claim7 := { stood := { row := diceDrawsRow, standIns := [], harness := (true, "51dffe5f78f23d8e58933ee542892896f6611d45e8b2ead27caf5af3d938d83e"), looks := false }, kinds := [], alts := [], laidByText := true, laidKinds := [.data, .data, .data], laidTests := true, laidLooks := .later }
def DiceDrawsCardSaid : Prop := Claim7.holds Tryd.pinned (.plain (OpenSpec.ofChange diceDrawsSpec)) diceDrawsCard

/-- THE SECOND FORM's CARD OF 'tableaulaw03.DiceShuffles'. -/
def diceShufflesUptoCard : Claim7 := { stood := { row := diceShufflesUptoRow, standIns := [], harness := (true, "51dffe5f78f23d8e58933ee542892896f6611d45e8b2ead27caf5af3d938d83e"), looks := false }, kinds := [], alts := [], laidByText := true, laidKinds := [.data, .data, .data], laidTests := true, laidLooks := .later }
def DiceShufflesUptoCardSaid : Prop := Claim7.holds Tryd.pinned (.plain (OpenSpec.upto diceShufflesSpec)) diceShufflesUptoCard

/-- THE SECOND FORM's CARD OF 'tableaulaw03.DiceDraws'. -/
def diceDrawsUptoCard : Claim7 := { stood := { row := diceDrawsUptoRow, standIns := [], harness := (true, "51dffe5f78f23d8e58933ee542892896f6611d45e8b2ead27caf5af3d938d83e"), looks := false }, kinds := [], alts := [], laidByText := true, laidKinds := [.data, .data, .data], laidTests := true, laidLooks := .later }
def DiceDrawsUptoCardSaid : Prop := Claim7.holds Tryd.pinned (.plain (OpenSpec.upto diceDrawsSpec)) diceDrawsUptoCard
end Rows
end Go.Proofs.YtalngbdjabjahaaDoor
