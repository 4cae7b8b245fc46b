/-
  No cell of these rows narrows 'for every input' (looked for: loops, veiled, ifaces, maps, wideKeys, modest, calm, conditions, laid).
  DERIVED. THE GIVEN ROWS OF THIS SEAT. 6 by the template 'for every input the law returns true; each argument reads behind the call as it read before'; 0 by the template 'total and deterministic' (their statements: YtalngbdjabjahaaTotals.lean).
  GIVEN WITH THE SEED: the statements are not yours to turn. If you find one false, say at which input.
  Laid BY PROGRAM, IN A SANDBOX (cutbox-rows.mjs): the forced cells as the released guide's own fill.sh prints them over the translation 8aa40906e5f73446… (all of the seat's roots in one cut). By AI agents, Wed Nov 11 2026. No macro, syntax, notation, axiom, sorry.
-/
import Derived.Test.YtalngbdjabjahaaChecked
import GoSem.Claim
import GoSem.ClaimJoined
import GoSem.ClaimMapViews
import Derived.JoinedTies
import Derived.KernelRfl
namespace Go.Proofs.Ytalngbdjabjahaa
/- THE CELL 'sum', in the pinned program and in every row, IS THE sha256 OF THE DUMP (.gsa) THAT YtalngbdjabjahaaProg.lean LOADS. Nothing in Lean hashes anything: it is a label: what it is worth is what the hold of that sum in a sandbox is worth. -/
noncomputable def Try.pinned : Pinned := { name := "ytalngbdjabjahaa", sum := "8aa40906e5f7344659a899ddd1277e84fb78b6a08acfd4ed2e0c909eb8698871", checked := Try.checked }
namespace Rows
def none {H : Type} : Left H := { results := [], args := [] }

/-- 'tableaulaw03.DiceProducts': WHATEVER THE INPUT: true; the input reads as it did. -/
def diceProductsSpec : ChangeSpec := { name := "diceProducts", fn := fun _ => fun
  | [d1, d2] => { results := [.lit (.bool true)], args := [d1, d2] }
  | _ => none }
def diceProductsRow : OpenClaim := { program := "ytalngbdjabjahaa", sum := "8aa40906e5f7344659a899ddd1277e84fb78b6a08acfd4ed2e0c909eb8698871", func := "tableau/tableaulaw03.DiceProducts", spec := "diceProducts", unfollowed := true, recurses := true, apart := false }
def DiceProductsSaid : Prop := diceProductsRow.holds Try.pinned (OpenSpec.ofChange diceProductsSpec)

/-- ITS FALSE NEIGHBOUR: 'it returns false'. Refute it at one input. -/
def diceProductsWrong : ChangeSpec := { name := "diceProducts", fn := fun _ => fun
  | [d1, d2] => { results := [.lit (.bool false)], args := [d1, d2] }
  | _ => none }
def DiceProductsWrongFalsely : Prop := diceProductsRow.holds Try.pinned (OpenSpec.ofChange diceProductsWrong)

/-- 'tableaulaw03.DiceEach': WHATEVER THE INPUT: true; the input reads as it did. -/
def diceEachSpec : ChangeSpec := { name := "diceEach", fn := fun _ => fun
  | [d1, d2, d3, d4] => { results := [.lit (.bool true)], args := [d1, d2, d3, d4] }
  | _ => none }
def diceEachRow : OpenClaim := { program := "ytalngbdjabjahaa", sum := "8aa40906e5f7344659a899ddd1277e84fb78b6a08acfd4ed2e0c909eb8698871", func := "tableau/tableaulaw03.DiceEach", spec := "diceEach", unfollowed := true, recurses := true, apart := false }
def DiceEachSaid : Prop := diceEachRow.holds Try.pinned (OpenSpec.ofChange diceEachSpec)

/-- ITS FALSE NEIGHBOUR: 'it returns false'. Refute it at one input. -/
def diceEachWrong : ChangeSpec := { name := "diceEach", fn := fun _ => fun
  | [d1, d2, d3, d4] => { results := [.lit (.bool false)], args := [d1, d2, d3, d4] }
  | _ => none }
def DiceEachWrongFalsely : Prop := diceEachRow.holds Try.pinned (OpenSpec.ofChange diceEachWrong)

/-- 'tableaulaw03.DiceGoesOn': WHATEVER THE INPUT: true; the input reads as it did. -/
def diceGoesOnSpec : ChangeSpec := { name := "diceGoesOn", fn := fun _ => fun
  | [d1, d2] => { results := [.lit (.bool true)], args := [d1, d2] }
  | _ => none }
def diceGoesOnRow : OpenClaim := { program := "ytalngbdjabjahaa", sum := "8aa40906e5f7344659a899ddd1277e84fb78b6a08acfd4ed2e0c909eb8698871", func := "tableau/tableaulaw03.DiceGoesOn", spec := "diceGoesOn", unfollowed := true, recurses := true, apart := false }
def DiceGoesOnSaid : Prop := diceGoesOnRow.holds Try.pinned (OpenSpec.ofChange diceGoesOnSpec)

/-- ITS FALSE NEIGHBOUR: 'it returns false'. Refute it at one input. -/
def diceGoesOnWrong : ChangeSpec := { name := "diceGoesOn", fn := fun _ => fun
  | [d1, d2] => { results := [.lit (.bool false)], args := [d1, d2] }
  | _ => none }
def DiceGoesOnWrongFalsely : Prop := diceGoesOnRow.holds Try.pinned (OpenSpec.ofChange diceGoesOnWrong)

/-- 'tableaulaw03.DiceBelow': WHATEVER THE INPUT: true; the input reads as it did. -/
def diceBelowSpec : ChangeSpec := { name := "diceBelow", fn := fun _ => fun
  | [d1, d2] => { results := [.lit (.bool true)], args := [d1, d2] }
  | _ => none }
def diceBelowRow : OpenClaim := { program := "ytalngbdjabjahaa", sum := "8aa40906e5f7344659a899ddd1277e84fb78b6a08acfd4ed2e0c909eb8698871", func := "tableau/tableaulaw03.DiceBelow", spec := "diceBelow", unfollowed := true, recurses := true, apart := false }
def DiceBelowSaid : Prop := diceBelowRow.holds Try.pinned (OpenSpec.ofChange diceBelowSpec)

/-- ITS FALSE NEIGHBOUR: 'it returns false'. Refute it at one input. -/
def diceBelowWrong : ChangeSpec := { name := "diceBelow", fn := fun _ => fun
  | [d1, d2] => { results := [.lit (.bool false)], args := [d1, d2] }
  | _ => none }
def DiceBelowWrongFalsely : Prop := diceBelowRow.holds Try.pinned (OpenSpec.ofChange diceBelowWrong)

/-- 'tableaulaw03.DiceWalks': WHATEVER THE INPUT: true; the input reads as it did. -/
def diceWalksSpec : ChangeSpec := { name := "diceWalks", fn := fun _ => fun
  | [d1, d2, d3] => { results := [.lit (.bool true)], args := [d1, d2, d3] }
  | _ => none }
def diceWalksRow : OpenClaim := { program := "ytalngbdjabjahaa", sum := "8aa40906e5f7344659a899ddd1277e84fb78b6a08acfd4ed2e0c909eb8698871", func := "tableau/tableaulaw03.DiceWalks", spec := "diceWalks", unfollowed := true, recurses := true, apart := false }
def DiceWalksSaid : Prop := diceWalksRow.holds Try.pinned (OpenSpec.ofChange diceWalksSpec)

/-- ITS FALSE NEIGHBOUR: 'it returns false'. Refute it at one input. -/
def diceWalksWrong : ChangeSpec := { name := "diceWalks", fn := fun _ => fun
  | [d1, d2, d3] => { results := [.lit (.bool false)], args := [d1, d2, d3] }
  | _ => none }
def DiceWalksWrongFalsely : Prop := diceWalksRow.holds Try.pinned (OpenSpec.ofChange diceWalksWrong)

/-- 'tableaulaw03.DiceNil': WHATEVER THE INPUT: true; the input reads as it did. -/
def diceNilSpec : ChangeSpec := { name := "diceNil", fn := fun _ => fun
  | [d] => { results := [.lit (.bool true)], args := [d] }
  | _ => none }
def diceNilRow : OpenClaim := { program := "ytalngbdjabjahaa", sum := "8aa40906e5f7344659a899ddd1277e84fb78b6a08acfd4ed2e0c909eb8698871", func := "tableau/tableaulaw03.DiceNil", spec := "diceNil", unfollowed := true, recurses := true, apart := false }
def DiceNilSaid : Prop := diceNilRow.holds Try.pinned (OpenSpec.ofChange diceNilSpec)

/-- ITS FALSE NEIGHBOUR: 'it returns false'. Refute it at one input. -/
def diceNilWrong : ChangeSpec := { name := "diceNil", fn := fun _ => fun
  | [d] => { results := [.lit (.bool false)], args := [d] }
  | _ => none }
def DiceNilWrongFalsely : Prop := diceNilRow.holds Try.pinned (OpenSpec.ofChange diceNilWrong)

/- THE SECOND FORM. 'bulk': how many values and letters a reading holds, each counted each time it is reached (what is shared counts as often as it is met; a slice's spare places count too). A statement '..UptoSaid' is the law's where the arguments, and the package variables that the reading takes, are together of bulk at most 1048576: NARROWER than '..Said'. Prove '..Said' where nothing that the law and all that it calls make is longer than what came in: it says more and counts as full. Else prove '..UptoSaid'. A law counts once. -/
mutual
def uptoBulk {H : Type} : DataW H → Nat
  | .lit (.string bytes) => bytes.length + 1
  | .lit _ => 1
  | .nil => 1
  | .ptr d => uptoBulk d + 1
  | .slice elems spare => uptoBulkAll elems + uptoBulkAll spare + 1
  | .agg parts => uptoBulkAll parts + 1
  | .iface _ d => uptoBulk d + 1
  | .map entries => uptoBulkEntries entries + 1
  | .held _ => 1
def uptoBulkAll {H : Type} : List (DataW H) → Nat
  | [] => 0
  | d :: r => uptoBulk d + uptoBulkAll r
def uptoBulkEntries {H : Type} : List (Lit × DataW H) → Nat
  | [] => 0
  | x :: r => uptoBulkEntry x + uptoBulkEntries r
def uptoBulkEntry {H : Type} : Lit × DataW H → Nat
  | (.string bytes, d) => bytes.length + uptoBulk d + 1
  | (_, d) => uptoBulk d + 1
 end
def uptoSmall : (H : Type) → List (DataW H) → Bool := fun _ ds => decide (uptoBulkAll ds ≤ 1048576)
def OpenSpec.upto (s : _root_.Go.ChangeSpec) : _root_.Go.OpenSpec := { _root_.Go.OpenSpec.ofChange s with cond := some uptoSmall }

/-- 'tableaulaw03.DiceProducts', WHERE WHAT IT READS IS OF BULK AT MOST 1048576: true; the input reads as it did. -/
def diceProductsUptoRow : OpenClaim := { program := "ytalngbdjabjahaa", sum := "8aa40906e5f7344659a899ddd1277e84fb78b6a08acfd4ed2e0c909eb8698871", func := "tableau/tableaulaw03.DiceProducts", spec := "diceProducts", unfollowed := true, recurses := true, apart := false, narrowed := true }
def DiceProductsUptoSaid : Prop := diceProductsUptoRow.holds Try.pinned (OpenSpec.upto diceProductsSpec)

/-- 'tableaulaw03.DiceEach', WHERE WHAT IT READS IS OF BULK AT MOST 1048576: true; the input reads as it did. -/
def diceEachUptoRow : OpenClaim := { program := "ytalngbdjabjahaa", sum := "8aa40906e5f7344659a899ddd1277e84fb78b6a08acfd4ed2e0c909eb8698871", func := "tableau/tableaulaw03.DiceEach", spec := "diceEach", unfollowed := true, recurses := true, apart := false, narrowed := true }
def DiceEachUptoSaid : Prop := diceEachUptoRow.holds Try.pinned (OpenSpec.upto diceEachSpec)

/-- 'tableaulaw03.DiceGoesOn', WHERE WHAT IT READS IS OF BULK AT MOST 1048576: true; the input reads as it did. -/
def diceGoesOnUptoRow : OpenClaim := { program := "ytalngbdjabjahaa", sum := "8aa40906e5f7344659a899ddd1277e84fb78b6a08acfd4ed2e0c909eb8698871", func := "tableau/tableaulaw03.DiceGoesOn", spec := "diceGoesOn", unfollowed := true, recurses := true, apart := false, narrowed := true }
def DiceGoesOnUptoSaid : Prop := diceGoesOnUptoRow.holds Try.pinned (OpenSpec.upto diceGoesOnSpec)

/-- 'tableaulaw03.DiceBelow', WHERE WHAT IT READS IS OF BULK AT MOST 1048576: true; the input reads as it did. -/
def diceBelowUptoRow : OpenClaim := { program := "ytalngbdjabjahaa", sum := "8aa40906e5f7344659a899ddd1277e84fb78b6a08acfd4ed2e0c909eb8698871", func := "tableau/tableaulaw03.DiceBelow", spec := "diceBelow", unfollowed := true, recurses := true, apart := false, narrowed := true }
def DiceBelowUptoSaid : Prop := diceBelowUptoRow.holds Try.pinned (OpenSpec.upto diceBelowSpec)

/-- 'tableaulaw03.DiceWalks', WHERE WHAT IT READS IS OF BULK AT MOST 1048576: true; the input reads as it did. -/
def diceWalksUptoRow : OpenClaim := { program := "ytalngbdjabjahaa", sum := "8aa40906e5f7344659a899ddd1277e84fb78b6a08acfd4ed2e0c909eb8698871", func := "tableau/tableaulaw03.DiceWalks", spec := "diceWalks", unfollowed := true, recurses := true, apart := false, narrowed := true }
def DiceWalksUptoSaid : Prop := diceWalksUptoRow.holds Try.pinned (OpenSpec.upto diceWalksSpec)

/-- 'tableaulaw03.DiceNil', WHERE WHAT IT READS IS OF BULK AT MOST 1048576: true; the input reads as it did. -/
def diceNilUptoRow : OpenClaim := { program := "ytalngbdjabjahaa", sum := "8aa40906e5f7344659a899ddd1277e84fb78b6a08acfd4ed2e0c909eb8698871", func := "tableau/tableaulaw03.DiceNil", spec := "diceNil", unfollowed := true, recurses := true, apart := false, narrowed := true }
def DiceNilUptoSaid : Prop := diceNilUptoRow.holds Try.pinned (OpenSpec.upto diceNilSpec)

end Rows
end Go.Proofs.Ytalngbdjabjahaa
