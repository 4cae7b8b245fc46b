/-
  No cell of these rows narrows 'for every input' (looked for: loops, veiled, ifaces, maps, wideKeys, modest, calm, conditions, laid).
  DERIVED. THE GIVEN ROWS OF THIS SEAT. 4 by the template 'for every input the law returns true; each argument reads behind the call as it read before'; 0 by the template 'total and deterministic' (their statements: YtgbikcliembkcaaTotals.lean).
  GIVEN WITH THE SEED: the statements are not yours to turn. If you find one false, say at which input.
  Laid BY PROGRAM, IN A SANDBOX (cutbox-rows.mjs): the forced cells as the released guide's own fill.sh prints them over the translation 4e5be21da2b4afe8… (all of the seat's roots in one cut). By AI agents, Wed Nov 11 2026. No macro, syntax, notation, axiom, sorry.
-/
import Derived.Test.YtgbikcliembkcaaChecked
import GoSem.Claim
import GoSem.ClaimJoined
import GoSem.ClaimMapViews
import Derived.JoinedTies
import Derived.KernelRfl
namespace Go.Proofs.Ytgbikcliembkcaa
/- THE CELL 'sum', in the pinned program and in every row, IS THE sha256 OF THE DUMP (.gsa) THAT YtgbikcliembkcaaProg.lean LOADS. Nothing in Lean hashes anything: it is a label: what it is worth is what the hold of that sum in a sandbox is worth. -/
noncomputable def Try.pinned : Pinned := { name := "ytgbikcliembkcaa", sum := "4e5be21da2b4afe860e1bd2993f31e7bfbd773bec05474f7aa12574d58b28768", checked := Try.checked }
namespace Rows
def none {H : Type} : Left H := { results := [], args := [] }

/-- 'tableaulaw05.StateChecks': WHATEVER THE INPUT: true; the input reads as it did. -/
def stateChecksSpec : ChangeSpec := { name := "stateChecks", fn := fun _ => fun
  | [d] => { results := [.lit (.bool true)], args := [d] }
  | _ => none }
def stateChecksRow : OpenClaim := { program := "ytgbikcliembkcaa", sum := "4e5be21da2b4afe860e1bd2993f31e7bfbd773bec05474f7aa12574d58b28768", func := "tableau/tableaulaw05.StateChecks", spec := "stateChecks", apart := false }
def StateChecksSaid : Prop := stateChecksRow.holds Try.pinned (OpenSpec.ofChange stateChecksSpec)

/-- ITS FALSE NEIGHBOUR: 'it returns false'. Refute it at one input. -/
def stateChecksWrong : ChangeSpec := { name := "stateChecks", fn := fun _ => fun
  | [d] => { results := [.lit (.bool false)], args := [d] }
  | _ => none }
def StateChecksWrongFalsely : Prop := stateChecksRow.holds Try.pinned (OpenSpec.ofChange stateChecksWrong)

/-- 'tableaulaw05.StateWheres': WHATEVER THE INPUT: true; the input reads as it did. -/
def stateWheresSpec : ChangeSpec := { name := "stateWheres", fn := fun _ => fun
  | [d1, d2] => { results := [.lit (.bool true)], args := [d1, d2] }
  | _ => none }
def stateWheresRow : OpenClaim := { program := "ytgbikcliembkcaa", sum := "4e5be21da2b4afe860e1bd2993f31e7bfbd773bec05474f7aa12574d58b28768", func := "tableau/tableaulaw05.StateWheres", spec := "stateWheres", apart := false }
def StateWheresSaid : Prop := stateWheresRow.holds Try.pinned (OpenSpec.ofChange stateWheresSpec)

/-- ITS FALSE NEIGHBOUR: 'it returns false'. Refute it at one input. -/
def stateWheresWrong : ChangeSpec := { name := "stateWheres", fn := fun _ => fun
  | [d1, d2] => { results := [.lit (.bool false)], args := [d1, d2] }
  | _ => none }
def StateWheresWrongFalsely : Prop := stateWheresRow.holds Try.pinned (OpenSpec.ofChange stateWheresWrong)

/-- 'tableaulaw05.StateStands': WHATEVER THE INPUT: true; the input reads as it did. -/
def stateStandsSpec : ChangeSpec := { name := "stateStands", fn := fun _ => fun
  | [d1, d2, d3] => { results := [.lit (.bool true)], args := [d1, d2, d3] }
  | _ => none }
def stateStandsRow : OpenClaim := { program := "ytgbikcliembkcaa", sum := "4e5be21da2b4afe860e1bd2993f31e7bfbd773bec05474f7aa12574d58b28768", func := "tableau/tableaulaw05.StateStands", spec := "stateStands", apart := false }
def StateStandsSaid : Prop := stateStandsRow.holds Try.pinned (OpenSpec.ofChange stateStandsSpec)

/-- ITS FALSE NEIGHBOUR: 'it returns false'. Refute it at one input. -/
def stateStandsWrong : ChangeSpec := { name := "stateStands", fn := fun _ => fun
  | [d1, d2, d3] => { results := [.lit (.bool false)], args := [d1, d2, d3] }
  | _ => none }
def StateStandsWrongFalsely : Prop := stateStandsRow.holds Try.pinned (OpenSpec.ofChange stateStandsWrong)

/-- 'tableaulaw05.StateBegins': WHATEVER THE INPUT: true; the input reads as it did. -/
def stateBeginsSpec : ChangeSpec := { name := "stateBegins", fn := fun _ => fun
  | [d] => { results := [.lit (.bool true)], args := [d] }
  | _ => none }
def stateBeginsRow : OpenClaim := { program := "ytgbikcliembkcaa", sum := "4e5be21da2b4afe860e1bd2993f31e7bfbd773bec05474f7aa12574d58b28768", func := "tableau/tableaulaw05.StateBegins", spec := "stateBegins", unfollowed := true, recurses := true, apart := false }
def StateBeginsSaid : Prop := stateBeginsRow.holds Try.pinned (OpenSpec.ofChange stateBeginsSpec)

/-- ITS FALSE NEIGHBOUR: 'it returns false'. Refute it at one input. -/
def stateBeginsWrong : ChangeSpec := { name := "stateBegins", fn := fun _ => fun
  | [d] => { results := [.lit (.bool false)], args := [d] }
  | _ => none }
def StateBeginsWrongFalsely : Prop := stateBeginsRow.holds Try.pinned (OpenSpec.ofChange stateBeginsWrong)

/- THE SECOND FORM. 'bulk': how many values and letters a reading holds, each counted each time it is reached (what is shared counts as often as it is met; a slice's spare places count too). A statement '..UptoSaid' is the law's where the arguments, and the package variables that the reading takes, are together of bulk at most 1048576: NARROWER than '..Said'. Prove '..Said' where nothing that the law and all that it calls make is longer than what came in: it says more and counts as full. Else prove '..UptoSaid'. A law counts once. -/
mutual
def uptoBulk {H : Type} : DataW H → Nat
  | .lit (.string bytes) => bytes.length + 1
  | .lit _ => 1
  | .nil => 1
  | .ptr d => uptoBulk d + 1
  | .slice elems spare => uptoBulkAll elems + uptoBulkAll spare + 1
  | .agg parts => uptoBulkAll parts + 1
  | .iface _ d => uptoBulk d + 1
  | .map entries => uptoBulkEntries entries + 1
  | .held _ => 1
def uptoBulkAll {H : Type} : List (DataW H) → Nat
  | [] => 0
  | d :: r => uptoBulk d + uptoBulkAll r
def uptoBulkEntries {H : Type} : List (Lit × DataW H) → Nat
  | [] => 0
  | x :: r => uptoBulkEntry x + uptoBulkEntries r
def uptoBulkEntry {H : Type} : Lit × DataW H → Nat
  | (.string bytes, d) => bytes.length + uptoBulk d + 1
  | (_, d) => uptoBulk d + 1
 end
def uptoSmall : (H : Type) → List (DataW H) → Bool := fun _ ds => decide (uptoBulkAll ds ≤ 1048576)
def OpenSpec.upto (s : _root_.Go.ChangeSpec) : _root_.Go.OpenSpec := { _root_.Go.OpenSpec.ofChange s with cond := some uptoSmall }

/-- 'tableaulaw05.StateChecks', WHERE WHAT IT READS IS OF BULK AT MOST 1048576: true; the input reads as it did. -/
def stateChecksUptoRow : OpenClaim := { program := "ytgbikcliembkcaa", sum := "4e5be21da2b4afe860e1bd2993f31e7bfbd773bec05474f7aa12574d58b28768", func := "tableau/tableaulaw05.StateChecks", spec := "stateChecks", apart := false, narrowed := true }
def StateChecksUptoSaid : Prop := stateChecksUptoRow.holds Try.pinned (OpenSpec.upto stateChecksSpec)

/-- 'tableaulaw05.StateWheres', WHERE WHAT IT READS IS OF BULK AT MOST 1048576: true; the input reads as it did. -/
def stateWheresUptoRow : OpenClaim := { program := "ytgbikcliembkcaa", sum := "4e5be21da2b4afe860e1bd2993f31e7bfbd773bec05474f7aa12574d58b28768", func := "tableau/tableaulaw05.StateWheres", spec := "stateWheres", apart := false, narrowed := true }
def StateWheresUptoSaid : Prop := stateWheresUptoRow.holds Try.pinned (OpenSpec.upto stateWheresSpec)

/-- 'tableaulaw05.StateStands', WHERE WHAT IT READS IS OF BULK AT MOST 1048576: true; the input reads as it did. -/
def stateStandsUptoRow : OpenClaim := { program := "ytgbikcliembkcaa", sum := "4e5be21da2b4afe860e1bd2993f31e7bfbd773bec05474f7aa12574d58b28768", func := "tableau/tableaulaw05.StateStands", spec := "stateStands", apart := false, narrowed := true }
def StateStandsUptoSaid : Prop := stateStandsUptoRow.holds Try.pinned (OpenSpec.upto stateStandsSpec)

/-- 'tableaulaw05.StateBegins', WHERE WHAT IT READS IS OF BULK AT MOST 1048576: true; the input reads as it did. -/
def stateBeginsUptoRow : OpenClaim := { program := "ytgbikcliembkcaa", sum := "4e5be21da2b4afe860e1bd2993f31e7bfbd773bec05474f7aa12574d58b28768", func := "tableau/tableaulaw05.StateBegins", spec := "stateBegins", unfollowed := true, recurses := true, apart := false, narrowed := true }
def StateBeginsUptoSaid : Prop := stateBeginsUptoRow.holds Try.pinned (OpenSpec.upto stateBeginsSpec)

end Rows
end Go.Proofs.Ytgbikcliembkcaa
