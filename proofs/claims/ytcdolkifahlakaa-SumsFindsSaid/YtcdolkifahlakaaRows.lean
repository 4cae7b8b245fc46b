/-
  No cell of these rows narrows 'for every input' (looked for: loops, veiled, ifaces, maps, wideKeys, modest, calm, conditions, laid).
  DERIVED. THE GIVEN ROWS OF THIS SEAT. 6 by the template 'for every input the law returns true; each argument reads behind the call as it read before'; 0 by the template 'total and deterministic' (their statements: YtcdolkifahlakaaTotals.lean).
  GIVEN WITH THE SEED: the statements are not yours to turn. If you find one false, say at which input.
  Laid BY PROGRAM, IN A SANDBOX (cutbox-rows.mjs): the forced cells as the released guide's own fill.sh prints them over the translation 0761dfb2053f65d4… (all of the seat's roots in one cut). By AI agents, Wed Nov 11 2026. No macro, syntax, notation, axiom, sorry.
-/
import Derived.Test.YtcdolkifahlakaaChecked
import GoSem.Claim
import GoSem.ClaimJoined
import GoSem.ClaimMapViews
import Derived.JoinedTies
import Derived.KernelRfl
namespace Go.Proofs.Ytcdolkifahlakaa
/- THE CELL 'sum', in the pinned program and in every row, IS THE sha256 OF THE DUMP (.gsa) THAT YtcdolkifahlakaaProg.lean LOADS. Nothing in Lean hashes anything: it is a label: what it is worth is what the hold of that sum in a sandbox is worth. -/
noncomputable def Try.pinned : Pinned := { name := "ytcdolkifahlakaa", sum := "0761dfb2053f65d47b8a317809a6bba6c0bc785511f71924ae3df91e47bfce08", checked := Try.checked }
namespace Rows
def none {H : Type} : Left H := { results := [], args := [] }

/-- 'tableaulaw02.SumsCrcs': WHATEVER THE INPUT: true; the input reads as it did. -/
def sumsCrcsSpec : ChangeSpec := { name := "sumsCrcs", fn := fun _ => fun
  | [d1, d2] => { results := [.lit (.bool true)], args := [d1, d2] }
  | _ => none }
def sumsCrcsRow : OpenClaim := { program := "ytcdolkifahlakaa", sum := "0761dfb2053f65d47b8a317809a6bba6c0bc785511f71924ae3df91e47bfce08", func := "tableau/tableaulaw02.SumsCrcs", spec := "sumsCrcs", apart := false }
def SumsCrcsSaid : Prop := sumsCrcsRow.holds Try.pinned (OpenSpec.ofChange sumsCrcsSpec)

/-- ITS FALSE NEIGHBOUR: 'it returns false'. Refute it at one input. -/
def sumsCrcsWrong : ChangeSpec := { name := "sumsCrcs", fn := fun _ => fun
  | [d1, d2] => { results := [.lit (.bool false)], args := [d1, d2] }
  | _ => none }
def SumsCrcsWrongFalsely : Prop := sumsCrcsRow.holds Try.pinned (OpenSpec.ofChange sumsCrcsWrong)

/-- 'tableaulaw02.SumsTable': WHATEVER THE INPUT: true; the input reads as it did. -/
def sumsTableSpec : ChangeSpec := { name := "sumsTable", fn := fun _ => fun
  | [d1, d2] => { results := [.lit (.bool true)], args := [d1, d2] }
  | _ => none }
def sumsTableRow : OpenClaim := { program := "ytcdolkifahlakaa", sum := "0761dfb2053f65d47b8a317809a6bba6c0bc785511f71924ae3df91e47bfce08", func := "tableau/tableaulaw02.SumsTable", spec := "sumsTable", apart := false }
def SumsTableSaid : Prop := sumsTableRow.holds Try.pinned (OpenSpec.ofChange sumsTableSpec)

/-- ITS FALSE NEIGHBOUR: 'it returns false'. Refute it at one input. -/
def sumsTableWrong : ChangeSpec := { name := "sumsTable", fn := fun _ => fun
  | [d1, d2] => { results := [.lit (.bool false)], args := [d1, d2] }
  | _ => none }
def SumsTableWrongFalsely : Prop := sumsTableRow.holds Try.pinned (OpenSpec.ofChange sumsTableWrong)

/-- 'tableaulaw02.SumsBursts': WHATEVER THE INPUT: true; the input reads as it did. -/
def sumsBurstsSpec : ChangeSpec := { name := "sumsBursts", fn := fun _ => fun
  | [d1, d2] => { results := [.lit (.bool true)], args := [d1, d2] }
  | _ => none }
def sumsBurstsRow : OpenClaim := { program := "ytcdolkifahlakaa", sum := "0761dfb2053f65d47b8a317809a6bba6c0bc785511f71924ae3df91e47bfce08", func := "tableau/tableaulaw02.SumsBursts", spec := "sumsBursts", apart := false }
def SumsBurstsSaid : Prop := sumsBurstsRow.holds Try.pinned (OpenSpec.ofChange sumsBurstsSpec)

/-- ITS FALSE NEIGHBOUR: 'it returns false'. Refute it at one input. -/
def sumsBurstsWrong : ChangeSpec := { name := "sumsBursts", fn := fun _ => fun
  | [d1, d2] => { results := [.lit (.bool false)], args := [d1, d2] }
  | _ => none }
def SumsBurstsWrongFalsely : Prop := sumsBurstsRow.holds Try.pinned (OpenSpec.ofChange sumsBurstsWrong)

/-- 'tableaulaw02.SumsFinds': WHATEVER THE INPUT: true; the input reads as it did. -/
def sumsFindsSpec : ChangeSpec := { name := "sumsFinds", fn := fun _ => fun
  | [d1, d2] => { results := [.lit (.bool true)], args := [d1, d2] }
  | _ => none }
def sumsFindsRow : OpenClaim := { program := "ytcdolkifahlakaa", sum := "0761dfb2053f65d47b8a317809a6bba6c0bc785511f71924ae3df91e47bfce08", func := "tableau/tableaulaw02.SumsFinds", spec := "sumsFinds", apart := false }
def SumsFindsSaid : Prop := sumsFindsRow.holds Try.pinned (OpenSpec.ofChange sumsFindsSpec)

/-- ITS FALSE NEIGHBOUR: 'it returns false'. Refute it at one input. -/
def sumsFindsWrong : ChangeSpec := { name := "sumsFinds", fn := fun _ => fun
  | [d1, d2] => { results := [.lit (.bool false)], args := [d1, d2] }
  | _ => none }
def SumsFindsWrongFalsely : Prop := sumsFindsRow.holds Try.pinned (OpenSpec.ofChange sumsFindsWrong)

/-- 'tableaulaw02.SumsJoins': WHATEVER THE INPUT: true; the input reads as it did. -/
def sumsJoinsSpec : ChangeSpec := { name := "sumsJoins", fn := fun _ => fun
  | [d1, d2, d3] => { results := [.lit (.bool true)], args := [d1, d2, d3] }
  | _ => none }
def sumsJoinsRow : OpenClaim := { program := "ytcdolkifahlakaa", sum := "0761dfb2053f65d47b8a317809a6bba6c0bc785511f71924ae3df91e47bfce08", func := "tableau/tableaulaw02.SumsJoins", spec := "sumsJoins", apart := false }
def SumsJoinsSaid : Prop := sumsJoinsRow.holds Try.pinned (OpenSpec.ofChange sumsJoinsSpec)

/-- ITS FALSE NEIGHBOUR: 'it returns false'. Refute it at one input. -/
def sumsJoinsWrong : ChangeSpec := { name := "sumsJoins", fn := fun _ => fun
  | [d1, d2, d3] => { results := [.lit (.bool false)], args := [d1, d2, d3] }
  | _ => none }
def SumsJoinsWrongFalsely : Prop := sumsJoinsRow.holds Try.pinned (OpenSpec.ofChange sumsJoinsWrong)

/-- 'tableaulaw02.SumsGoes': WHATEVER THE INPUT: true; the input reads as it did. -/
def sumsGoesSpec : ChangeSpec := { name := "sumsGoes", fn := fun _ => fun
  | [d1, d2, d3] => { results := [.lit (.bool true)], args := [d1, d2, d3] }
  | _ => none }
def sumsGoesRow : OpenClaim := { program := "ytcdolkifahlakaa", sum := "0761dfb2053f65d47b8a317809a6bba6c0bc785511f71924ae3df91e47bfce08", func := "tableau/tableaulaw02.SumsGoes", spec := "sumsGoes", apart := false }
def SumsGoesSaid : Prop := sumsGoesRow.holds Try.pinned (OpenSpec.ofChange sumsGoesSpec)

/-- ITS FALSE NEIGHBOUR: 'it returns false'. Refute it at one input. -/
def sumsGoesWrong : ChangeSpec := { name := "sumsGoes", fn := fun _ => fun
  | [d1, d2, d3] => { results := [.lit (.bool false)], args := [d1, d2, d3] }
  | _ => none }
def SumsGoesWrongFalsely : Prop := sumsGoesRow.holds Try.pinned (OpenSpec.ofChange sumsGoesWrong)

/- THE SECOND FORM. 'bulk': how many values and letters a reading holds, each counted each time it is reached (what is shared counts as often as it is met; a slice's spare places count too). A statement '..UptoSaid' is the law's where the arguments, and the package variables that the reading takes, are together of bulk at most 1048576: NARROWER than '..Said'. Prove '..Said' where nothing that the law and all that it calls make is longer than what came in: it says more and counts as full. Else prove '..UptoSaid'. A law counts once. -/
mutual
def uptoBulk {H : Type} : DataW H → Nat
  | .lit (.string bytes) => bytes.length + 1
  | .lit _ => 1
  | .nil => 1
  | .ptr d => uptoBulk d + 1
  | .slice elems spare => uptoBulkAll elems + uptoBulkAll spare + 1
  | .agg parts => uptoBulkAll parts + 1
  | .iface _ d => uptoBulk d + 1
  | .map entries => uptoBulkEntries entries + 1
  | .held _ => 1
def uptoBulkAll {H : Type} : List (DataW H) → Nat
  | [] => 0
  | d :: r => uptoBulk d + uptoBulkAll r
def uptoBulkEntries {H : Type} : List (Lit × DataW H) → Nat
  | [] => 0
  | x :: r => uptoBulkEntry x + uptoBulkEntries r
def uptoBulkEntry {H : Type} : Lit × DataW H → Nat
  | (.string bytes, d) => bytes.length + uptoBulk d + 1
  | (_, d) => uptoBulk d + 1
 end
def uptoSmall : (H : Type) → List (DataW H) → Bool := fun _ ds => decide (uptoBulkAll ds ≤ 1048576)
def OpenSpec.upto (s : _root_.Go.ChangeSpec) : _root_.Go.OpenSpec := { _root_.Go.OpenSpec.ofChange s with cond := some uptoSmall }

/-- 'tableaulaw02.SumsCrcs', WHERE WHAT IT READS IS OF BULK AT MOST 1048576: true; the input reads as it did. -/
def sumsCrcsUptoRow : OpenClaim := { program := "ytcdolkifahlakaa", sum := "0761dfb2053f65d47b8a317809a6bba6c0bc785511f71924ae3df91e47bfce08", func := "tableau/tableaulaw02.SumsCrcs", spec := "sumsCrcs", apart := false, narrowed := true }
def SumsCrcsUptoSaid : Prop := sumsCrcsUptoRow.holds Try.pinned (OpenSpec.upto sumsCrcsSpec)

/-- 'tableaulaw02.SumsTable', WHERE WHAT IT READS IS OF BULK AT MOST 1048576: true; the input reads as it did. -/
def sumsTableUptoRow : OpenClaim := { program := "ytcdolkifahlakaa", sum := "0761dfb2053f65d47b8a317809a6bba6c0bc785511f71924ae3df91e47bfce08", func := "tableau/tableaulaw02.SumsTable", spec := "sumsTable", apart := false, narrowed := true }
def SumsTableUptoSaid : Prop := sumsTableUptoRow.holds Try.pinned (OpenSpec.upto sumsTableSpec)

/-- 'tableaulaw02.SumsBursts', WHERE WHAT IT READS IS OF BULK AT MOST 1048576: true; the input reads as it did. -/
def sumsBurstsUptoRow : OpenClaim := { program := "ytcdolkifahlakaa", sum := "0761dfb2053f65d47b8a317809a6bba6c0bc785511f71924ae3df91e47bfce08", func := "tableau/tableaulaw02.SumsBursts", spec := "sumsBursts", apart := false, narrowed := true }
def SumsBurstsUptoSaid : Prop := sumsBurstsUptoRow.holds Try.pinned (OpenSpec.upto sumsBurstsSpec)

/-- 'tableaulaw02.SumsFinds', WHERE WHAT IT READS IS OF BULK AT MOST 1048576: true; the input reads as it did. -/
def sumsFindsUptoRow : OpenClaim := { program := "ytcdolkifahlakaa", sum := "0761dfb2053f65d47b8a317809a6bba6c0bc785511f71924ae3df91e47bfce08", func := "tableau/tableaulaw02.SumsFinds", spec := "sumsFinds", apart := false, narrowed := true }
def SumsFindsUptoSaid : Prop := sumsFindsUptoRow.holds Try.pinned (OpenSpec.upto sumsFindsSpec)

/-- 'tableaulaw02.SumsJoins', WHERE WHAT IT READS IS OF BULK AT MOST 1048576: true; the input reads as it did. -/
def sumsJoinsUptoRow : OpenClaim := { program := "ytcdolkifahlakaa", sum := "0761dfb2053f65d47b8a317809a6bba6c0bc785511f71924ae3df91e47bfce08", func := "tableau/tableaulaw02.SumsJoins", spec := "sumsJoins", apart := false, narrowed := true }
def SumsJoinsUptoSaid : Prop := sumsJoinsUptoRow.holds Try.pinned (OpenSpec.upto sumsJoinsSpec)

/-- 'tableaulaw02.SumsGoes', WHERE WHAT IT READS IS OF BULK AT MOST 1048576: true; the input reads as it did. -/
def sumsGoesUptoRow : OpenClaim := { program := "ytcdolkifahlakaa", sum := "0761dfb2053f65d47b8a317809a6bba6c0bc785511f71924ae3df91e47bfce08", func := "tableau/tableaulaw02.SumsGoes", spec := "sumsGoes", apart := false, narrowed := true }
def SumsGoesUptoSaid : Prop := sumsGoesUptoRow.holds Try.pinned (OpenSpec.upto sumsGoesSpec)

end Rows
end Go.Proofs.Ytcdolkifahlakaa
