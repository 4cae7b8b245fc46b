/-
  No cell of these rows narrows 'for every input' (looked for: loops, veiled, ifaces, maps, wideKeys, modest, calm, conditions, laid).
  DERIVED. THE GIVEN ROWS OF THIS SEAT. 7 by the template 'for every input the law returns true; each argument reads behind the call as it read before'; 0 by the template 'total and deterministic' (their statements: YtbfhbekocgdceaaTotals.lean).
  GIVEN WITH THE SEED: the statements are not yours to turn. If you find one false, say at which input.
  Laid BY PROGRAM, IN A SANDBOX (cutbox-rows.mjs): the forced cells as the released guide's own fill.sh prints them over the translation bf5a65c839e27555… (all of the seat's roots in one cut). By AI agents, Wed Nov 11 2026. No macro, syntax, notation, axiom, sorry.
-/
import Derived.Test.YtbfhbekocgdceaaChecked
import GoSem.Claim
import GoSem.ClaimJoined
import GoSem.ClaimMapViews
import Derived.JoinedTies
import Derived.KernelRfl
namespace Go.Proofs.Ytbfhbekocgdceaa
/- THE CELL 'sum', in the pinned program and in every row, IS THE sha256 OF THE DUMP (.gsa) THAT YtbfhbekocgdceaaProg.lean LOADS. Nothing in Lean hashes anything: it is a label: what it is worth is what the hold of that sum in a sandbox is worth. -/
noncomputable def Try.pinned : Pinned := { name := "ytbfhbekocgdceaa", sum := "bf5a65c839e27555e474ad4521de032b0311af6ab142bbb98471e7aca3812de2", checked := Try.checked }
namespace Rows
def none {H : Type} : Left H := { results := [], args := [] }

/-- 'tableaulaw04.RowsHeaps': WHATEVER THE INPUT: true; the input reads as it did. -/
def rowsHeapsSpec : ChangeSpec := { name := "rowsHeaps", fn := fun _ => fun
  | [d] => { results := [.lit (.bool true)], args := [d] }
  | _ => none }
def rowsHeapsRow : OpenClaim := { program := "ytbfhbekocgdceaa", sum := "bf5a65c839e27555e474ad4521de032b0311af6ab142bbb98471e7aca3812de2", func := "tableau/tableaulaw04.RowsHeaps", spec := "rowsHeaps", unfollowed := true, recurses := true, apart := false }
def RowsHeapsSaid : Prop := rowsHeapsRow.holds Try.pinned (OpenSpec.ofChange rowsHeapsSpec)

/-- ITS FALSE NEIGHBOUR: 'it returns false'. Refute it at one input. -/
def rowsHeapsWrong : ChangeSpec := { name := "rowsHeaps", fn := fun _ => fun
  | [d] => { results := [.lit (.bool false)], args := [d] }
  | _ => none }
def RowsHeapsWrongFalsely : Prop := rowsHeapsRow.holds Try.pinned (OpenSpec.ofChange rowsHeapsWrong)

/-- 'tableaulaw04.RowsSorts': WHATEVER THE INPUT: true; the input reads as it did. -/
def rowsSortsSpec : ChangeSpec := { name := "rowsSorts", fn := fun _ => fun
  | [d1, d2] => { results := [.lit (.bool true)], args := [d1, d2] }
  | _ => none }
def rowsSortsRow : OpenClaim := { program := "ytbfhbekocgdceaa", sum := "bf5a65c839e27555e474ad4521de032b0311af6ab142bbb98471e7aca3812de2", func := "tableau/tableaulaw04.RowsSorts", spec := "rowsSorts", unfollowed := true, recurses := true, apart := false }
def RowsSortsSaid : Prop := rowsSortsRow.holds Try.pinned (OpenSpec.ofChange rowsSortsSpec)

/-- ITS FALSE NEIGHBOUR: 'it returns false'. Refute it at one input. -/
def rowsSortsWrong : ChangeSpec := { name := "rowsSorts", fn := fun _ => fun
  | [d1, d2] => { results := [.lit (.bool false)], args := [d1, d2] }
  | _ => none }
def RowsSortsWrongFalsely : Prop := rowsSortsRow.holds Try.pinned (OpenSpec.ofChange rowsSortsWrong)

/-- 'tableaulaw04.RowsCuts': WHATEVER THE INPUT: true; the input reads as it did. -/
def rowsCutsSpec : ChangeSpec := { name := "rowsCuts", fn := fun _ => fun
  | [d1, d2, d3] => { results := [.lit (.bool true)], args := [d1, d2, d3] }
  | _ => none }
def rowsCutsRow : OpenClaim := { program := "ytbfhbekocgdceaa", sum := "bf5a65c839e27555e474ad4521de032b0311af6ab142bbb98471e7aca3812de2", func := "tableau/tableaulaw04.RowsCuts", spec := "rowsCuts", unfollowed := true, recurses := true, apart := false }
def RowsCutsSaid : Prop := rowsCutsRow.holds Try.pinned (OpenSpec.ofChange rowsCutsSpec)

/-- ITS FALSE NEIGHBOUR: 'it returns false'. Refute it at one input. -/
def rowsCutsWrong : ChangeSpec := { name := "rowsCuts", fn := fun _ => fun
  | [d1, d2, d3] => { results := [.lit (.bool false)], args := [d1, d2, d3] }
  | _ => none }
def RowsCutsWrongFalsely : Prop := rowsCutsRow.holds Try.pinned (OpenSpec.ofChange rowsCutsWrong)

/-- 'tableaulaw04.RowsOrders': WHATEVER THE INPUT: true; the input reads as it did. -/
def rowsOrdersSpec : ChangeSpec := { name := "rowsOrders", fn := fun _ => fun
  | [d1, d2] => { results := [.lit (.bool true)], args := [d1, d2] }
  | _ => none }
def rowsOrdersRow : OpenClaim := { program := "ytbfhbekocgdceaa", sum := "bf5a65c839e27555e474ad4521de032b0311af6ab142bbb98471e7aca3812de2", func := "tableau/tableaulaw04.RowsOrders", spec := "rowsOrders", unfollowed := true, recurses := true, apart := false }
def RowsOrdersSaid : Prop := rowsOrdersRow.holds Try.pinned (OpenSpec.ofChange rowsOrdersSpec)

/-- ITS FALSE NEIGHBOUR: 'it returns false'. Refute it at one input. -/
def rowsOrdersWrong : ChangeSpec := { name := "rowsOrders", fn := fun _ => fun
  | [d1, d2] => { results := [.lit (.bool false)], args := [d1, d2] }
  | _ => none }
def RowsOrdersWrongFalsely : Prop := rowsOrdersRow.holds Try.pinned (OpenSpec.ofChange rowsOrdersWrong)

/-- 'tableaulaw04.RowsStacks': WHATEVER THE INPUT: true; the input reads as it did. -/
def rowsStacksSpec : ChangeSpec := { name := "rowsStacks", fn := fun _ => fun
  | [d1, d2, d3] => { results := [.lit (.bool true)], args := [d1, d2, d3] }
  | _ => none }
def rowsStacksRow : OpenClaim := { program := "ytbfhbekocgdceaa", sum := "bf5a65c839e27555e474ad4521de032b0311af6ab142bbb98471e7aca3812de2", func := "tableau/tableaulaw04.RowsStacks", spec := "rowsStacks", unfollowed := true, recurses := true, apart := false }
def RowsStacksSaid : Prop := rowsStacksRow.holds Try.pinned (OpenSpec.ofChange rowsStacksSpec)

/-- ITS FALSE NEIGHBOUR: 'it returns false'. Refute it at one input. -/
def rowsStacksWrong : ChangeSpec := { name := "rowsStacks", fn := fun _ => fun
  | [d1, d2, d3] => { results := [.lit (.bool false)], args := [d1, d2, d3] }
  | _ => none }
def RowsStacksWrongFalsely : Prop := rowsStacksRow.holds Try.pinned (OpenSpec.ofChange rowsStacksWrong)

/-- 'tableaulaw04.RowsDone': WHATEVER THE INPUT: true; the input reads as it did. -/
def rowsDoneSpec : ChangeSpec := { name := "rowsDone", fn := fun _ => fun
  | [d1, d2] => { results := [.lit (.bool true)], args := [d1, d2] }
  | _ => none }
def rowsDoneRow : OpenClaim := { program := "ytbfhbekocgdceaa", sum := "bf5a65c839e27555e474ad4521de032b0311af6ab142bbb98471e7aca3812de2", func := "tableau/tableaulaw04.RowsDone", spec := "rowsDone", unfollowed := true, recurses := true, apart := false }
def RowsDoneSaid : Prop := rowsDoneRow.holds Try.pinned (OpenSpec.ofChange rowsDoneSpec)

/-- ITS FALSE NEIGHBOUR: 'it returns false'. Refute it at one input. -/
def rowsDoneWrong : ChangeSpec := { name := "rowsDone", fn := fun _ => fun
  | [d1, d2] => { results := [.lit (.bool false)], args := [d1, d2] }
  | _ => none }
def RowsDoneWrongFalsely : Prop := rowsDoneRow.holds Try.pinned (OpenSpec.ofChange rowsDoneWrong)

/-- 'tableaulaw04.RowsBack': WHATEVER THE INPUT: true; the input reads as it did. -/
def rowsBackSpec : ChangeSpec := { name := "rowsBack", fn := fun _ => fun
  | [d1, d2, d3, d4] => { results := [.lit (.bool true)], args := [d1, d2, d3, d4] }
  | _ => none }
def rowsBackRow : OpenClaim := { program := "ytbfhbekocgdceaa", sum := "bf5a65c839e27555e474ad4521de032b0311af6ab142bbb98471e7aca3812de2", func := "tableau/tableaulaw04.RowsBack", spec := "rowsBack", unfollowed := true, recurses := true, apart := false }
def RowsBackSaid : Prop := rowsBackRow.holds Try.pinned (OpenSpec.ofChange rowsBackSpec)

/-- ITS FALSE NEIGHBOUR: 'it returns false'. Refute it at one input. -/
def rowsBackWrong : ChangeSpec := { name := "rowsBack", fn := fun _ => fun
  | [d1, d2, d3, d4] => { results := [.lit (.bool false)], args := [d1, d2, d3, d4] }
  | _ => none }
def RowsBackWrongFalsely : Prop := rowsBackRow.holds Try.pinned (OpenSpec.ofChange rowsBackWrong)

/- THE SECOND FORM. 'bulk': how many values and letters a reading holds, each counted each time it is reached (what is shared counts as often as it is met; a slice's spare places count too). A statement '..UptoSaid' is the law's where the arguments, and the package variables that the reading takes, are together of bulk at most 1048576: NARROWER than '..Said'. Prove '..Said' where nothing that the law and all that it calls make is longer than what came in: it says more and counts as full. Else prove '..UptoSaid'. A law counts once. -/
mutual
def uptoBulk {H : Type} : DataW H → Nat
  | .lit (.string bytes) => bytes.length + 1
  | .lit _ => 1
  | .nil => 1
  | .ptr d => uptoBulk d + 1
  | .slice elems spare => uptoBulkAll elems + uptoBulkAll spare + 1
  | .agg parts => uptoBulkAll parts + 1
  | .iface _ d => uptoBulk d + 1
  | .map entries => uptoBulkEntries entries + 1
  | .held _ => 1
def uptoBulkAll {H : Type} : List (DataW H) → Nat
  | [] => 0
  | d :: r => uptoBulk d + uptoBulkAll r
def uptoBulkEntries {H : Type} : List (Lit × DataW H) → Nat
  | [] => 0
  | x :: r => uptoBulkEntry x + uptoBulkEntries r
def uptoBulkEntry {H : Type} : Lit × DataW H → Nat
  | (.string bytes, d) => bytes.length + uptoBulk d + 1
  | (_, d) => uptoBulk d + 1
 end
def uptoSmall : (H : Type) → List (DataW H) → Bool := fun _ ds => decide (uptoBulkAll ds ≤ 1048576)
def OpenSpec.upto (s : _root_.Go.ChangeSpec) : _root_.Go.OpenSpec := { _root_.Go.OpenSpec.ofChange s with cond := some uptoSmall }

/-- 'tableaulaw04.RowsHeaps', WHERE WHAT IT READS IS OF BULK AT MOST 1048576: true; the input reads as it did. -/
def rowsHeapsUptoRow : OpenClaim := { program := "ytbfhbekocgdceaa", sum := "bf5a65c839e27555e474ad4521de032b0311af6ab142bbb98471e7aca3812de2", func := "tableau/tableaulaw04.RowsHeaps", spec := "rowsHeaps", unfollowed := true, recurses := true, apart := false, narrowed := true }
def RowsHeapsUptoSaid : Prop := rowsHeapsUptoRow.holds Try.pinned (OpenSpec.upto rowsHeapsSpec)

/-- 'tableaulaw04.RowsSorts', WHERE WHAT IT READS IS OF BULK AT MOST 1048576: true; the input reads as it did. -/
def rowsSortsUptoRow : OpenClaim := { program := "ytbfhbekocgdceaa", sum := "bf5a65c839e27555e474ad4521de032b0311af6ab142bbb98471e7aca3812de2", func := "tableau/tableaulaw04.RowsSorts", spec := "rowsSorts", unfollowed := true, recurses := true, apart := false, narrowed := true }
def RowsSortsUptoSaid : Prop := rowsSortsUptoRow.holds Try.pinned (OpenSpec.upto rowsSortsSpec)

/-- 'tableaulaw04.RowsCuts', WHERE WHAT IT READS IS OF BULK AT MOST 1048576: true; the input reads as it did. -/
def rowsCutsUptoRow : OpenClaim := { program := "ytbfhbekocgdceaa", sum := "bf5a65c839e27555e474ad4521de032b0311af6ab142bbb98471e7aca3812de2", func := "tableau/tableaulaw04.RowsCuts", spec := "rowsCuts", unfollowed := true, recurses := true, apart := false, narrowed := true }
def RowsCutsUptoSaid : Prop := rowsCutsUptoRow.holds Try.pinned (OpenSpec.upto rowsCutsSpec)

/-- 'tableaulaw04.RowsOrders', WHERE WHAT IT READS IS OF BULK AT MOST 1048576: true; the input reads as it did. -/
def rowsOrdersUptoRow : OpenClaim := { program := "ytbfhbekocgdceaa", sum := "bf5a65c839e27555e474ad4521de032b0311af6ab142bbb98471e7aca3812de2", func := "tableau/tableaulaw04.RowsOrders", spec := "rowsOrders", unfollowed := true, recurses := true, apart := false, narrowed := true }
def RowsOrdersUptoSaid : Prop := rowsOrdersUptoRow.holds Try.pinned (OpenSpec.upto rowsOrdersSpec)

/-- 'tableaulaw04.RowsStacks', WHERE WHAT IT READS IS OF BULK AT MOST 1048576: true; the input reads as it did. -/
def rowsStacksUptoRow : OpenClaim := { program := "ytbfhbekocgdceaa", sum := "bf5a65c839e27555e474ad4521de032b0311af6ab142bbb98471e7aca3812de2", func := "tableau/tableaulaw04.RowsStacks", spec := "rowsStacks", unfollowed := true, recurses := true, apart := false, narrowed := true }
def RowsStacksUptoSaid : Prop := rowsStacksUptoRow.holds Try.pinned (OpenSpec.upto rowsStacksSpec)

/-- 'tableaulaw04.RowsDone', WHERE WHAT IT READS IS OF BULK AT MOST 1048576: true; the input reads as it did. -/
def rowsDoneUptoRow : OpenClaim := { program := "ytbfhbekocgdceaa", sum := "bf5a65c839e27555e474ad4521de032b0311af6ab142bbb98471e7aca3812de2", func := "tableau/tableaulaw04.RowsDone", spec := "rowsDone", unfollowed := true, recurses := true, apart := false, narrowed := true }
def RowsDoneUptoSaid : Prop := rowsDoneUptoRow.holds Try.pinned (OpenSpec.upto rowsDoneSpec)

/-- 'tableaulaw04.RowsBack', WHERE WHAT IT READS IS OF BULK AT MOST 1048576: true; the input reads as it did. -/
def rowsBackUptoRow : OpenClaim := { program := "ytbfhbekocgdceaa", sum := "bf5a65c839e27555e474ad4521de032b0311af6ab142bbb98471e7aca3812de2", func := "tableau/tableaulaw04.RowsBack", spec := "rowsBack", unfollowed := true, recurses := true, apart := false, narrowed := true }
def RowsBackUptoSaid : Prop := rowsBackUptoRow.holds Try.pinned (OpenSpec.upto rowsBackSpec)

end Rows
end Go.Proofs.Ytbfhbekocgdceaa
