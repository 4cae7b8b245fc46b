/-
  NARROWER THAN 'FOR EVERY INPUT', by the rows' own cells (each row's printed sentence says how): PackBack: laid · PackBurst: laid · PackCut: laid.
  DERIVED. THE GIVEN ROWS OF THIS SEAT. 3 by the template 'for every input the law returns true; each argument reads behind the call as it read before'; 0 by the template 'total and deterministic' (their statements: YtcmbdnjcfneinaaDoorTotals.lean).
  GIVEN WITH THE SEED: the statements are not yours to turn. If you find one false, say at which input.
  Laid BY PROGRAM, IN A SANDBOX (cutbox-rows.mjs): the forced cells as the released guide's own fill.sh prints them over the translation 22cb83af9bb20120… (all of the seat's roots in one cut). By AI agents, Wed Nov 11 2026. No macro, syntax, notation, axiom, sorry.
-/
import Derived.Test.YtcmbdnjcfneinaaDoorChecked
import GoSem.Claim
import GoSem.ClaimJoined
import GoSem.ClaimMapViews
import Derived.JoinedTies
import Derived.KernelRfl
namespace Go.Proofs.YtcmbdnjcfneinaaDoor
/- THE CELL 'sum', in the pinned program and in every row, IS THE sha256 OF THE DUMP (.gsa) THAT YtcmbdnjcfneinaaDoorProg.lean LOADS. Nothing in Lean hashes anything: it is a label: what it is worth is what the hold of that sum in a sandbox is worth. -/
noncomputable def Tryd.pinned : Pinned := { name := "ytcmbdnjcfneinaadoor", sum := "22cb83af9bb201202b6c71b39f3da974bfc37ac1790ece036ea835ffcc7a7977", checked := Tryd.checked }
namespace Rows
def none {H : Type} : Left H := { results := [], args := [] }

/- WHAT THE LISTED PACKAGE-LEVEL VARIABLES READ AS WHEN THE CALL BEGINS. Each datum BY PROGRAM (the guide's laid-datum.mjs) off the statement by which the dump's own 'gosem.cut.vars' lays the variable. In a bare row this is a premise. The card (YtcmbdnjcfneinaaDoorCards.lean) ties it to the program's text. -/
def laid_errors_errorType {H : Type} : DataW H := .iface "internal/reflectlite.rtype" (.agg [.ptr (.lit (.string [101, 114, 114, 111, 114]))])
def laid_bytes_ErrTooLarge {H : Type} : DataW H := .iface "*errors.errorString" (.ptr (.agg [.lit (.string [98, 121, 116, 101, 115, 46, 66, 117, 102, 102, 101, 114, 58, 32, 116, 111, 111, 32, 108, 97, 114, 103, 101])]))

/-- 'tableaulaw19.PackBack': WHATEVER THE INPUT: true; the input reads as it did. -/
def packBackSpec : ChangeSpec := { name := "packBack", fn := fun _ => fun
  | [d1, d2, d3] => { results := [.lit (.bool true)], args := [d1, d2, d3] }
  | _ => none }
def packBackRow : OpenClaim := { program := "ytcmbdnjcfneinaadoor", sum := "22cb83af9bb201202b6c71b39f3da974bfc37ac1790ece036ea835ffcc7a7977", func := "tableau/tableaulaw19.PackBack", spec := "packBack", inPlace := ["internal/reflectlite.ValueOf", "(internal/reflectlite.Value).Type", "(internal/reflectlite.Value).IsNil", "internal/reflectlite.TypeOf", "(internal/reflectlite.Value).Elem", "(internal/reflectlite.Value).Set"], unfollowed := true, recurses := true, named := ["bytes.ErrTooLarge", "errors.errorType"], apart := false, laid := [("errors.errorType", laid_errors_errorType), ("bytes.ErrTooLarge", laid_bytes_ErrTooLarge)] }
def PackBackSaid : Prop := packBackRow.holds Tryd.pinned (OpenSpec.ofChange packBackSpec)

/-- ITS FALSE NEIGHBOUR: 'it returns false'. Refute it at one input. -/
def packBackWrong : ChangeSpec := { name := "packBack", fn := fun _ => fun
  | [d1, d2, d3] => { results := [.lit (.bool false)], args := [d1, d2, d3] }
  | _ => none }
def PackBackWrongFalsely : Prop := packBackRow.holds Tryd.pinned (OpenSpec.ofChange packBackWrong)

/-- 'tableaulaw19.PackBurst': WHATEVER THE INPUT: true; the input reads as it did. -/
def packBurstSpec : ChangeSpec := { name := "packBurst", fn := fun _ => fun
  | [d1, d2, d3] => { results := [.lit (.bool true)], args := [d1, d2, d3] }
  | _ => none }
def packBurstRow : OpenClaim := { program := "ytcmbdnjcfneinaadoor", sum := "22cb83af9bb201202b6c71b39f3da974bfc37ac1790ece036ea835ffcc7a7977", func := "tableau/tableaulaw19.PackBurst", spec := "packBurst", inPlace := ["internal/reflectlite.ValueOf", "(internal/reflectlite.Value).Type", "(internal/reflectlite.Value).IsNil", "internal/reflectlite.TypeOf", "(internal/reflectlite.Value).Elem", "(internal/reflectlite.Value).Set"], unfollowed := true, recurses := true, named := ["bytes.ErrTooLarge", "errors.errorType"], apart := false, laid := [("errors.errorType", laid_errors_errorType), ("bytes.ErrTooLarge", laid_bytes_ErrTooLarge)] }
def PackBurstSaid : Prop := packBurstRow.holds Tryd.pinned (OpenSpec.ofChange packBurstSpec)

/-- ITS FALSE NEIGHBOUR: 'it returns false'. Refute it at one input. -/
def packBurstWrong : ChangeSpec := { name := "packBurst", fn := fun _ => fun
  | [d1, d2, d3] => { results := [.lit (.bool false)], args := [d1, d2, d3] }
  | _ => none }
def PackBurstWrongFalsely : Prop := packBurstRow.holds Tryd.pinned (OpenSpec.ofChange packBurstWrong)

/-- 'tableaulaw19.PackCut': WHATEVER THE INPUT: true; the input reads as it did. -/
def packCutSpec : ChangeSpec := { name := "packCut", fn := fun _ => fun
  | [d1, d2, d3] => { results := [.lit (.bool true)], args := [d1, d2, d3] }
  | _ => none }
def packCutRow : OpenClaim := { program := "ytcmbdnjcfneinaadoor", sum := "22cb83af9bb201202b6c71b39f3da974bfc37ac1790ece036ea835ffcc7a7977", func := "tableau/tableaulaw19.PackCut", spec := "packCut", inPlace := ["internal/reflectlite.ValueOf", "(internal/reflectlite.Value).Type", "(internal/reflectlite.Value).IsNil", "internal/reflectlite.TypeOf", "(internal/reflectlite.Value).Elem", "(internal/reflectlite.Value).Set"], unfollowed := true, recurses := true, named := ["bytes.ErrTooLarge", "errors.errorType"], apart := false, laid := [("errors.errorType", laid_errors_errorType), ("bytes.ErrTooLarge", laid_bytes_ErrTooLarge)] }
def PackCutSaid : Prop := packCutRow.holds Tryd.pinned (OpenSpec.ofChange packCutSpec)

/-- ITS FALSE NEIGHBOUR: 'it returns false'. Refute it at one input. -/
def packCutWrong : ChangeSpec := { name := "packCut", fn := fun _ => fun
  | [d1, d2, d3] => { results := [.lit (.bool false)], args := [d1, d2, d3] }
  | _ => none }
def PackCutWrongFalsely : Prop := packCutRow.holds Tryd.pinned (OpenSpec.ofChange packCutWrong)

/- THE SECOND FORM. 'bulk': how many values and letters a reading holds, each counted each time it is reached (what is shared counts as often as it is met; a slice's spare places count too). A statement '..UptoSaid' is the law's where the arguments, and the package variables that the reading takes, are together of bulk at most 1048576: NARROWER than '..Said'. Prove '..Said' where nothing that the law and all that it calls make is longer than what came in: it says more and counts as full. Else prove '..UptoSaid'. A law counts once. -/
mutual
def uptoBulk {H : Type} : DataW H → Nat
  | .lit (.string bytes) => bytes.length + 1
  | .lit _ => 1
  | .nil => 1
  | .ptr d => uptoBulk d + 1
  | .slice elems spare => uptoBulkAll elems + uptoBulkAll spare + 1
  | .agg parts => uptoBulkAll parts + 1
  | .iface _ d => uptoBulk d + 1
  | .map entries => uptoBulkEntries entries + 1
  | .held _ => 1
def uptoBulkAll {H : Type} : List (DataW H) → Nat
  | [] => 0
  | d :: r => uptoBulk d + uptoBulkAll r
def uptoBulkEntries {H : Type} : List (Lit × DataW H) → Nat
  | [] => 0
  | x :: r => uptoBulkEntry x + uptoBulkEntries r
def uptoBulkEntry {H : Type} : Lit × DataW H → Nat
  | (.string bytes, d) => bytes.length + uptoBulk d + 1
  | (_, d) => uptoBulk d + 1
 end
def uptoSmall : (H : Type) → List (DataW H) → Bool := fun _ ds => decide (uptoBulkAll ds ≤ 1048576)
def OpenSpec.upto (s : _root_.Go.ChangeSpec) : _root_.Go.OpenSpec := { _root_.Go.OpenSpec.ofChange s with cond := some uptoSmall }

/-- 'tableaulaw19.PackBack', WHERE WHAT IT READS IS OF BULK AT MOST 1048576: true; the input reads as it did. -/
def packBackUptoRow : OpenClaim := { program := "ytcmbdnjcfneinaadoor", sum := "22cb83af9bb201202b6c71b39f3da974bfc37ac1790ece036ea835ffcc7a7977", func := "tableau/tableaulaw19.PackBack", spec := "packBack", inPlace := ["internal/reflectlite.ValueOf", "(internal/reflectlite.Value).Type", "(internal/reflectlite.Value).IsNil", "internal/reflectlite.TypeOf", "(internal/reflectlite.Value).Elem", "(internal/reflectlite.Value).Set"], unfollowed := true, recurses := true, named := ["bytes.ErrTooLarge", "errors.errorType"], apart := false, laid := [("errors.errorType", laid_errors_errorType), ("bytes.ErrTooLarge", laid_bytes_ErrTooLarge)], narrowed := true }
def PackBackUptoSaid : Prop := packBackUptoRow.holds Tryd.pinned (OpenSpec.upto packBackSpec)

/-- 'tableaulaw19.PackBurst', WHERE WHAT IT READS IS OF BULK AT MOST 1048576: true; the input reads as it did. -/
def packBurstUptoRow : OpenClaim := { program := "ytcmbdnjcfneinaadoor", sum := "22cb83af9bb201202b6c71b39f3da974bfc37ac1790ece036ea835ffcc7a7977", func := "tableau/tableaulaw19.PackBurst", spec := "packBurst", inPlace := ["internal/reflectlite.ValueOf", "(internal/reflectlite.Value).Type", "(internal/reflectlite.Value).IsNil", "internal/reflectlite.TypeOf", "(internal/reflectlite.Value).Elem", "(internal/reflectlite.Value).Set"], unfollowed := true, recurses := true, named := ["bytes.ErrTooLarge", "errors.errorType"], apart := false, laid := [("errors.errorType", laid_errors_errorType), ("bytes.ErrTooLarge", laid_bytes_ErrTooLarge)], narrowed := true }
def PackBurstUptoSaid : Prop := packBurstUptoRow.holds Tryd.pinned (OpenSpec.upto packBurstSpec)

/-- 'tableaulaw19.PackCut', WHERE WHAT IT READS IS OF BULK AT MOST 1048576: true; the input reads as it did. -/
def packCutUptoRow : OpenClaim := { program := "ytcmbdnjcfneinaadoor", sum := "22cb83af9bb201202b6c71b39f3da974bfc37ac1790ece036ea835ffcc7a7977", func := "tableau/tableaulaw19.PackCut", spec := "packCut", inPlace := ["internal/reflectlite.ValueOf", "(internal/reflectlite.Value).Type", "(internal/reflectlite.Value).IsNil", "internal/reflectlite.TypeOf", "(internal/reflectlite.Value).Elem", "(internal/reflectlite.Value).Set"], unfollowed := true, recurses := true, named := ["bytes.ErrTooLarge", "errors.errorType"], apart := false, laid := [("errors.errorType", laid_errors_errorType), ("bytes.ErrTooLarge", laid_bytes_ErrTooLarge)], narrowed := true }
def PackCutUptoSaid : Prop := packCutUptoRow.holds Tryd.pinned (OpenSpec.upto packCutSpec)

end Rows
end Go.Proofs.YtcmbdnjcfneinaaDoor
