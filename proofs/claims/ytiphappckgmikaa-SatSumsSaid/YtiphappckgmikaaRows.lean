/-
  No cell of these rows narrows 'for every input' (looked for: loops, veiled, ifaces, maps, wideKeys, modest, calm, conditions, laid).
  DERIVED. THE GIVEN ROWS OF THIS SEAT. 11 by the template 'for every input the law returns true; each argument reads behind the call as it read before'; 0 by the template 'total and deterministic' (their statements: YtiphappckgmikaaTotals.lean).
  GIVEN WITH THE SEED: the statements are not yours to turn. If you find one false, say at which input.
  Laid BY PROGRAM, IN A SANDBOX (cutbox-rows.mjs): the forced cells as the released guide's own fill.sh prints them over the translation 25f08f4dd587bcaa… (all of the seat's roots in one cut). By AI agents, Wed Nov 11 2026. No macro, syntax, notation, axiom, sorry.
-/
import Derived.Test.YtiphappckgmikaaChecked
import GoSem.Claim
import GoSem.ClaimJoined
import GoSem.ClaimMapViews
import Derived.JoinedTies
import Derived.KernelRfl
namespace Go.Proofs.Ytiphappckgmikaa
/- THE CELL 'sum', in the pinned program and in every row, IS THE sha256 OF THE DUMP (.gsa) THAT YtiphappckgmikaaProg.lean LOADS. Nothing in Lean hashes anything: it is a label: what it is worth is what the hold of that sum in a sandbox is worth. -/
noncomputable def Try.pinned : Pinned := { name := "ytiphappckgmikaa", sum := "25f08f4dd587bcaa725b25f8b94955528029d426e1bdf4b9ff258bd1351eb9dc", checked := Try.checked }
namespace Rows
def none {H : Type} : Left H := { results := [], args := [] }

/-- 'tableaulaw01.SatTo': WHATEVER THE INPUT: true; the input reads as it did. -/
def satToSpec : ChangeSpec := { name := "satTo", fn := fun _ => fun
  | [d] => { results := [.lit (.bool true)], args := [d] }
  | _ => none }
def satToRow : OpenClaim := { program := "ytiphappckgmikaa", sum := "25f08f4dd587bcaa725b25f8b94955528029d426e1bdf4b9ff258bd1351eb9dc", func := "tableau/tableaulaw01.SatTo", spec := "satTo", apart := false }
def SatToSaid : Prop := satToRow.holds Try.pinned (OpenSpec.ofChange satToSpec)

/-- ITS FALSE NEIGHBOUR: 'it returns false'. Refute it at one input. -/
def satToWrong : ChangeSpec := { name := "satTo", fn := fun _ => fun
  | [d] => { results := [.lit (.bool false)], args := [d] }
  | _ => none }
def SatToWrongFalsely : Prop := satToRow.holds Try.pinned (OpenSpec.ofChange satToWrong)

/-- 'tableaulaw01.SatSums': WHATEVER THE INPUT: true; the input reads as it did. -/
def satSumsSpec : ChangeSpec := { name := "satSums", fn := fun _ => fun
  | [d1, d2, d3] => { results := [.lit (.bool true)], args := [d1, d2, d3] }
  | _ => none }
def satSumsRow : OpenClaim := { program := "ytiphappckgmikaa", sum := "25f08f4dd587bcaa725b25f8b94955528029d426e1bdf4b9ff258bd1351eb9dc", func := "tableau/tableaulaw01.SatSums", spec := "satSums", apart := false }
def SatSumsSaid : Prop := satSumsRow.holds Try.pinned (OpenSpec.ofChange satSumsSpec)

/-- ITS FALSE NEIGHBOUR: 'it returns false'. Refute it at one input. -/
def satSumsWrong : ChangeSpec := { name := "satSums", fn := fun _ => fun
  | [d1, d2, d3] => { results := [.lit (.bool false)], args := [d1, d2, d3] }
  | _ => none }
def SatSumsWrongFalsely : Prop := satSumsRow.holds Try.pinned (OpenSpec.ofChange satSumsWrong)

/-- 'tableaulaw01.SatTurns': WHATEVER THE INPUT: true; the input reads as it did. -/
def satTurnsSpec : ChangeSpec := { name := "satTurns", fn := fun _ => fun
  | [d1, d2, d3] => { results := [.lit (.bool true)], args := [d1, d2, d3] }
  | _ => none }
def satTurnsRow : OpenClaim := { program := "ytiphappckgmikaa", sum := "25f08f4dd587bcaa725b25f8b94955528029d426e1bdf4b9ff258bd1351eb9dc", func := "tableau/tableaulaw01.SatTurns", spec := "satTurns", apart := false }
def SatTurnsSaid : Prop := satTurnsRow.holds Try.pinned (OpenSpec.ofChange satTurnsSpec)

/-- ITS FALSE NEIGHBOUR: 'it returns false'. Refute it at one input. -/
def satTurnsWrong : ChangeSpec := { name := "satTurns", fn := fun _ => fun
  | [d1, d2, d3] => { results := [.lit (.bool false)], args := [d1, d2, d3] }
  | _ => none }
def SatTurnsWrongFalsely : Prop := satTurnsRow.holds Try.pinned (OpenSpec.ofChange satTurnsWrong)

/-- 'tableaulaw01.SatDivides': WHATEVER THE INPUT: true; the input reads as it did. -/
def satDividesSpec : ChangeSpec := { name := "satDivides", fn := fun _ => fun
  | [d1, d2] => { results := [.lit (.bool true)], args := [d1, d2] }
  | _ => none }
def satDividesRow : OpenClaim := { program := "ytiphappckgmikaa", sum := "25f08f4dd587bcaa725b25f8b94955528029d426e1bdf4b9ff258bd1351eb9dc", func := "tableau/tableaulaw01.SatDivides", spec := "satDivides", apart := false }
def SatDividesSaid : Prop := satDividesRow.holds Try.pinned (OpenSpec.ofChange satDividesSpec)

/-- ITS FALSE NEIGHBOUR: 'it returns false'. Refute it at one input. -/
def satDividesWrong : ChangeSpec := { name := "satDivides", fn := fun _ => fun
  | [d1, d2] => { results := [.lit (.bool false)], args := [d1, d2] }
  | _ => none }
def SatDividesWrongFalsely : Prop := satDividesRow.holds Try.pinned (OpenSpec.ofChange satDividesWrong)

/-- 'tableaulaw01.SatAll': WHATEVER THE INPUT: true; the input reads as it did. -/
def satAllSpec : ChangeSpec := { name := "satAll", fn := fun _ => fun
  | [] => { results := [.lit (.bool true)], args := [] }
  | _ => none }
def satAllRow : OpenClaim := { program := "ytiphappckgmikaa", sum := "25f08f4dd587bcaa725b25f8b94955528029d426e1bdf4b9ff258bd1351eb9dc", func := "tableau/tableaulaw01.SatAll", spec := "satAll", apart := false }
def SatAllSaid : Prop := satAllRow.holds Try.pinned (OpenSpec.ofChange satAllSpec)

/-- ITS FALSE NEIGHBOUR: 'it returns false'. Refute it at one input. -/
def satAllWrong : ChangeSpec := { name := "satAll", fn := fun _ => fun
  | [] => { results := [.lit (.bool false)], args := [] }
  | _ => none }
def SatAllWrongFalsely : Prop := satAllRow.holds Try.pinned (OpenSpec.ofChange satAllWrong)

/-- 'tableaulaw01.SatSmall': WHATEVER THE INPUT: true; the input reads as it did. -/
def satSmallSpec : ChangeSpec := { name := "satSmall", fn := fun _ => fun
  | [d1, d2, d3] => { results := [.lit (.bool true)], args := [d1, d2, d3] }
  | _ => none }
def satSmallRow : OpenClaim := { program := "ytiphappckgmikaa", sum := "25f08f4dd587bcaa725b25f8b94955528029d426e1bdf4b9ff258bd1351eb9dc", func := "tableau/tableaulaw01.SatSmall", spec := "satSmall", apart := false }
def SatSmallSaid : Prop := satSmallRow.holds Try.pinned (OpenSpec.ofChange satSmallSpec)

/-- ITS FALSE NEIGHBOUR: 'it returns false'. Refute it at one input. -/
def satSmallWrong : ChangeSpec := { name := "satSmall", fn := fun _ => fun
  | [d1, d2, d3] => { results := [.lit (.bool false)], args := [d1, d2, d3] }
  | _ => none }
def SatSmallWrongFalsely : Prop := satSmallRow.holds Try.pinned (OpenSpec.ofChange satSmallWrong)

/-- 'tableaulaw01.SatMiddle': WHATEVER THE INPUT: true; the input reads as it did. -/
def satMiddleSpec : ChangeSpec := { name := "satMiddle", fn := fun _ => fun
  | [d1, d2, d3] => { results := [.lit (.bool true)], args := [d1, d2, d3] }
  | _ => none }
def satMiddleRow : OpenClaim := { program := "ytiphappckgmikaa", sum := "25f08f4dd587bcaa725b25f8b94955528029d426e1bdf4b9ff258bd1351eb9dc", func := "tableau/tableaulaw01.SatMiddle", spec := "satMiddle", apart := false }
def SatMiddleSaid : Prop := satMiddleRow.holds Try.pinned (OpenSpec.ofChange satMiddleSpec)

/-- ITS FALSE NEIGHBOUR: 'it returns false'. Refute it at one input. -/
def satMiddleWrong : ChangeSpec := { name := "satMiddle", fn := fun _ => fun
  | [d1, d2, d3] => { results := [.lit (.bool false)], args := [d1, d2, d3] }
  | _ => none }
def SatMiddleWrongFalsely : Prop := satMiddleRow.holds Try.pinned (OpenSpec.ofChange satMiddleWrong)

/-- 'tableaulaw01.SatLarge': WHATEVER THE INPUT: true; the input reads as it did. -/
def satLargeSpec : ChangeSpec := { name := "satLarge", fn := fun _ => fun
  | [d1, d2, d3] => { results := [.lit (.bool true)], args := [d1, d2, d3] }
  | _ => none }
def satLargeRow : OpenClaim := { program := "ytiphappckgmikaa", sum := "25f08f4dd587bcaa725b25f8b94955528029d426e1bdf4b9ff258bd1351eb9dc", func := "tableau/tableaulaw01.SatLarge", spec := "satLarge", apart := false }
def SatLargeSaid : Prop := satLargeRow.holds Try.pinned (OpenSpec.ofChange satLargeSpec)

/-- ITS FALSE NEIGHBOUR: 'it returns false'. Refute it at one input. -/
def satLargeWrong : ChangeSpec := { name := "satLarge", fn := fun _ => fun
  | [d1, d2, d3] => { results := [.lit (.bool false)], args := [d1, d2, d3] }
  | _ => none }
def SatLargeWrongFalsely : Prop := satLargeRow.holds Try.pinned (OpenSpec.ofChange satLargeWrong)

/-- 'tableaulaw01.SatWide': WHATEVER THE INPUT: true; the input reads as it did. -/
def satWideSpec : ChangeSpec := { name := "satWide", fn := fun _ => fun
  | [d1, d2, d3] => { results := [.lit (.bool true)], args := [d1, d2, d3] }
  | _ => none }
def satWideRow : OpenClaim := { program := "ytiphappckgmikaa", sum := "25f08f4dd587bcaa725b25f8b94955528029d426e1bdf4b9ff258bd1351eb9dc", func := "tableau/tableaulaw01.SatWide", spec := "satWide", apart := false }
def SatWideSaid : Prop := satWideRow.holds Try.pinned (OpenSpec.ofChange satWideSpec)

/-- ITS FALSE NEIGHBOUR: 'it returns false'. Refute it at one input. -/
def satWideWrong : ChangeSpec := { name := "satWide", fn := fun _ => fun
  | [d1, d2, d3] => { results := [.lit (.bool false)], args := [d1, d2, d3] }
  | _ => none }
def SatWideWrongFalsely : Prop := satWideRow.holds Try.pinned (OpenSpec.ofChange satWideWrong)

/-- 'tableaulaw01.SatPlain': WHATEVER THE INPUT: true; the input reads as it did. -/
def satPlainSpec : ChangeSpec := { name := "satPlain", fn := fun _ => fun
  | [d1, d2, d3] => { results := [.lit (.bool true)], args := [d1, d2, d3] }
  | _ => none }
def satPlainRow : OpenClaim := { program := "ytiphappckgmikaa", sum := "25f08f4dd587bcaa725b25f8b94955528029d426e1bdf4b9ff258bd1351eb9dc", func := "tableau/tableaulaw01.SatPlain", spec := "satPlain", apart := false }
def SatPlainSaid : Prop := satPlainRow.holds Try.pinned (OpenSpec.ofChange satPlainSpec)

/-- ITS FALSE NEIGHBOUR: 'it returns false'. Refute it at one input. -/
def satPlainWrong : ChangeSpec := { name := "satPlain", fn := fun _ => fun
  | [d1, d2, d3] => { results := [.lit (.bool false)], args := [d1, d2, d3] }
  | _ => none }
def SatPlainWrongFalsely : Prop := satPlainRow.holds Try.pinned (OpenSpec.ofChange satPlainWrong)

/-- 'tableaulaw01.SatOwn': WHATEVER THE INPUT: true; the input reads as it did. -/
def satOwnSpec : ChangeSpec := { name := "satOwn", fn := fun _ => fun
  | [d1, d2, d3] => { results := [.lit (.bool true)], args := [d1, d2, d3] }
  | _ => none }
def satOwnRow : OpenClaim := { program := "ytiphappckgmikaa", sum := "25f08f4dd587bcaa725b25f8b94955528029d426e1bdf4b9ff258bd1351eb9dc", func := "tableau/tableaulaw01.SatOwn", spec := "satOwn", apart := false }
def SatOwnSaid : Prop := satOwnRow.holds Try.pinned (OpenSpec.ofChange satOwnSpec)

/-- ITS FALSE NEIGHBOUR: 'it returns false'. Refute it at one input. -/
def satOwnWrong : ChangeSpec := { name := "satOwn", fn := fun _ => fun
  | [d1, d2, d3] => { results := [.lit (.bool false)], args := [d1, d2, d3] }
  | _ => none }
def SatOwnWrongFalsely : Prop := satOwnRow.holds Try.pinned (OpenSpec.ofChange satOwnWrong)

/- THE SECOND FORM. 'bulk': how many values and letters a reading holds, each counted each time it is reached (what is shared counts as often as it is met; a slice's spare places count too). A statement '..UptoSaid' is the law's where the arguments, and the package variables that the reading takes, are together of bulk at most 1048576: NARROWER than '..Said'. Prove '..Said' where nothing that the law and all that it calls make is longer than what came in: it says more and counts as full. Else prove '..UptoSaid'. A law counts once. -/
mutual
def uptoBulk {H : Type} : DataW H → Nat
  | .lit (.string bytes) => bytes.length + 1
  | .lit _ => 1
  | .nil => 1
  | .ptr d => uptoBulk d + 1
  | .slice elems spare => uptoBulkAll elems + uptoBulkAll spare + 1
  | .agg parts => uptoBulkAll parts + 1
  | .iface _ d => uptoBulk d + 1
  | .map entries => uptoBulkEntries entries + 1
  | .held _ => 1
def uptoBulkAll {H : Type} : List (DataW H) → Nat
  | [] => 0
  | d :: r => uptoBulk d + uptoBulkAll r
def uptoBulkEntries {H : Type} : List (Lit × DataW H) → Nat
  | [] => 0
  | x :: r => uptoBulkEntry x + uptoBulkEntries r
def uptoBulkEntry {H : Type} : Lit × DataW H → Nat
  | (.string bytes, d) => bytes.length + uptoBulk d + 1
  | (_, d) => uptoBulk d + 1
 end
def uptoSmall : (H : Type) → List (DataW H) → Bool := fun _ ds => decide (uptoBulkAll ds ≤ 1048576)
def OpenSpec.upto (s : _root_.Go.ChangeSpec) : _root_.Go.OpenSpec := { _root_.Go.OpenSpec.ofChange s with cond := some uptoSmall }

/-- 'tableaulaw01.SatTo', WHERE WHAT IT READS IS OF BULK AT MOST 1048576: true; the input reads as it did. -/
def satToUptoRow : OpenClaim := { program := "ytiphappckgmikaa", sum := "25f08f4dd587bcaa725b25f8b94955528029d426e1bdf4b9ff258bd1351eb9dc", func := "tableau/tableaulaw01.SatTo", spec := "satTo", apart := false, narrowed := true }
def SatToUptoSaid : Prop := satToUptoRow.holds Try.pinned (OpenSpec.upto satToSpec)

/-- 'tableaulaw01.SatSums', WHERE WHAT IT READS IS OF BULK AT MOST 1048576: true; the input reads as it did. -/
def satSumsUptoRow : OpenClaim := { program := "ytiphappckgmikaa", sum := "25f08f4dd587bcaa725b25f8b94955528029d426e1bdf4b9ff258bd1351eb9dc", func := "tableau/tableaulaw01.SatSums", spec := "satSums", apart := false, narrowed := true }
def SatSumsUptoSaid : Prop := satSumsUptoRow.holds Try.pinned (OpenSpec.upto satSumsSpec)

/-- 'tableaulaw01.SatTurns', WHERE WHAT IT READS IS OF BULK AT MOST 1048576: true; the input reads as it did. -/
def satTurnsUptoRow : OpenClaim := { program := "ytiphappckgmikaa", sum := "25f08f4dd587bcaa725b25f8b94955528029d426e1bdf4b9ff258bd1351eb9dc", func := "tableau/tableaulaw01.SatTurns", spec := "satTurns", apart := false, narrowed := true }
def SatTurnsUptoSaid : Prop := satTurnsUptoRow.holds Try.pinned (OpenSpec.upto satTurnsSpec)

/-- 'tableaulaw01.SatDivides', WHERE WHAT IT READS IS OF BULK AT MOST 1048576: true; the input reads as it did. -/
def satDividesUptoRow : OpenClaim := { program := "ytiphappckgmikaa", sum := "25f08f4dd587bcaa725b25f8b94955528029d426e1bdf4b9ff258bd1351eb9dc", func := "tableau/tableaulaw01.SatDivides", spec := "satDivides", apart := false, narrowed := true }
def SatDividesUptoSaid : Prop := satDividesUptoRow.holds Try.pinned (OpenSpec.upto satDividesSpec)

/-- 'tableaulaw01.SatAll', WHERE WHAT IT READS IS OF BULK AT MOST 1048576: true; the input reads as it did. -/
def satAllUptoRow : OpenClaim := { program := "ytiphappckgmikaa", sum := "25f08f4dd587bcaa725b25f8b94955528029d426e1bdf4b9ff258bd1351eb9dc", func := "tableau/tableaulaw01.SatAll", spec := "satAll", apart := false, narrowed := true }
def SatAllUptoSaid : Prop := satAllUptoRow.holds Try.pinned (OpenSpec.upto satAllSpec)

/-- 'tableaulaw01.SatSmall', WHERE WHAT IT READS IS OF BULK AT MOST 1048576: true; the input reads as it did. -/
def satSmallUptoRow : OpenClaim := { program := "ytiphappckgmikaa", sum := "25f08f4dd587bcaa725b25f8b94955528029d426e1bdf4b9ff258bd1351eb9dc", func := "tableau/tableaulaw01.SatSmall", spec := "satSmall", apart := false, narrowed := true }
def SatSmallUptoSaid : Prop := satSmallUptoRow.holds Try.pinned (OpenSpec.upto satSmallSpec)

/-- 'tableaulaw01.SatMiddle', WHERE WHAT IT READS IS OF BULK AT MOST 1048576: true; the input reads as it did. -/
def satMiddleUptoRow : OpenClaim := { program := "ytiphappckgmikaa", sum := "25f08f4dd587bcaa725b25f8b94955528029d426e1bdf4b9ff258bd1351eb9dc", func := "tableau/tableaulaw01.SatMiddle", spec := "satMiddle", apart := false, narrowed := true }
def SatMiddleUptoSaid : Prop := satMiddleUptoRow.holds Try.pinned (OpenSpec.upto satMiddleSpec)

/-- 'tableaulaw01.SatLarge', WHERE WHAT IT READS IS OF BULK AT MOST 1048576: true; the input reads as it did. -/
def satLargeUptoRow : OpenClaim := { program := "ytiphappckgmikaa", sum := "25f08f4dd587bcaa725b25f8b94955528029d426e1bdf4b9ff258bd1351eb9dc", func := "tableau/tableaulaw01.SatLarge", spec := "satLarge", apart := false, narrowed := true }
def SatLargeUptoSaid : Prop := satLargeUptoRow.holds Try.pinned (OpenSpec.upto satLargeSpec)

/-- 'tableaulaw01.SatWide', WHERE WHAT IT READS IS OF BULK AT MOST 1048576: true; the input reads as it did. -/
def satWideUptoRow : OpenClaim := { program := "ytiphappckgmikaa", sum := "25f08f4dd587bcaa725b25f8b94955528029d426e1bdf4b9ff258bd1351eb9dc", func := "tableau/tableaulaw01.SatWide", spec := "satWide", apart := false, narrowed := true }
def SatWideUptoSaid : Prop := satWideUptoRow.holds Try.pinned (OpenSpec.upto satWideSpec)

/-- 'tableaulaw01.SatPlain', WHERE WHAT IT READS IS OF BULK AT MOST 1048576: true; the input reads as it did. -/
def satPlainUptoRow : OpenClaim := { program := "ytiphappckgmikaa", sum := "25f08f4dd587bcaa725b25f8b94955528029d426e1bdf4b9ff258bd1351eb9dc", func := "tableau/tableaulaw01.SatPlain", spec := "satPlain", apart := false, narrowed := true }
def SatPlainUptoSaid : Prop := satPlainUptoRow.holds Try.pinned (OpenSpec.upto satPlainSpec)

/-- 'tableaulaw01.SatOwn', WHERE WHAT IT READS IS OF BULK AT MOST 1048576: true; the input reads as it did. -/
def satOwnUptoRow : OpenClaim := { program := "ytiphappckgmikaa", sum := "25f08f4dd587bcaa725b25f8b94955528029d426e1bdf4b9ff258bd1351eb9dc", func := "tableau/tableaulaw01.SatOwn", spec := "satOwn", apart := false, narrowed := true }
def SatOwnUptoSaid : Prop := satOwnUptoRow.holds Try.pinned (OpenSpec.upto satOwnSpec)

end Rows
end Go.Proofs.Ytiphappckgmikaa
