/-
  The document's Check, May, Where and the program's Where: the walks. Conditions: lengths within 10 ^ 9.
-/
import Derived.Test.YtgbikcliembkcaaDoorChD
namespace Go.Proofs.YtgbikcliembkcaaDoor
open Go.RowKit
theorem bools_get (l : List Bool) (i : Nat) (h : i < l.length) : (bools l)[i]? = some (.bool l[i]) := by simp [bools, h]
end Go.Proofs.YtgbikcliembkcaaDoor
