/-
  The document's entries of a state: the walk. Conditions: lengths within 10 ^ 9.
-/
import Derived.Test.YtgbikcliembkcaaDoorChA
namespace Go.Proofs.YtgbikcliembkcaaDoor
open Go.RowKit
end Go.Proofs.YtgbikcliembkcaaDoor
