/-
  The marked copies of a list of cards: the walk. Conditions: a length within 10 ^ 9.
-/
import Derived.Test.YthmfbcfbcookiaaDoorFCards
namespace Go.Proofs.YthmfbcfbcookiaaDoor
open Go.RowKit
end Go.Proofs.YthmfbcfbcookiaaDoor
