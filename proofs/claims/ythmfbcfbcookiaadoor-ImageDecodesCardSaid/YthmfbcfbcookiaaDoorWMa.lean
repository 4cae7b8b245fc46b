/-
  The marked copies of a list of cards: the walk. Conditions: a length within 10 ^ 9.
-/
import Derived.Test.YthmfbcfbcookiaaDoorWMd
namespace Go.Proofs.YthmfbcfbcookiaaDoor
open Go.RowKit
end Go.Proofs.YthmfbcfbcookiaaDoor
/-
  The marked copies of a list of players: the walk. Conditions: a length within 10 ^ 9.
-/
namespace Go.Proofs.YthmfbcfbcookiaaDoor
open Go.RowKit
end Go.Proofs.YthmfbcfbcookiaaDoor
