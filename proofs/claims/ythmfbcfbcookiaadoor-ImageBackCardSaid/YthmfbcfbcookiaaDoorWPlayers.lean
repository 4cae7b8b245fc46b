/-
  The marked copies of a list of players: the walk. Conditions: a length within 10 ^ 9.
-/
import Derived.Test.YthmfbcfbcookiaaDoorFPlayers
namespace Go.Proofs.YthmfbcfbcookiaaDoor
open Go.RowKit
end Go.Proofs.YthmfbcfbcookiaaDoor
