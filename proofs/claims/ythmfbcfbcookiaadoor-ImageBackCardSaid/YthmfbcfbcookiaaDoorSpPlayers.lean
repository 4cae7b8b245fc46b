/-
  Do the marks stand behind a list of players: the walk. Conditions: a length within 10 ^ 9.
-/
import Derived.Test.YthmfbcfbcookiaaDoorFPlayers
import Derived.Deep.QuietTactic
import Derived.BigQuiet
namespace Go.Proofs.YthmfbcfbcookiaaDoor
open Go.RowKit
end Go.Proofs.YthmfbcfbcookiaaDoor
