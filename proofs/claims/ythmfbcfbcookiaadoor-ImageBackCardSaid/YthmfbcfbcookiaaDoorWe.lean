/-
  Do the marks stand behind a list of numbers: the walk. Conditions: a length within 10 ^ 9.
-/
import Derived.Test.YthmfbcfbcookiaaDoorWd
namespace Go.Proofs.YthmfbcfbcookiaaDoor
open Go.RowKit
end Go.Proofs.YthmfbcfbcookiaaDoor
