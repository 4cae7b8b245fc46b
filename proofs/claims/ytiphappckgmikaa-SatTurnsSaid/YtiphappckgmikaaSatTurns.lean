/-
  The walk of the law SatTurns: it returns true for all a, b, c. Conditions: none.
-/
import Derived.Test.YtiphappckgmikaaSatTurns1
import Derived.Test.YtiphappckgmikaaSatTurns2
import Derived.Test.YtiphappckgmikaaSatTurns3
import Derived.Test.YtiphappckgmikaaSatTurns4
namespace Go.Proofs.Ytiphappckgmikaa
open Go.RowKit
theorem satTurns_any (a b c : Int) (ha : -9223372036854775808 ≤ a ∧ a ≤ 9223372036854775807) (hb : -9223372036854775808 ≤ b ∧ b ≤ 9223372036854775807) (hc : -9223372036854775808 ≤ c ∧ c ≤ 9223372036854775807) (w : World) :
    Calls Try.prog 5 #[.int .i64 a, .int .i64 b, .int .i64 c] w fun e w' => e = .returned (.bool true) ∧ Below w.heap.size w w' := by
  by_cases h : b < a <;> by_cases h0 : 0 ≤ c
  · exact satTurns_3 a b c ha hb hc h h0 w
  · exact satTurns_4 a b c ha hb hc h (by omega) w
  · exact satTurns_1 a b c ha hb hc (by omega) h0 w
  · exact satTurns_2 a b c ha hb hc (by omega) (by omega) w
end Go.Proofs.Ytiphappckgmikaa
