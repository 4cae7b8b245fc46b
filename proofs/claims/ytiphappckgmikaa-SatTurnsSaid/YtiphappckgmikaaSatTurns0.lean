/-
  What the law SatTurns leans on: what rises, rises when it is cut. Conditions: none.
-/
import Derived.Test.YtiphappckgmikaaSatW
namespace Go.Proofs.Ytiphappckgmikaa
open Go.RowKit
theorem cl_mono {lo hi x y : Int} (h : lo ≤ hi) (hxy : x ≤ y) : cl lo hi x ≤ cl lo hi y := by
  unfold cl; (repeat' split) <;> omega
theorem ab_cut (a : Int) : 0 ≤ cl (-9223372036854775808) 9223372036854775807 (ab a) := by
  unfold cl ab; (repeat' split) <;> omega
theorem mul_small {x y : Int} (hx : -2147483648 ≤ x ∧ x ≤ 2147483647) (hy : -2147483648 ≤ y ∧ y ≤ 2147483647) : -9223372036854775808 ≤ x * y ∧ x * y ≤ 9223372036854775807 := by
  have h : (x * y).natAbs ≤ 2147483648 * 2147483648 := by
    rw [Int.natAbs_mul]; exact Nat.mul_le_mul (by omega) (by omega)
  omega
end Go.Proofs.Ytiphappckgmikaa
