/-
  The reference's reader: a number, the head, a byte that says no or yes: the walks. Conditions: lengths within 2 ^ 40; one to four bytes.
-/
import Derived.Test.YthmfbcfbcookiaaGreatDoorImMe
namespace Go.Proofs.YthmfbcfbcookiaaGreatDoor
open Go.RowKit
section
variable {w w' : World} {r B cap i : Nat} {A : Option Addr} {b : List Oct} {bad : Bool}
end
/-- The head's bytes, in a row of their own. -/
def headA : Array Value := #[.int .u8 84, .int .u8 66, .int .u8 76, .int .u8 83, .int .u8 1]
theorem refHeadL_any (w : World) : Calls Tryz.prog 73 #[] w fun e w' => e = .returned (.slice (some ⟨w.heap.size, 0, none⟩) 5 5) ∧ w' = w.alloc (.cells headA 5) := by
  unfold headA
  go_enter Tryz.func73, Tryz.ntmps73
  go_wp2_with fail
  go_ret
  exact ⟨rfl, rfl⟩
theorem headA_get (k : Nat) (hk : k < 5) : headA[k]? = some (.int .u8 ((headL[k]'hk).toNat : Int)) := by
  match k, hk with
  | 0, _ => rfl
  | 1, _ => rfl
  | 2, _ => rfl
  | 3, _ => rfl
  | 4, _ => rfl
end Go.Proofs.YthmfbcfbcookiaaGreatDoor
