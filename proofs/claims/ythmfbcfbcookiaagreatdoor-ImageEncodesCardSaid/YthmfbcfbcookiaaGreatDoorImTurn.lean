/-
  The turn of a state that comes in is a number of 32 bits. Conditions: none.
-/
import Derived.Test.YthmfbcfbcookiaaGreatDoorStOpen
import Derived.Test.YthmfbcfbcookiaaGreatDoorImMa
namespace Go.Proofs.YthmfbcfbcookiaaGreatDoor
theorem turn_of {s : St} (h : StWf s) : in32 s.turn := by
  have h1 := h.turn
  simp [Lit.wf, IntKind.min, IntKind.max, IntKind.signed, IntKind.bits] at h1
  unfold in32
  omega
end Go.Proofs.YthmfbcfbcookiaaGreatDoor
