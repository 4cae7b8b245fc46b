/-
  A state within reach. Conditions: none.
-/
import Derived.Test.YthmfbcfbcookiaaGreatDoorWMh
namespace Go.Proofs.YthmfbcfbcookiaaGreatDoor
/-- Lengths that a machine bears. -/
structure StBig (s : St) : Prop where
  players : s.players.length ≤ 1000000000000000
  cards : s.cards.length ≤ 1000000000000000
  zones : s.zones.length ≤ 1000000000000000
  rows : ∀ r ∈ s.zones, r.length ≤ 1000000000000000
end Go.Proofs.YthmfbcfbcookiaaGreatDoor
