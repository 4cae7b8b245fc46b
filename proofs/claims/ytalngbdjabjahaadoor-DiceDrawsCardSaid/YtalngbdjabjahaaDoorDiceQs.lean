/-
  Words for Share. Conditions: none.
-/
import Derived.Test.YtalngbdjabjahaaDoorDiceC
import Derived.Test.YtalngbdjabjahaaDoorFlt
namespace Go.Proofs.YtalngbdjabjahaaDoor
open Go.RowKit Flt
theorem shr11 (x : Nat) : ((x : Int) / 2048) = ((x / 2048 : Nat) : Int) := by omega
theorem u64_is : (Tryd.prog.underlying 61).isSome = true := by rw [Tryd.underlying61]; rfl
theorem f64_is : (Tryd.prog.underlying 85).isSome = true := by rw [Tryd.underlying85]; rfl
end Go.Proofs.YtalngbdjabjahaaDoor
