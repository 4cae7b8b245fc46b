/-
  The law DiceNil: the walk. Conditions: none.
-/
import Derived.Test.YtalngbdjabjahaaDiceM
namespace Go.Proofs.Ytalngbdjabjahaa
open Go.RowKit
set_option maxHeartbeats 400000 in
theorem diceNil_any (n : Int) (w : World) : Calls Try.prog 8 #[.int .i64 n] w fun e w' => e = .returned (.bool true) ∧ Below w.heap.size w w' := by
  go_enter Try.func8, Try.ntmps8
  go_wp2_with fail
  have HW := Lib.hid (Whole.made w 57 #[.int .u64 0, .bool false])
  refine (silent_any none n _ (.inl rfl)).mono ?_
  rintro e w1 ⟨rfl, hb⟩
  have HW1 := Lib.hid (HW.out.past hb)
  have HB1 := Lib.hid (belowThen' ((Below.refl _ w).alloc (Nat.le_refl _) _) hb)
  clear hb HW
  go_wp2_with fail
  refine (silent_any (some ⟨w.heap.size, 0, none⟩) n _ (.inr ⟨_, rfl, HW1.out⟩)).mono ?_
  rintro e w2 ⟨rfl, hb⟩
  have HB2 := Lib.hid (belowThen' HB1.out hb)
  clear hb HB1 HW1
  go_wp2_with fail
  refine (lives_any _).mono ?_
  rintro e w3 ⟨rfl, hb⟩
  have HB3 := Lib.hid (belowThen' HB2.out hb)
  clear hb HB2
  go_wp2_with fail
  go_ret
  exact ⟨rfl, HB3.out⟩
end Go.Proofs.Ytalngbdjabjahaa
