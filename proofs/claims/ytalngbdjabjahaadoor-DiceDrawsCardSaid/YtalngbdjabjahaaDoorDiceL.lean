/-
  Dice live: the walk of the law's test. Conditions: none.
-/
import Derived.Test.YtalngbdjabjahaaDoorDiceO
import Derived.Test.YtalngbdjabjahaaDoorEqInts
namespace Go.Proofs.YtalngbdjabjahaaDoor
open Go.RowKit
theorem lives_draw : (mix (adv 0)) = 16294208416658607535 := by decide +kernel
theorem lives_below : phi (mix (adv (adv 0))) 6 = 2 := by decide +kernel
theorem lives_order : ordOf 0 4 = [2, 0, 1, 3] := by decide +kernel
set_option maxHeartbeats 400000 in
theorem lives_any (w : World) : Calls Tryd.prog 11 #[] w fun e w' => e = .returned (.bool true) ∧ Below w.heap.size w w' := by
  go_enter Tryd.func11, Tryd.ntmps11
  go_wp2_with fail
  refine (new_rel 0 _).mono ?_
  rintro e w1 ⟨rfl, hd, hk⟩
  have HD := Lib.hid hd; have HK : Hid (Below w.heap.size w w1) := Lib.hid (hk.below (Nat.le_refl _) (fun _ h => h.elim)); clear hd hk
  go_wp2_with fail
  refine (next_rel _ 0 _ HD.out).mono ?_
  rintro e w2 ⟨rfl, hd, hk⟩
  rw [lives_draw]
  have HD2 := Lib.hid hd; have HK2 : Hid (Below w.heap.size w w2) := Lib.hid (HK.out.trans (hk.below (HK.out.size) (fun k e => by omega))); clear hd hk HD HK
  go_wp2_with fail
  refine (below_rel _ _ 6 6 rfl _ HD2.out (by omega) (by omega)).mono ?_
  rintro e w3 ⟨rfl, hd, hk⟩
  rw [lives_below]
  have HK3 : Hid (Below w.heap.size w w3) := Lib.hid (HK2.out.trans (hk.below (HK2.out.size) (fun k e => by omega))); clear hd hk HD2 HK2
  go_wp2_with fail
  refine (product_any 9223372036854775808 6 (by unfold W64; omega) (by unfold W64; omega) _).mono ?_
  rintro e w4 ⟨rfl, rfl⟩
  rw [show phi 9223372036854775808 6 = 3 from by decide +kernel, show plo 9223372036854775808 6 = 0 from by decide +kernel]
  go_wp2_with fail
  refine (new_rel 0 _).mono ?_
  rintro e w4 ⟨rfl, hd, hk⟩
  have HD4 := Lib.hid hd; have HK4 : Hid (Below w.heap.size w w4) := Lib.hid (belowThen' HK3.out (hk.below (Nat.le_refl _) (fun _ h => h.elim))); have hs4 := HK3.out.size; clear hd hk HK3
  go_wp2_with fail
  refine (order_any _ 0 4 _ HD4.out (by omega)).mono ?_
  rintro e w5 ⟨rfl, hW, _, _, hk⟩
  rw [lives_order] at hW
  have HK5 : Hid (Below w.heap.size w w5) := Lib.hid (HK4.out.trans (hk.below (HK4.out.size) (fun k e => by omega)))
  have hi := hW.inside
  have HW := Lib.hid hW; clear hW hk HK4 HD4
  go_wp2_with fail
  refine (eqInts_any [2, 0, 1, 3] [2, 0, 1, 3] _ _ (w5.heap.size + 1) (w5.heap.size + 1) 4 4 _ (ints_lies (t := 3) (HW.out.alloc _) (by omega)) (ints_lies (t := 3) (Whole.made w5 _ _) (by omega)) (by decide)).mono ?_
  rintro e w6 ⟨rfl, n, rfl⟩
  have HE : Hid (Below w.heap.size w ((w5.alloc (.cells #[.int .i64 2, .int .i64 0, .int .i64 1, .int .i64 3] 3)).drewN n)) := Lib.hid (belowN (HK5.out.alloc HK5.out.size _) n)
  go_wp2_with fail
  go_ret
  exact ⟨rfl, HE.out⟩
end Go.Proofs.YtalngbdjabjahaaDoor
