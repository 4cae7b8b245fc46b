/-
  The document's dice: the walks. Conditions: none.
-/
import Derived.Test.YtalngbdjabjahaaDoorDiceQs
import Derived.Test.YtalngbdjabjahaaDoorShufR
import Derived.Test.YtalngbdjabjahaaDoorDiceO
namespace Go.Proofs.YtalngbdjabjahaaDoor
open Go.RowKit Flt
/-- The document's dice stand at block g, at the place z. -/
def RDiceAt (w : World) (g z : Nat) : Prop := Whole w g 84 (dcells z)
theorem rnew_rel (z : Nat) (w : World) :
    Calls Tryd.prog 13 #[.int .u64 z] w fun e w' => e = .returned (.pointer (some ⟨w.heap.size, 0, none⟩)) ∧ RDiceAt w' w.heap.size z ∧ Keeps (fun _ => False) w w' := by
  go_enter Tryd.func13, Tryd.ntmps13
  go_wp2_with fail
  go_ret
  exact ⟨rfl, Whole.made _ _ _, (Keeps.refl _ _).alloc _⟩
theorem rnext_any (g z : Nat) (w : World) (hd : RDiceAt w g z) :
    Calls Tryd.prog 16 #[.pointer (some ⟨g, 0, none⟩)] w fun e w' => e = .returned (.int .u64 (mix (adv z) : Nat)) ∧ w' = w.setCell ⟨g, 0, none⟩ (.int .u64 (adv z : Nat)) := by
  have h0 : w.cell? ⟨g, 0, none⟩ = some (.int .u64 (z : Nat)) := hd.cellAt 0
  have h1 : w.cell? ⟨g, 1, none⟩ = some (.bool true) := hd.cellAt 1
  have hf := hd.free 0
  have e0 := adv_i z
  have e1 := mx1_i (adv64 z)
  have e2 := mx2_i (mx1 (adv z))
  have e3 := mx3_i (mx2_64 (mx1 (adv z)))
  have e4 := mx4_i (mx3 (mx2 (mx1 (adv z))))
  have e5 := mx5_i (mx4_64 (mx3 (mx2 (mx1 (adv z)))))
  go_enter Tryd.func16, Tryd.ntmps16
  go_wp2_with fail
  go_ret
  exact ⟨rfl, rfl⟩
theorem rnext_rel (g z : Nat) (w : World) (hd : RDiceAt w g z) :
    Calls Tryd.prog 16 #[.pointer (some ⟨g, 0, none⟩)] w fun e w' => e = .returned (.int .u64 (mix (adv z) : Nat)) ∧ RDiceAt w' g (adv z) ∧ Keeps (fun b => b = g) w w' :=
  (rnext_any g z w hd).mono fun _ _ ⟨he, hw⟩ => by subst hw; exact ⟨he, hd.put 0 _, (Keeps.refl (fun b => b = g) w).setCell (fun _ => rfl) _⟩
theorem rbelow_rel (g z n : Nat) (w : World) (hd : RDiceAt w g z) (h1 : 1 ≤ n) (h2 : n ≤ 9223372036854775807) :
    Calls Tryd.prog 42 #[.pointer (some ⟨g, 0, none⟩), .int .i64 n] w fun e w' => e = .returned (.int .i64 (phi (mix (adv z)) n : Nat)) ∧ RDiceAt w' g (adv z) ∧ Keeps (fun b => b = g) w w' := by
  have hb := phi_lt (mix64 (adv z)) h1
  have hw1 := u64_in n (by omega)
  have hw2 := i64_in (phi (mix (adv z)) n) (by omega)
  have c1 : w.cell? ⟨g, 1, none⟩ = some (.bool true) := hd.cellAt 1
  go_enter Tryd.func42, Tryd.ntmps42
  go_wp2_with fail
  refine (rnext_rel g z _ hd).mono ?_
  rintro e w1 ⟨rfl, hd1, hk⟩
  have HD := Lib.hid hd1; have HK := Lib.hid hk; clear hd1 hk
  go_wp2_with fail
  refine (refProduct_any _ _ (mix64 (adv z)) (by unfold W64; omega) _).mono ?_
  rintro e w' ⟨rfl, rfl⟩
  go_wp2_with fail
  go_ret
  exact ⟨rfl, HD.out, HK.out⟩
theorem rbelow_none (g z : Nat) (n : Int) (w : World) (hd : RDiceAt w g z) (h1 : n < 1) :
    Calls Tryd.prog 42 #[.pointer (some ⟨g, 0, none⟩), .int .i64 n] w fun e w' => e = .returned (.int .i64 0) ∧ w = w' := by
  have c1 : w.cell? ⟨g, 1, none⟩ = some (.bool true) := hd.cellAt 1
  go_enter Tryd.func42, Tryd.ntmps42
  go_wp2_with fail
  go_ret
  exact ⟨rfl, rfl⟩
set_option maxHeartbeats 400000 in
theorem rshare_rel (g z : Nat) (w : World) (hd : RDiceAt w g z) :
    Calls Tryd.prog 44 #[.pointer (some ⟨g, 0, none⟩)] w fun e w' => e = .returned (.float .f64 (shareW (mix (adv z)))) ∧ RDiceAt w' g (adv z) ∧ Keeps (fun b => b = g) w w' := by
  have hs := (share_all _ (mix64 (adv z))).1
  unfold bitsW at hs
  rw [← shr11] at hs
  have hq := fun w => run_float_arith (P := Tryd.prog) w .quo 85 .f64 _ _ _ hs
  have hc := fun (w : World) (n : Int) => run_convert_int_float (P := Tryd.prog) (w := w) 61 85 .u64 .f64 n u64_is Tryd.underlying85
  have c1 : w.cell? ⟨g, 1, none⟩ = some (.bool true) := hd.cellAt 1
  clear hs
  go_enter Tryd.func44, Tryd.ntmps44
  go_wp2_with fail
  refine (rnext_rel g z _ hd).mono ?_
  rintro e w1 ⟨rfl, hd1, hk⟩
  have HK := Lib.hid hk; have HD := Lib.hid hd1; clear hk hd1
  go_wp2_with fail
  go_ret
  exact ⟨rfl, HD.out, HK.out⟩
theorem share_rel2 (g z : Nat) (w : World) (hd : DiceAt w g z) :
    Calls Tryd.prog 43 #[.pointer (some ⟨g, 0, none⟩)] w fun e w' => e = .returned (.float .f64 (shareW (mix (adv z)))) ∧ DiceAt w' g (adv z) ∧ Keeps (fun b => b = g) w w' := by
  have hs := (share_all _ (mix64 (adv z))).1
  unfold bitsW at hs
  rw [← shr11] at hs
  have hq := fun w => run_float_arith (P := Tryd.prog) w .quo 85 .f64 _ _ _ hs
  have hc := fun (w : World) (n : Int) => run_convert_int_float (P := Tryd.prog) (w := w) 61 85 .u64 .f64 n u64_is Tryd.underlying85
  clear hs
  go_enter Tryd.func43, Tryd.ntmps43
  go_wp2_with fail
  refine (none_any g z _ hd).mono ?_
  rintro e w' ⟨rfl, rfl⟩
  go_wp2_with fail
  refine (next_rel g z _ hd).mono ?_
  rintro e w1 ⟨rfl, hd1, hk⟩
  have HK := Lib.hid hk; have HD := Lib.hid hd1; clear hk hd1
  go_wp2_with fail
  go_ret
  exact ⟨rfl, HD.out, HK.out⟩
/-- A number brought into 0 to most. -/
def withV (n most : Int) : Int := (if n < 0 then -(n + 1) else n) % (most + 1)
theorem withV_bd (n most : Int) (hm : 0 ≤ most) : 0 ≤ withV n most ∧ withV n most ≤ most := by
  unfold withV
  have h1 := Int.emod_nonneg (if n < 0 then -(n + 1) else n) (show most + 1 ≠ 0 by omega)
  have h2 := Int.emod_lt_of_pos (if n < 0 then -(n + 1) else n) (show 0 < most + 1 by omega)
  omega
end Go.Proofs.YtalngbdjabjahaaDoor
