/-
  The law DiceBelow: the walk. Conditions: none.
-/
import Derived.Test.YtalngbdjabjahaaDiceL
import Derived.Test.YtalngbdjabjahaaFlt
namespace Go.Proofs.Ytalngbdjabjahaa
open Go.RowKit Flt
theorem shr11 (x : Nat) : ((x : Int) / 2048) = ((x / 2048 : Nat) : Int) := by omega
theorem u64_is : (Try.prog.underlying 22).isSome = true := by rw [Try.underlying22]; rfl
theorem f64_is : (Try.prog.underlying 48).isSome = true := by rw [Try.underlying48]; rfl
set_option maxHeartbeats 400000 in
theorem share_rel (g z : Nat) (w : World) (hd : DiceAt w g z) :
    Calls Try.prog 21 #[.pointer (some ⟨g, 0, none⟩)] w fun e w' => e = .returned (.float .f64 (shareW (mix (adv z)))) ∧ Keeps (fun b => b = g) w w' := by
  have hs := (share_all _ (mix64 (adv z))).1
  unfold bitsW at hs
  rw [← shr11] at hs
  have hq := fun w => run_float_arith (P := Try.prog) w .quo 48 .f64 _ _ _ hs
  have hc := fun (w : World) (n : Int) => run_convert_int_float (P := Try.prog) (w := w) 22 48 .u64 .f64 n u64_is Try.underlying48
  clear hs
  go_enter Try.func21, Try.ntmps21
  go_wp2_with fail
  refine (none_any g z _ hd).mono ?_
  rintro e w' ⟨rfl, rfl⟩
  go_wp2_with fail
  refine (next_rel g z _ hd).mono ?_
  rintro e w1 ⟨rfl, _, hk⟩
  have HK := Lib.hid hk; clear hk
  go_wp2_with fail
  go_ret
  exact ⟨rfl, HK.out⟩
set_option maxHeartbeats 1000000 in
theorem diceBelow_any (s n : Int) (hs : 0 ≤ s ∧ s ≤ 18446744073709551615) (hn : -9223372036854775808 ≤ n ∧ n ≤ 9223372036854775807) (w : World) :
    Calls Try.prog 6 #[.int .u64 s, .int .i64 n] w fun e w' => e = .returned (.bool true) ∧ Below w.heap.size w w' := by
  obtain ⟨z, rfl⟩ := Int.eq_ofNat_of_zero_le hs.1
  clear hs
  go_enter Try.func6, Try.ntmps6
  go_wp2_with fail
  refine (new_rel z _).mono ?_
  rintro e w1 ⟨rfl, hd, hk⟩
  have HD := Lib.hid hd; have HK : Hid (Below w.heap.size w w1) := Lib.hid (hk.below (Nat.le_refl _) (fun _ h => h.elim)); clear hd hk
  go_wp2_with fail
  refine (next_rel _ z _ HD.out).mono ?_
  rintro e w2 ⟨rfl, _, hk⟩
  have HK2 : Hid (Below w.heap.size w w2) := Lib.hid (HK.out.trans (hk.below (HK.out.size) (fun k e => by omega))); clear hk HD HK
  go_wp2_with fail
  refine (new_rel z _).mono ?_
  rintro e w3 ⟨rfl, hd, hk⟩
  have hs2 := HK2.out.size
  have HD3 := Lib.hid hd; have HK3 : Hid (Below w.heap.size w w3) := Lib.hid (belowThen' HK2.out (hk.below (Nat.le_refl _) (fun _ h => h.elim))); clear hd hk HK2
  by_cases h1 : n < 1
  · go_wp2_with fail
    refine (below_none _ z n _ HD3.out h1).mono ?_
    rintro e w4 ⟨rfl, rfl⟩
    go_wp2_with fail
    refine (next_rel _ z _ HD3.out).mono ?_
    rintro e w5 ⟨rfl, _, hk⟩
    have HK5 : Hid (Below w.heap.size w w5) := Lib.hid (HK3.out.trans (hk.below (HK3.out.size) (fun k e => by omega))); clear hk HK3 HD3
    have ht : ((mix (adv z) : Int) == (mix (adv z) : Int)) = true := by simp
    go_wp2_with fail
    refine (lives_any _).mono ?_
    rintro e w6 ⟨rfl, hb⟩
    have HB := Lib.hid (belowThen' HK5.out hb); clear hb
    go_wp2_with fail
    go_ret
    exact ⟨rfl, HB.out⟩
  · obtain ⟨m, rfl⟩ := Int.eq_ofNat_of_zero_le (show 0 ≤ n by omega)
    have hm1 : 1 ≤ m := by omega
    have hm2 : m ≤ 9223372036854775807 := by omega
    clear h1 hn
    go_wp2_with fail
    refine (below_rel _ z m m rfl _ HD3.out hm1 hm2).mono ?_
    rintro e w4 ⟨rfl, _, hk⟩
    have HK4 : Hid (Below w.heap.size w w4) := Lib.hid (HK3.out.trans (hk.below (HK3.out.size) (fun k e => by omega))); clear hk HK3 HD3
    have hp := phi_lt (mix64 (adv z)) hm1
    have hw1 := u64_in m (by omega)
    have hw2 := i64_in (phi (mix (adv z)) m) (by omega)
    go_wp2_with fail
    refine (product_any _ _ (mix64 (adv z)) (by unfold W64; omega) _).mono ?_
    rintro e w5 ⟨rfl, rfl⟩
    go_wp2_with fail
    refine (new_rel z _).mono ?_
    rintro e w5 ⟨rfl, hd, hk⟩
    have hs4 := HK4.out.size
    have HD5 := Lib.hid hd; have HK5 : Hid (Below w.heap.size w w5) := Lib.hid (belowThen' HK4.out (hk.below (Nat.le_refl _) (fun _ h => h.elim))); clear hd hk HK4
    go_wp2_with fail
    refine (share_rel _ z _ HD5.out).mono ?_
    rintro e w6 ⟨rfl, hk⟩
    have HK6 : Hid (Below w.heap.size w w6) := Lib.hid (HK5.out.trans (hk.below (HK5.out.size) (fun k e => by omega))); clear hk HK5 HD5
    obtain ⟨_, q2, q3, q4, q5, q6⟩ := share_all _ (mix64 (adv z))
    rw [← shr11] at q3
    have hq2 := fun w => run_float_arith (P := Try.prog) w .mul 48 .f64 _ _ _ q2
    have hq3 := fun w => run_convert_float_int (P := Try.prog) w 48 22 .f64 .u64 _ _ f64_is Try.underlying22 q3
    have hc := fun (w : World) (n : Int) => run_convert_int_float (P := Try.prog) (w := w) 22 48 .u64 .f64 n u64_is Try.underlying48
    have hb : floatOfInt .f64 ((mix (adv z) : Int) / 2048) = bitsW (mix (adv z)) := by rw [shr11]; rfl
    have q4' : (FloatKind.f64.format.order (bitsW (mix (adv z))) (bitsW (mix (adv z))) == some .eq) = true := q4
    have q5' : (FloatKind.f64.format.order (shareW (mix (adv z))) 0 == some .gt || FloatKind.f64.format.order (shareW (mix (adv z))) 0 == some .eq) = true := q5
    have q6' : (FloatKind.f64.format.order (shareW (mix (adv z))) 4607182418800017408 == some .lt) = true := q6
    clear q2 q3 q4 q5 q6
    generalize bitsW (mix (adv z)) = fb at *
    generalize shareW (mix (adv z)) = fs at *
    go_wp2_with fail
    refine (lives_any _).mono ?_
    rintro e w7 ⟨rfl, hb⟩
    have HB := Lib.hid (belowThen' HK6.out hb); clear hb
    go_wp2_with fail
    go_ret
    exact ⟨rfl, HB.out⟩
end Go.Proofs.Ytalngbdjabjahaa
