/-
  The laws DiceProducts and DiceGoesOn: the walks. Conditions: none.
-/
import Derived.Test.YtalngbdjabjahaaDiceL
namespace Go.Proofs.Ytalngbdjabjahaa
open Go.RowKit
set_option maxHeartbeats 400000 in
theorem diceProducts_any (a b : Int) (ha : 0 ≤ a ∧ a ≤ 18446744073709551615) (hb : 0 ≤ b ∧ b ≤ 18446744073709551615) (w : World) :
    Calls Try.prog 3 #[.int .u64 a, .int .u64 b] w fun e w' => e = .returned (.bool true) ∧ Below w.heap.size w w' := by
  obtain ⟨x, rfl⟩ := Int.eq_ofNat_of_zero_le ha.1
  obtain ⟨y, rfl⟩ := Int.eq_ofNat_of_zero_le hb.1
  have hx : W64 x := by unfold W64; omega
  have hy : W64 y := by unfold W64; omega
  clear ha hb
  have HX := Lib.hid hx; have HY := Lib.hid hy; clear hx hy
  go_enter Try.func3, Try.ntmps3
  go_wp2_with fail
  refine (product_any x y HX.out HY.out _).mono ?_
  rintro e w1 ⟨rfl, rfl⟩
  go_wp2_with fail
  refine (refProduct_any x y HX.out HY.out _).mono ?_
  rintro e w1 ⟨rfl, rfl⟩
  go_wp2_with fail
  refine (lives_any _).mono ?_
  rintro e w1 ⟨rfl, hb⟩
  have HB := Lib.hid hb; clear hb
  go_wp2_with fail
  go_ret
  exact ⟨rfl, HB.out⟩
/-- The place that stands behind k steps, as the law reckons it. -/
def plc (z k : Nat) : Nat := (z + k * 11400714819323198485) % 18446744073709551616
def plm (k : Nat) : Nat := k * 11400714819323198485 % 18446744073709551616
theorem adv_plc (z k : Nat) : adv (plc z k) = plc z (k + 1) := by unfold adv plc; omega
theorem plc_zero {z : Nat} (h : W64 z) : plc z 0 = z := by unfold plc; rw [Nat.zero_mul, Nat.add_zero]; exact Nat.mod_eq_of_lt h
theorem goes_mul (k : Nat) : IntKind.u64.wrap ((k : Int) * 11400714819323198485) = ((plm k : Nat) : Int) := by rw [IntKind.wrap_u64]; unfold plm; omega
theorem goes_add (z k : Nat) : IntKind.u64.wrap ((z : Int) + ((plm k : Nat) : Int)) = ((plc z k : Nat) : Int) := by rw [IntKind.wrap_u64]; unfold plm plc; omega
set_option maxHeartbeats 400000 in
theorem diceGoesOn_any (s k : Int) (hs : 0 ≤ s ∧ s ≤ 18446744073709551615) (w : World) :
    Calls Try.prog 5 #[.int .u64 s, .int .i64 k] w fun e w' => e = .returned (.bool true) ∧ Below w.heap.size w w' := by
  obtain ⟨z, rfl⟩ := Int.eq_ofNat_of_zero_le hs.1
  by_cases hk : k < 0
  · go_enter Try.func5, Try.ntmps5
    go_wp2_with fail
    refine (lives_any _).mono ?_
    rintro e w1 ⟨rfl, hb⟩
    go_wp2_with fail
    go_ret
    exact ⟨rfl, hb⟩
  · by_cases hk2 : 300 < k
    · go_enter Try.func5, Try.ntmps5
      go_wp2_with fail
      refine (lives_any _).mono ?_
      rintro e w1 ⟨rfl, hb⟩
      go_wp2_with fail
      go_ret
      exact ⟨rfl, hb⟩
    · have hz : W64 z := by unfold W64; omega
      have HZ := Lib.hid (plc_zero hz); clear hz hs
      obtain ⟨K, rfl⟩ := Int.eq_ofNat_of_zero_le (show 0 ≤ k by omega)
      go_enter Try.func5, Try.ntmps5
      go_wp2_with fail
      refine (new_rel z _).mono ?_
      rintro e w1 ⟨rfl, hd, hk1⟩
      rw [← HZ.out] at hd
      have HB := Lib.hid (hk1.below (Nat.le_refl _) (fun _ h => h.elim)); have HD := Lib.hid hd; clear hd hk1
      go_wp2_with fail
      go_loopw [6] (fun vi wr => ∃ j : Nat, j ≤ K + 1 ∧ vi = .int .i64 j ∧ Hid (DiceAt wr w.heap.size (plc z j)) ∧ Hid (Below w.heap.size w wr)) (fun vi _ => K + 1 - (intOf vi).toNat)
      case atStart => exact ⟨0, by omega, rfl, HD, HB⟩
      case round =>
        clear HD HB
        obtain ⟨j, hj, rfl, HD, HB⟩ := hrel
        by_cases hlt : j ≤ K
        · have e1 := goes_mul j
          have e2 := goes_add z j
          have hin0 := HD.out.inside
          go_wp2_with fail
          refine (new_rel (plc z j) _).mono ?_
          rintro e w2 ⟨rfl, hd2, hk2⟩
          have HD' := Lib.hid (HD.out.keeps hk2 (fun h => h)); have HB' := Lib.hid (belowThen' HB.out (hk2.below (Nat.le_refl _) (fun _ h => h.elim))); have HD2 := Lib.hid hd2; clear hd2 hk2 HD HB
          go_wp2_with fail
          refine (next_rel _ _ _ HD2.out).mono ?_
          rintro e w3 ⟨rfl, hd3, hk3⟩
          have hne : w.heap.size ≠ wr.heap.size := Nat.ne_of_lt hin0
          have HD3 := Lib.hid (HD'.out.keeps hk3 hne); have HB3 := Lib.hid (HB'.out.trans (hk3.below (HB'.out.size) (fun k e => by omega))); clear hd3 hk3 HD' HB' HD2
          go_wp2_with fail
          refine (next_rel _ _ _ HD3.out).mono ?_
          rintro e w4 ⟨rfl, hd4, hk4⟩
          rw [adv_plc] at hd4
          have HD4 := Lib.hid hd4; have HB4 := Lib.hid (HB3.out.trans (hk4.below (HB3.out.size) (fun k e => by omega))); clear hd4 hk4 HD3 HB3
          have ht : ((mix (adv (plc z j)) : Int) != (mix (adv (plc z j)) : Int)) = false := by simp
          go_wp2_with fail
          go_roundw
          case rel => exact ⟨j + 1, by omega, by go_num, HD4, HB4⟩
          case measure => simp [intOf]; omega
        · go_wp2_with fail
          refine (lives_any _).mono ?_
          rintro e w5 ⟨rfl, hb⟩
          have HB5 := Lib.hid (belowThen' HB.out hb); clear hb
          go_wp2_with fail
          go_ret
          exact ⟨rfl, HB5.out⟩
end Go.Proofs.Ytalngbdjabjahaa
