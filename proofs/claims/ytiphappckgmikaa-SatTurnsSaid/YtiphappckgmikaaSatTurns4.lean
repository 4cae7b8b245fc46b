/-
  The walk of the law SatTurns, a case of four. Conditions: the case's.
-/
import Derived.Test.YtiphappckgmikaaSatTurns0
namespace Go.Proofs.Ytiphappckgmikaa
open Go.RowKit
set_option maxHeartbeats 4000000 in
set_option maxRecDepth 100000 in
theorem satTurns_4 (a b c : Int) (ha : -9223372036854775808 ≤ a ∧ a ≤ 9223372036854775807) (hb : -9223372036854775808 ≤ b ∧ b ≤ 9223372036854775807) (hc : -9223372036854775808 ≤ c ∧ c ≤ 9223372036854775807) (hab : b < a) (hs : c < 0) (w : World) :
    Calls Try.prog 5 #[.int .i64 a, .int .i64 b, .int .i64 c] w fun e w' => e = .returned (.bool true) ∧ Below w.heap.size w w' := by
  obtain ⟨A1, q0, q1⟩ : ∃ A1 : Int, (∀ w : World, Calls Try.prog 40 #[.int .i64 a, .int .i64 b] w fun e w' => e = .returned (.int .i64 A1) ∧ w = w') ∧ (∀ w : World, Calls Try.prog 40 #[.int .i64 b, .int .i64 a] w fun e w' => e = .returned (.int .i64 A1) ∧ w = w') :=
    ⟨_, fun w => add_int64 a b ha hb w, fun w => by rw [Int.add_comm]; exact add_int64 b a hb ha w⟩
  obtain ⟨M1, q2, q3⟩ : ∃ M1 : Int, (∀ w : World, Calls Try.prog 41 #[.int .i64 a, .int .i64 b] w fun e w' => e = .returned (.int .i64 M1) ∧ w = w') ∧ (∀ w : World, Calls Try.prog 41 #[.int .i64 b, .int .i64 a] w fun e w' => e = .returned (.int .i64 M1) ∧ w = w') :=
    ⟨_, fun w => mul_int64 a b ha hb w, fun w => by rw [Int.mul_comm]; exact mul_int64 b a hb ha w⟩
  have q4 : (∀ w : World, Calls Try.prog 40 #[.int .i64 a, .int .i64 0] w fun e w' => e = .returned (.int .i64 a) ∧ w = w') := fun w => by have := add_int64 a 0 ha (by omega) w; rw [Int.add_zero, cl_in ha.1 ha.2] at this; exact this
  have q5 : (∀ w : World, Calls Try.prog 41 #[.int .i64 a, .int .i64 1] w fun e w' => e = .returned (.int .i64 a) ∧ w = w') := fun w => by have := mul_int64 a 1 ha (by omega) w; rw [Int.mul_one, cl_in ha.1 ha.2] at this; exact this
  obtain ⟨N1, q6, q7, q8, q9⟩ : ∃ N1 : Int, (∀ w : World, Calls Try.prog 41 #[.int .i64 a, .int .i64 (-1)] w fun e w' => e = .returned (.int .i64 N1) ∧ w = w') ∧ (∀ w : World, Calls Try.prog 42 #[.int .i64 a] w fun e w' => e = .returned (.int .i64 N1) ∧ w = w') ∧ (∀ w : World, Calls Try.prog 43 #[.int .i64 0, .int .i64 a] w fun e w' => e = .returned (.int .i64 N1) ∧ w = w') ∧ (∀ w : World, Calls Try.prog 42 #[.int .i64 a] w fun e w' => e = .returned (.int .i64 N1) ∧ w = w') :=
    ⟨_, fun w => by have := mul_int64 a (-1) ha (by omega) w; rw [Int.mul_neg, Int.mul_one] at this; exact this, fun w => neg_int64 a ha w, fun w => by have := sub_int64 0 a (by omega) ha w; rw [Int.zero_sub] at this; exact this, fun w => neg_int64 a ha w⟩
  obtain ⟨B1, gB10, q10⟩ : ∃ B1 : Int, 0 ≤ B1 ∧ (∀ w : World, Calls Try.prog 44 #[.int .i64 a] w fun e w' => e = .returned (.int .i64 B1) ∧ w = w') :=
    ⟨_, ab_cut a, fun w => abs_int64 a ha w⟩
  obtain ⟨P1, P2, gP10, q11, q12⟩ : ∃ P1 P2 : Int, P1 ≤ P2 ∧ (∀ w : World, Calls Try.prog 40 #[.int .i64 b, .int .i64 c] w fun e w' => e = .returned (.int .i64 P1) ∧ w = w') ∧ (∀ w : World, Calls Try.prog 40 #[.int .i64 a, .int .i64 c] w fun e w' => e = .returned (.int .i64 P2) ∧ w = w') :=
    ⟨_, _, cl_mono (by omega) (by omega), fun w => add_int64 b c hb hc w, fun w => add_int64 a c ha hc w⟩
  obtain ⟨Q1, Q2, gQ10, q13, q14⟩ : ∃ Q1 Q2 : Int, Q1 ≤ Q2 ∧ (∀ w : World, Calls Try.prog 43 #[.int .i64 b, .int .i64 c] w fun e w' => e = .returned (.int .i64 Q1) ∧ w = w') ∧ (∀ w : World, Calls Try.prog 43 #[.int .i64 a, .int .i64 c] w fun e w' => e = .returned (.int .i64 Q2) ∧ w = w') :=
    ⟨_, _, cl_mono (by omega) (by omega), fun w => sub_int64 b c hb hc w, fun w => sub_int64 a c ha hc w⟩
  obtain ⟨R1, R2, gR10, q15, q16⟩ : ∃ R1 R2 : Int, R2 ≤ R1 ∧ (∀ w : World, Calls Try.prog 43 #[.int .i64 c, .int .i64 b] w fun e w' => e = .returned (.int .i64 R1) ∧ w = w') ∧ (∀ w : World, Calls Try.prog 43 #[.int .i64 c, .int .i64 a] w fun e w' => e = .returned (.int .i64 R2) ∧ w = w') :=
    ⟨_, _, cl_mono (by omega) (by omega), fun w => sub_int64 c b hc hb w, fun w => sub_int64 c a hc ha w⟩
  obtain ⟨T1, T2, gT10, q17, q18⟩ : ∃ T1 T2 : Int, T1 ≤ T2 ∧ (∀ w : World, Calls Try.prog 18 #[.int .i64 b] w fun e w' => e = .returned (.int .i16 T1) ∧ w = w') ∧ (∀ w : World, Calls Try.prog 18 #[.int .i64 a] w fun e w' => e = .returned (.int .i16 T2) ∧ w = w') :=
    ⟨_, _, cl_mono (by omega) (by omega), fun w => to_int16_int64 b hb w, fun w => to_int16_int64 a ha w⟩
  obtain ⟨U1, U2, gU10, q19, q20⟩ : ∃ U1 U2 : Int, U2 ≤ U1 ∧ (∀ w : World, Calls Try.prog 41 #[.int .i64 b, .int .i64 c] w fun e w' => e = .returned (.int .i64 U1) ∧ w = w') ∧ (∀ w : World, Calls Try.prog 41 #[.int .i64 a, .int .i64 c] w fun e w' => e = .returned (.int .i64 U2) ∧ w = w') :=
    ⟨_, _, cl_mono (by omega) (Int.mul_le_mul_of_nonpos_right (by omega) (by omega)), fun w => mul_int64 b c hb hc w, fun w => mul_int64 a c ha hc w⟩
  obtain ⟨x, hxd⟩ : ∃ x, x = IntKind.i32.wrap a := ⟨_, rfl⟩
  obtain ⟨y, hyd⟩ : ∃ y, y = IntKind.i32.wrap b := ⟨_, rfl⟩
  have hx : -2147483648 ≤ x ∧ x ≤ 2147483647 := by rw [hxd, wrap_i32]; omega
  have hy : -2147483648 ≤ y ∧ y ≤ 2147483647 := by rw [hyd, wrap_i32]; omega
  have hm := mul_small hx hy
  have q21 : (∀ w : World, Calls Try.prog 40 #[.int .i64 x, .int .i64 y] w fun e w' => e = .returned (.int .i64 (x + y)) ∧ w = w') := fun w => by have := add_int64 x y (by omega) (by omega) w; rw [cl_in (by omega) (by omega)] at this; exact this
  have q22 : (∀ w : World, Calls Try.prog 43 #[.int .i64 x, .int .i64 y] w fun e w' => e = .returned (.int .i64 (x - y)) ∧ w = w') := fun w => by have := sub_int64 x y (by omega) (by omega) w; rw [cl_in (by omega) (by omega)] at this; exact this
  have q23 : (∀ w : World, Calls Try.prog 41 #[.int .i64 x, .int .i64 y] w fun e w' => e = .returned (.int .i64 (x * y)) ∧ w = w') := fun w => by have := mul_int64 x y (by omega) (by omega) w; rw [cl_in hm.1 hm.2] at this; exact this
  obtain ⟨D, gD0, gD1, gD2, q24⟩ : ∃ D : Int, b ≤ D ∧ D ≤ a ∧ (c < b ∨ a < c ∨ D = c) ∧ (∀ w : World, Calls Try.prog 45 #[.int .i64 c, .int .i64 b, .int .i64 a] w fun e w' => e = .returned (.int .i64 D) ∧ w = w') :=
    ⟨_, by unfold clamp; omega, by unfold clamp; omega, by unfold clamp; omega, fun w => clamp_int64 c b a w⟩
  have Z0 := Lib.hid q0; clear q0
  have Z1 := Lib.hid q1; clear q1
  have Z2 := Lib.hid q2; clear q2
  have Z3 := Lib.hid q3; clear q3
  have Z4 := Lib.hid q4; clear q4
  have Z5 := Lib.hid q5; clear q5
  have Z6 := Lib.hid q6; clear q6
  have Z7 := Lib.hid q7; clear q7
  have Z8 := Lib.hid q8; clear q8
  have Z9 := Lib.hid q9; clear q9
  have Z10 := Lib.hid q10; clear q10
  have Z11 := Lib.hid q11; clear q11
  have Z12 := Lib.hid q12; clear q12
  have Z13 := Lib.hid q13; clear q13
  have Z14 := Lib.hid q14; clear q14
  have Z15 := Lib.hid q15; clear q15
  have Z16 := Lib.hid q16; clear q16
  have Z17 := Lib.hid q17; clear q17
  have Z18 := Lib.hid q18; clear q18
  have Z19 := Lib.hid q19; clear q19
  have Z20 := Lib.hid q20; clear q20
  have Z21 := Lib.hid q21; clear q21
  have Z22 := Lib.hid q22; clear q22
  have Z23 := Lib.hid q23; clear q23
  have Z24 := Lib.hid q24; clear q24
  have wx : wrap32 a = x := by rw [← IntWalk.i32_left, ← hxd]
  have wy : wrap32 b = y := by rw [← IntWalk.i32_left, ← hyd]
  have wx' : IntKind.i32.wrap a = x := hxd.symm
  have wy' : IntKind.i32.wrap b = y := hyd.symm
  clear hxd hyd
  obtain ⟨hx0, hx1⟩ := hx
  obtain ⟨hy0, hy1⟩ := hy
  obtain ⟨hm0, hm1⟩ := hm
  obtain ⟨la, ua⟩ := ha
  obtain ⟨lb, ub⟩ := hb
  obtain ⟨lc, uc⟩ := hc
  go_enter Try.func5, Try.ntmps5
  go_wp2_with fail
  refine (works_any _).mono ?_
  rintro e w1 ⟨rfl, hb1⟩
  go_wp2_with fail
  refine (Z0.out _).mono ?_
  rintro e w' ⟨rfl, rfl⟩
  go_wp2_with fail
  refine (Z1.out _).mono ?_
  rintro e w' ⟨rfl, rfl⟩
  go_wp2_with fail
  refine (Z2.out _).mono ?_
  rintro e w' ⟨rfl, rfl⟩
  go_wp2_with fail
  refine (Z3.out _).mono ?_
  rintro e w' ⟨rfl, rfl⟩
  go_wp2_with fail
  refine (Z4.out _).mono ?_
  rintro e w' ⟨rfl, rfl⟩
  go_wp2_with fail
  refine (Z5.out _).mono ?_
  rintro e w' ⟨rfl, rfl⟩
  go_wp2_with fail
  refine (Z6.out _).mono ?_
  rintro e w' ⟨rfl, rfl⟩
  go_wp2_with fail
  refine (Z7.out _).mono ?_
  rintro e w' ⟨rfl, rfl⟩
  go_wp2_with fail
  refine (Z8.out _).mono ?_
  rintro e w' ⟨rfl, rfl⟩
  go_wp2_with fail
  refine (Z9.out _).mono ?_
  rintro e w' ⟨rfl, rfl⟩
  go_wp2_with fail
  refine (Z10.out _).mono ?_
  rintro e w' ⟨rfl, rfl⟩
  go_wp2_with fail
  refine (Z11.out _).mono ?_
  rintro e w' ⟨rfl, rfl⟩
  go_wp2_with fail
  refine (Z12.out _).mono ?_
  rintro e w' ⟨rfl, rfl⟩
  go_wp2_with fail
  refine (Z13.out _).mono ?_
  rintro e w' ⟨rfl, rfl⟩
  go_wp2_with fail
  refine (Z14.out _).mono ?_
  rintro e w' ⟨rfl, rfl⟩
  go_wp2_with fail
  refine (Z15.out _).mono ?_
  rintro e w' ⟨rfl, rfl⟩
  go_wp2_with fail
  refine (Z16.out _).mono ?_
  rintro e w' ⟨rfl, rfl⟩
  go_wp2_with fail
  refine (Z17.out _).mono ?_
  rintro e w' ⟨rfl, rfl⟩
  go_wp2_with fail
  refine (Z18.out _).mono ?_
  rintro e w' ⟨rfl, rfl⟩
  go_wp2_with fail
  refine (Z19.out _).mono ?_
  rintro e w' ⟨rfl, rfl⟩
  go_wp2_with fail
  refine (Z20.out _).mono ?_
  rintro e w' ⟨rfl, rfl⟩
  go_wp2_with fail
  refine (Z21.out _).mono ?_
  rintro e w' ⟨rfl, rfl⟩
  go_wp2_with fail
  refine (Z22.out _).mono ?_
  rintro e w' ⟨rfl, rfl⟩
  go_wp2_with fail
  refine (Z23.out _).mono ?_
  rintro e w' ⟨rfl, rfl⟩
  go_wp2_with fail
  refine (Z24.out _).mono ?_
  rintro e w' ⟨rfl, rfl⟩
  have hfin : decide (c < b) = true ∨ decide (a < c) = true ∨ (D == c) = true := by simpa using gD2
  clear gD2
  rcases (show c < b ∨ ¬ c < b by omega) with h1 | h1
  · go_wp2_with fail
    go_ret
    exact ⟨rfl, hb1⟩
  · rcases (show a < c ∨ ¬ a < c by omega) with h2 | h2
    · go_wp2_with fail
      go_ret
      exact ⟨rfl, hb1⟩
    · have h3 : (D == c) = true := by simpa [h1, h2] using hfin
      clear hfin
      go_wp2_with fail
      go_ret
      exact ⟨rfl, hb1⟩
end Go.Proofs.Ytiphappckgmikaa
