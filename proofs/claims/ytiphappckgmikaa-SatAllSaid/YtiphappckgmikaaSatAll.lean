/-
  The walk of the law SatAll: it returns true. Conditions: none.
-/
import Derived.Test.YtiphappckgmikaaSatW
namespace Go.Proofs.Ytiphappckgmikaa
open Go.RowKit

theorem cutN_any (n : Int) (w : World) :
    Calls Try.prog 49 #[.int .i64 n] w fun e w' => e = .returned (.int .i64 (cl (-128) 127 n)) ∧ w = w' := by
  go_enter Try.func49, Try.ntmps49
  go_wp2_with fail
  all_goals
    go_ret
    refine ⟨ret_int ?_, rfl⟩
    (unfold cl; (try simp only [wr_all] at *); (split <;> first | omega | (split <;> omega)))
theorem ab_max (a : Int) : ab a = max a (-a) := by unfold ab; split <;> omega
theorem mul_byte {x y : Int} (hx : -128 ≤ x ∧ x ≤ 127) (hy : -128 ≤ y ∧ y ≤ 127) : -9223372036854775808 ≤ x * y ∧ x * y ≤ 9223372036854775807 := by
  have h : (x * y).natAbs ≤ 128 * 128 := by
    rw [Int.natAbs_mul]; exact Nat.mul_le_mul (by omega) (by omega)
  omega

set_option maxHeartbeats 4000000 in
set_option maxRecDepth 100000 in
theorem satAll_any (w : World) :
    Calls Try.prog 7 #[] w fun e w' => e = .returned (.bool true) ∧ Below w.heap.size w w' := by
  go_enter Try.func7, Try.ntmps7
  go_wp2_with fail
  refine (works_any _).mono ?_
  rintro e w1 ⟨rfl, hb1⟩
  go_wp2_with fail
  go_loop [1, 2] (fun vo va => ∃ a : Int, -128 ≤ a ∧ a ≤ 128 ∧ va = .int .i64 a ∧ vo = .bool true) (fun _ va => (128 - intOf va).toNat)
  case atStart => exact ⟨-128, by omega, by omega, rfl, rfl⟩
  case round =>
    obtain ⟨a, ha0, ha1, rfl, rfl⟩ := hrel
    by_cases hlt : a < 128
    · have ha : -128 ≤ a ∧ a ≤ 127 := ⟨ha0, by omega⟩
      obtain ⟨N, n1, n2⟩ : ∃ N, (∀ w : World, Calls Try.prog 48 #[.int .i8 a] w fun e w' => e = .returned (.int .i8 N) ∧ w = w') ∧ (-128 ≤ N ∧ N ≤ 127) ∧ (∀ w : World, Calls Try.prog 49 #[.int .i64 (-a)] w fun e w' => e = .returned (.int .i64 N) ∧ w = w') :=
        ⟨_, fun w => neg_int8 a ha w, cl_bd _ (by omega), fun w => cutN_any _ w⟩
      obtain ⟨B, m1, m2⟩ : ∃ N, (∀ w : World, Calls Try.prog 50 #[.int .i8 a] w fun e w' => e = .returned (.int .i8 N) ∧ w = w') ∧ (-128 ≤ N ∧ N ≤ 127) ∧ (∀ (x : Int) (w : World), x = max a (-a) → Calls Try.prog 49 #[.int .i64 x] w fun e w' => e = .returned (.int .i64 N) ∧ w = w') :=
        ⟨_, fun w => abs_int8 a ha w, cl_bd _ (by omega), fun x w h => by rw [ab_max, ← h]; exact cutN_any _ w⟩
      obtain ⟨⟨nl, nu⟩, n2⟩ := n2
      obtain ⟨⟨ml, mu⟩, m2⟩ := m2
      have Z1 := Lib.hid n1; clear n1
      have Z2 := Lib.hid n2; clear n2
      have Z3 := Lib.hid m1; clear m1
      have Z4 := Lib.hid m2; clear m2
      have wa : IntKind.i8.wrap a = a := IntWalk.i8_in _ ha
      go_wp2_with fail
      refine (Z1.out _).mono ?_
      rintro e w' ⟨rfl, rfl⟩
      go_wp2_with fail
      refine (Z2.out _).mono ?_
      rintro e w' ⟨rfl, rfl⟩
      go_wp2_with fail
      refine (Z3.out _).mono ?_
      rintro e w' ⟨rfl, rfl⟩
      go_wp2_with fail
      all_goals
        refine (Z4.out _ _ (by omega)).mono ?_
        rintro e w' ⟨rfl, rfl⟩
        clear Z1 Z2 Z3 Z4 nl nu ml mu
        go_wp2_with fail
        go_loop [1, 4] (fun vo vb => ∃ b : Int, -128 ≤ b ∧ b ≤ 128 ∧ vb = .int .i64 b ∧ vo = .bool true) (fun _ vb => (128 - intOf vb).toNat)
        case atStart => exact ⟨-128, by omega, by omega, rfl, rfl⟩
        case round =>
          obtain ⟨b, hb0, hb2, rfl, rfl⟩ := hrel
          by_cases hltb : b < 128
          · have hb : -128 ≤ b ∧ b ≤ 127 := ⟨hb0, by omega⟩
            have wb : IntKind.i8.wrap b = b := IntWalk.i8_in _ hb
            have hmb := mul_byte ha hb
            obtain ⟨A, ⟨Al, Au⟩, q1, q2⟩ : ∃ N, (-128 ≤ N ∧ N ≤ 127) ∧ (∀ w : World, Calls Try.prog 51 #[.int .i8 a, .int .i8 b] w fun e w' => e = .returned (.int .i8 N) ∧ w = w') ∧ (∀ w : World, Calls Try.prog 49 #[.int .i64 (a + b)] w fun e w' => e = .returned (.int .i64 N) ∧ w = w') :=
              ⟨_, cl_bd _ (by omega), fun w => add_int8 a b ha hb w, fun w => cutN_any _ w⟩
            obtain ⟨S, ⟨Sl, Su⟩, q3, q4⟩ : ∃ N, (-128 ≤ N ∧ N ≤ 127) ∧ (∀ w : World, Calls Try.prog 52 #[.int .i8 a, .int .i8 b] w fun e w' => e = .returned (.int .i8 N) ∧ w = w') ∧ (∀ w : World, Calls Try.prog 49 #[.int .i64 (a - b)] w fun e w' => e = .returned (.int .i64 N) ∧ w = w') :=
              ⟨_, cl_bd _ (by omega), fun w => sub_int8 a b ha hb w, fun w => cutN_any _ w⟩
            obtain ⟨M, ⟨Ml, Mu⟩, q5, q6⟩ : ∃ N, (-128 ≤ N ∧ N ≤ 127) ∧ (∀ w : World, Calls Try.prog 53 #[.int .i8 a, .int .i8 b] w fun e w' => e = .returned (.int .i8 N) ∧ w = w') ∧ (∀ w : World, Calls Try.prog 49 #[.int .i64 (a * b)] w fun e w' => e = .returned (.int .i64 N) ∧ w = w') :=
              ⟨_, cl_bd _ (by omega), fun w => mul_int8 a b ha hb w, fun w => cutN_any _ w⟩
            have hd := fun w => div_int8 a b ha hb w
            have hr := fun w => rem_int8 a b w
            have HA := Lib.hid ha
            have Q1 := Lib.hid q1; clear q1
            have Q2 := Lib.hid q2; clear q2
            have Q3 := Lib.hid q3; clear q3
            have Q4 := Lib.hid q4; clear q4
            have Q5 := Lib.hid q5; clear q5
            have Q6 := Lib.hid q6; clear q6
            by_cases h0 : b = 0
            · subst h0
              rw [show cl (-128) 127 (a.tdiv 0) = 0 from by rw [Int.tdiv_zero]; rfl, show decide ((0 : Int) ≠ 0) = false from rfl] at hd
              rw [show rm a 0 = 0 from rfl, show decide ((0 : Int) ≠ 0) = false from rfl] at hr
              have D1 := Lib.hid hd; clear hd
              have D2 := Lib.hid hr; clear hr
              simp only [Int.add_zero, Int.sub_zero, Int.mul_zero] at Q2 Q4 Q6
              go_wp2_with fail
              refine (Q1.out _).mono ?_
              rintro e w' ⟨rfl, rfl⟩
              go_wp2_with fail
              refine (Q2.out _).mono ?_
              rintro e w' ⟨rfl, rfl⟩
              go_wp2_with fail
              refine (Q3.out _).mono ?_
              rintro e w' ⟨rfl, rfl⟩
              go_wp2_with fail
              refine (Q4.out _).mono ?_
              rintro e w' ⟨rfl, rfl⟩
              go_wp2_with fail
              refine (Q5.out _).mono ?_
              rintro e w' ⟨rfl, rfl⟩
              go_wp2_with fail
              refine (Q6.out _).mono ?_
              rintro e w' ⟨rfl, rfl⟩
              go_wp2_with fail
              refine (D1.out _).mono ?_
              rintro e w' ⟨rfl, rfl⟩
              go_wp2_with fail
              refine (D2.out _).mono ?_
              rintro e w' ⟨rfl, rfl⟩
              go_wp2_with fail
              go_round
              case rel => exact ⟨1, by omega, by omega, rfl, rfl⟩
              case measure => simp [intOf]
            · have hne : (b == 0) = false := beq_eq_false_iff_ne.2 h0
              rw [decide_eq_true h0] at hd hr
              rw [show rm a b = a.tmod b from if_neg h0] at hr
              have hrb := rm_bd a b 128 (by omega) (by omega)
              rw [show rm a b = a.tmod b from if_neg h0] at hrb
              have hqb := Int.natAbs_tdiv_le_natAbs a b
              obtain ⟨q, ⟨ql, qu⟩, hd, hc⟩ : ∃ N, (-128 ≤ N ∧ N ≤ 127) ∧ (∀ w : World, Calls Try.prog 54 #[.int .i8 a, .int .i8 b] w fun e w' => e = .returned (.tuple #[.int .i8 N, .bool true]) ∧ w = w') ∧ (∀ w : World, Calls Try.prog 49 #[.int .i64 (a.tdiv b)] w fun e w' => e = .returned (.int .i64 N) ∧ w = w') :=
                ⟨_, cl_bd _ (by omega), hd, fun w => cutN_any _ w⟩
              have D1 := Lib.hid hd; clear hd
              have D2 := Lib.hid hr; clear hr
              have D3 := Lib.hid hc; clear hc
              generalize hmd : a * b = m at *
              generalize hqd : a.tdiv b = Q at *
              generalize hrd : a.tmod b = r at *
              obtain ⟨mbl, mbu⟩ := hmb
              obtain ⟨rl, ru⟩ := hrb
              have Ql : -128 ≤ Q ∧ Q ≤ 128 := by omega
              obtain ⟨Ql, Qu⟩ := Ql
              have HQ := Lib.hid hqb; clear hqb
              have wQ : wrap64 Q = Q := by rw [wr_i64]; omega
              go_wp2_with fail
              refine (Q1.out _).mono ?_
              rintro e w' ⟨rfl, rfl⟩
              go_wp2_with fail
              refine (Q2.out _).mono ?_
              rintro e w' ⟨rfl, rfl⟩
              go_wp2_with fail
              refine (Q3.out _).mono ?_
              rintro e w' ⟨rfl, rfl⟩
              go_wp2_with fail
              refine (Q4.out _).mono ?_
              rintro e w' ⟨rfl, rfl⟩
              go_wp2_with fail
              refine (Q5.out _).mono ?_
              rintro e w' ⟨rfl, rfl⟩
              go_wp2_with fail
              refine (Q6.out _).mono ?_
              rintro e w' ⟨rfl, rfl⟩
              go_wp2_with fail
              refine (D1.out _).mono ?_
              rintro e w' ⟨rfl, rfl⟩
              go_wp2_with fail
              refine (D2.out _).mono ?_
              rintro e w' ⟨rfl, rfl⟩
              go_wp2_with fail
              refine (D3.out _).mono ?_
              rintro e w' ⟨rfl, rfl⟩
              go_wp2_with fail
              go_round
              case rel => exact ⟨b + 1, by omega, by omega, rfl, rfl⟩
              case measure => simp [intOf]; omega
          · go_wp2_with fail
            go_round
            case rel => exact ⟨a + 1, by omega, by omega, rfl, rfl⟩
            case measure => simp [intOf]; omega
    · go_wp2_with fail
      go_ret
      exact ⟨rfl, hb1⟩
end Go.Proofs.Ytiphappckgmikaa
