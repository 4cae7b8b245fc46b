/-
  The walk of the law SatDivides: it returns true for all a, b. Conditions: none.
-/
import Derived.Test.YtiphappckgmikaaSatW
namespace Go.Proofs.Ytiphappckgmikaa
open Go.RowKit

/-- What comes of both, told once. -/
theorem tmod_facts (a b : Int) (hb : b ≠ 0) : (0 ≤ a → 0 ≤ a.tmod b) ∧ (a ≤ 0 → a.tmod b ≤ 0) ∧ (a.tmod b).natAbs < b.natAbs := by
  refine ⟨fun h => Int.tmod_nonneg b h, fun h => ?_, tmod_abs a b hb⟩
  have := Int.tmod_nonneg b (a := -a) (by omega)
  rw [Int.neg_tmod] at this
  omega
set_option maxHeartbeats 1000000 in
set_option maxRecDepth 100000 in
theorem satDivides_any (a b : Int) (ha : -9223372036854775808 ≤ a ∧ a ≤ 9223372036854775807) (hb : -9223372036854775808 ≤ b ∧ b ≤ 9223372036854775807) (w : World) :
    Calls Try.prog 6 #[.int .i64 a, .int .i64 b] w fun e w' => e = .returned (.bool true) ∧ Below w.heap.size w w' := by
  have hd := fun w => div_int64 a b ha hb w
  have hr := fun w => rem_int64 a b w
  by_cases h0 : b = 0
  · subst h0
    rw [show cl (-9223372036854775808) 9223372036854775807 (a.tdiv 0) = 0 from by rw [Int.tdiv_zero]; rfl, show decide ((0 : Int) ≠ 0) = false from rfl] at hd
    rw [show rm a 0 = 0 from rfl, show decide ((0 : Int) ≠ 0) = false from rfl] at hr
    have HD := Lib.hid hd; clear hd
    have HR := Lib.hid hr; clear hr
    go_enter Try.func6, Try.ntmps6
    go_wp2_with fail
    refine (works_any _).mono ?_
    rintro e w1 ⟨rfl, hb1⟩
    go_wp2_with fail
    refine (HD.out _).mono ?_
    rintro e w' ⟨rfl, rfl⟩
    go_wp2_with fail
    refine (HR.out _).mono ?_
    rintro e w' ⟨rfl, rfl⟩
    go_wp2_with fail
    go_ret
    exact ⟨rfl, hb1⟩
  have hne : (b == 0) = false := beq_eq_false_iff_ne.2 h0
  rw [decide_eq_true h0] at hd hr
  by_cases hl : a = -9223372036854775808 ∧ b = -1
  · obtain ⟨rfl, rfl⟩ := hl
    rw [show cl (-9223372036854775808) 9223372036854775807 ((-9223372036854775808 : Int).tdiv (-1)) = 9223372036854775807 from by decide] at hd
    rw [show rm (-9223372036854775808) (-1) = 0 from by decide] at hr
    have HD := Lib.hid hd; clear hd
    have HR := Lib.hid hr; clear hr
    clear h0
    go_enter Try.func6, Try.ntmps6
    go_wp2_with fail
    refine (works_any _).mono ?_
    rintro e w1 ⟨rfl, hb1⟩
    go_wp2_with fail
    refine (HD.out _).mono ?_
    rintro e w' ⟨rfl, rfl⟩
    go_wp2_with fail
    refine (HR.out _).mono ?_
    rintro e w' ⟨rfl, rfl⟩
    go_wp2_with fail
    go_ret
    exact ⟨rfl, hb1⟩
  have hq : -9223372036854775808 ≤ a.tdiv b ∧ a.tdiv b ≤ 9223372036854775807 := by
    by_cases h1 : b = -1
    · subst h1; rw [Int.tdiv_neg, Int.tdiv_one]; omega
    · have := tdiv_bd a b 9223372036854775808 (by omega) (by omega) h0 h1; omega
  rw [cl_in hq.1 hq.2] at hd
  rw [show rm a b = a.tmod b from if_neg h0] at hr
  obtain ⟨hp, hn, hs⟩ := tmod_facts a b h0
  have he := Int.tmod_add_mul_tdiv a b
  rw [Int.mul_comm] at he
  have hless : ((a == -9223372036854775808) && (b == -1)) = false := by
    cases h : ((a == -9223372036854775808) && (b == -1)) with
    | false => rfl
    | true => rw [Bool.and_eq_true, beq_iff_eq, beq_iff_eq] at h; exact absurd h hl
  generalize hqd : a.tdiv b = q at *
  generalize hrd : a.tmod b = r at *
  clear hqd hrd
  have hm : -9223372036854775808 ≤ q * b ∧ q * b ≤ 9223372036854775807 := by
    rcases Int.le_total 0 a with h | h
    · have := hp h; omega
    · have := hn h; omega
  generalize hqm : q * b = m at *
  rw [Int.add_comm] at he
  have HD := Lib.hid hd; clear hd
  have HR := Lib.hid hr; clear hr
  clear hless hq
  obtain ⟨la, ua⟩ := ha
  obtain ⟨lb, ub⟩ := hb
  obtain ⟨lm, um⟩ := hm
  have lr : -9223372036854775808 ≤ r ∧ r ≤ 9223372036854775807 := by omega
  obtain ⟨lr, ur⟩ := lr
  have HP := Lib.hid hp; clear hp
  have HN := Lib.hid hn; clear hn
  by_cases hmin : a = -9223372036854775808
  · have hb1 : (b == -1) = false := beq_eq_false_iff_ne.2 (fun e => hl ⟨hmin, e⟩)
    clear hl
    have hmn : (a == -9223372036854775808) = true := beq_iff_eq.2 hmin
    have HM := Lib.hid hmin; clear hmin
    have HX : a = -9223372036854775808 := HM.out
    have ha9 : ¬ 0 < a := by omega
    have ha8 : a < 0 := by omega
    clear HX
    by_cases hc : r = 0
    · subst hc
      go_enter Try.func6, Try.ntmps6
      go_wp2_with fail
      refine (works_any _).mono ?_
      rintro e w1 ⟨rfl, hb1⟩
      go_wp2_with fail
      refine (HD.out _).mono ?_
      rintro e w' ⟨rfl, rfl⟩
      go_wp2_with fail
      refine (HR.out _).mono ?_
      rintro e w' ⟨rfl, rfl⟩
      go_wp2_with fail
      go_ret
      exact ⟨rfl, hb1⟩
    by_cases hc : r < 0 ∧ 0 < b
    · obtain ⟨hc, hd⟩ := hc
      have hr0 : (r == 0) = false := beq_eq_false_iff_ne.2 (by omega)
      have ha0 : a < 0 := by have := HP.out; omega
      have hk : -r < b := by omega
      clear hs h0
      go_enter Try.func6, Try.ntmps6
      go_wp2_with fail
      refine (works_any _).mono ?_
      rintro e w1 ⟨rfl, hb1⟩
      go_wp2_with fail
      refine (HD.out _).mono ?_
      rintro e w' ⟨rfl, rfl⟩
      go_wp2_with fail
      refine (HR.out _).mono ?_
      rintro e w' ⟨rfl, rfl⟩
      go_wp2_with fail
      go_ret
      exact ⟨rfl, hb1⟩
    by_cases hc : r < 0 ∧ b < 0
    · obtain ⟨hc, hd⟩ := hc
      have hr0 : (r == 0) = false := beq_eq_false_iff_ne.2 (by omega)
      have ha0 : a < 0 := by have := HP.out; omega
      have hk : b < r := by omega
      clear hs h0
      go_enter Try.func6, Try.ntmps6
      go_wp2_with fail
      refine (works_any _).mono ?_
      rintro e w1 ⟨rfl, hb1⟩
      go_wp2_with fail
      refine (HD.out _).mono ?_
      rintro e w' ⟨rfl, rfl⟩
      go_wp2_with fail
      refine (HR.out _).mono ?_
      rintro e w' ⟨rfl, rfl⟩
      go_wp2_with fail
      go_ret
      exact ⟨rfl, hb1⟩
    exfalso; have := HP.out; have := HN.out; omega
  · have hmn : (a == -9223372036854775808) = false := beq_eq_false_iff_ne.2 hmin
    clear hl hmin
    by_cases hc : r = 0
    · subst hc
      go_enter Try.func6, Try.ntmps6
      go_wp2_with fail
      refine (works_any _).mono ?_
      rintro e w1 ⟨rfl, hb1⟩
      go_wp2_with fail
      refine (HD.out _).mono ?_
      rintro e w' ⟨rfl, rfl⟩
      go_wp2_with fail
      refine (HR.out _).mono ?_
      rintro e w' ⟨rfl, rfl⟩
      go_wp2_with fail
      go_ret
      exact ⟨rfl, hb1⟩
    by_cases hc : 0 < r ∧ 0 < b
    · obtain ⟨hc, hd⟩ := hc
      have hr0 : (r == 0) = false := beq_eq_false_iff_ne.2 (by omega)
      have ha0 : 0 < a := by have := HN.out; omega
      have hk : r < b := by omega
      clear hs h0
      go_enter Try.func6, Try.ntmps6
      go_wp2_with fail
      refine (works_any _).mono ?_
      rintro e w1 ⟨rfl, hb1⟩
      go_wp2_with fail
      refine (HD.out _).mono ?_
      rintro e w' ⟨rfl, rfl⟩
      go_wp2_with fail
      refine (HR.out _).mono ?_
      rintro e w' ⟨rfl, rfl⟩
      go_wp2_with fail
      go_ret
      exact ⟨rfl, hb1⟩
    by_cases hc : 0 < r ∧ b < 0
    · obtain ⟨hc, hd⟩ := hc
      have hr0 : (r == 0) = false := beq_eq_false_iff_ne.2 (by omega)
      have ha0 : 0 < a := by have := HN.out; omega
      have hk : b < -r := by omega
      clear hs h0
      go_enter Try.func6, Try.ntmps6
      go_wp2_with fail
      refine (works_any _).mono ?_
      rintro e w1 ⟨rfl, hb1⟩
      go_wp2_with fail
      refine (HD.out _).mono ?_
      rintro e w' ⟨rfl, rfl⟩
      go_wp2_with fail
      refine (HR.out _).mono ?_
      rintro e w' ⟨rfl, rfl⟩
      go_wp2_with fail
      go_ret
      exact ⟨rfl, hb1⟩
    by_cases hc : r < 0 ∧ 0 < b
    · obtain ⟨hc, hd⟩ := hc
      have hr0 : (r == 0) = false := beq_eq_false_iff_ne.2 (by omega)
      have ha0 : a < 0 := by have := HP.out; omega
      have hk : -r < b := by omega
      clear hs h0
      go_enter Try.func6, Try.ntmps6
      go_wp2_with fail
      refine (works_any _).mono ?_
      rintro e w1 ⟨rfl, hb1⟩
      go_wp2_with fail
      refine (HD.out _).mono ?_
      rintro e w' ⟨rfl, rfl⟩
      go_wp2_with fail
      refine (HR.out _).mono ?_
      rintro e w' ⟨rfl, rfl⟩
      go_wp2_with fail
      go_ret
      exact ⟨rfl, hb1⟩
    by_cases hc : r < 0 ∧ b < 0
    · obtain ⟨hc, hd⟩ := hc
      have hr0 : (r == 0) = false := beq_eq_false_iff_ne.2 (by omega)
      have ha0 : a < 0 := by have := HP.out; omega
      have hk : b < r := by omega
      clear hs h0
      go_enter Try.func6, Try.ntmps6
      go_wp2_with fail
      refine (works_any _).mono ?_
      rintro e w1 ⟨rfl, hb1⟩
      go_wp2_with fail
      refine (HD.out _).mono ?_
      rintro e w' ⟨rfl, rfl⟩
      go_wp2_with fail
      refine (HR.out _).mono ?_
      rintro e w' ⟨rfl, rfl⟩
      go_wp2_with fail
      go_ret
      exact ⟨rfl, hb1⟩
    exfalso; have := HP.out; have := HN.out; omega
end Go.Proofs.Ytiphappckgmikaa
