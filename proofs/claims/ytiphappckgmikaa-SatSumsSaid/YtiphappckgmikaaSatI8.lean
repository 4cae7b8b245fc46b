/-
  The walks of sat's functions for int8. Conditions: the numbers are of the kind.
-/
import Derived.Test.YtiphappckgmikaaSatA
namespace Go.Proofs.Ytiphappckgmikaa
open Go.RowKit

set_option maxHeartbeats 1000000 in
theorem ends_int8 (w : World) :
    Calls Try.prog 97 #[] w fun e w' => e = .returned (.tuple #[.int .i8 (-128), .int .i8 127]) ∧ w = w' := by
  go_enter Try.func97, Try.ntmps97
  go_wp2_with fail
  go_loop [1] (fun vh => ∃ j : Nat, j ≤ 6 ∧ vh = .int .i8 (en j)) (fun vh => (9223372036854775808 - intOf vh).toNat)
  case atStart => exact ⟨0, by omega, by rw [en_zero]⟩
  case round =>
    obtain ⟨j, hj, rfl⟩ := hrel
    by_cases hlt : j < 6
    · have hs := en_shl_i8 j hlt
      have ho := en_or_i8 j hlt
      have hpos := en_two j
      have hless : Hid ((9223372036854775808 - en (j + 1)).toNat < (9223372036854775808 - en j).toNat) := Lib.hid (en_less 9223372036854775808 j (by omega) (by decide))
      go_wp2_with fail
      go_round
      case rel => exact ⟨j + 1, by omega, by simp⟩
      case measure => simpa [intOf] using hless.out
    · obtain rfl : j = 6 := by omega
      rw [show en 6 = 127 from by decide]
      have hend : IntKind.i8.wrap 254 = -2 := by rw [wr_i8]; decide
      go_wp2_with fail
      go_ret2
      exact ⟨rfl, rfl⟩

theorem add_int8 (a b : Int) (ha : -128 ≤ a ∧ a ≤ 127) (hb : -128 ≤ b ∧ b ≤ 127) (w : World) :
    Calls Try.prog 51 #[.int .i8 a, .int .i8 b] w fun e w' => e = .returned (.int .i8 (cl (-128) 127 (a + b))) ∧ w = w' := by
  go_enter Try.func51, Try.ntmps51
  go_wp2_with fail
  refine (ends_int8 _).mono ?_
  rintro e w' ⟨rfl, rfl⟩
  go_wp2_with fail
  all_goals
    go_ret
    refine ⟨ret_int ?_, rfl⟩
    (unfold cl; (try simp only [wr_all] at *); (split <;> first | omega | (split <;> omega)))

theorem sub_int8 (a b : Int) (ha : -128 ≤ a ∧ a ≤ 127) (hb : -128 ≤ b ∧ b ≤ 127) (w : World) :
    Calls Try.prog 52 #[.int .i8 a, .int .i8 b] w fun e w' => e = .returned (.int .i8 (cl (-128) 127 (a - b))) ∧ w = w' := by
  go_enter Try.func52, Try.ntmps52
  go_wp2_with fail
  refine (ends_int8 _).mono ?_
  rintro e w' ⟨rfl, rfl⟩
  go_wp2_with fail
  all_goals
    go_ret
    refine ⟨ret_int ?_, rfl⟩
    (unfold cl; (try simp only [wr_all] at *); (split <;> first | omega | (split <;> omega)))

theorem neg_int8 (a : Int) (ha : -128 ≤ a ∧ a ≤ 127) (w : World) :
    Calls Try.prog 48 #[.int .i8 a] w fun e w' => e = .returned (.int .i8 (cl (-128) 127 (-a))) ∧ w = w' := by
  have h := sub_int8 0 a (by omega) ha
  rw [Int.zero_sub] at h
  have H := Lib.hid h; clear h
  go_enter Try.func48, Try.ntmps48
  go_wp2_with fail
  refine (H.out _).mono ?_
  rintro e w' ⟨rfl, rfl⟩
  go_wp2_with fail
  go_ret
  exact ⟨rfl, rfl⟩
theorem abs_int8 (a : Int) (ha : -128 ≤ a ∧ a ≤ 127) (w : World) :
    Calls Try.prog 50 #[.int .i8 a] w fun e w' => e = .returned (.int .i8 (cl (-128) 127 (ab a))) ∧ w = w' := by
  by_cases h0 : a < 0
  · have hab : Hid (ab a = -a) := Lib.hid (if_pos h0)
    go_enter Try.func50, Try.ntmps50
    go_wp2_with fail
    refine (neg_int8 a ha _).mono ?_
    rintro e w' ⟨rfl, rfl⟩
    go_wp2_with fail
    go_ret
    exact ⟨ret_int (by rw [hab.out]), rfl⟩
  · have hab : Hid (cl (-128) 127 (ab a) = a) := Lib.hid (by rw [show ab a = a from if_neg h0]; exact cl_in (by omega) (by omega))
    go_enter Try.func50, Try.ntmps50
    go_wp2_with fail
    go_ret
    exact ⟨ret_int (by rw [hab.out]), rfl⟩

theorem div_int8 (a b : Int) (ha : -128 ≤ a ∧ a ≤ 127) (hb : -128 ≤ b ∧ b ≤ 127) (w : World) :
    Calls Try.prog 54 #[.int .i8 a, .int .i8 b] w fun e w' => e = .returned (.tuple #[.int .i8 (cl (-128) 127 (a.tdiv b)), .bool (decide (b ≠ 0))]) ∧ w = w' := by
  by_cases h0 : b = 0
  · subst h0
    go_enter Try.func54, Try.ntmps54
    go_wp2_with fail
    go_ret2
    exact ⟨ret_pair (by rw [Int.tdiv_zero]; rfl) rfl, rfl⟩
  · by_cases h1 : b = -1
    · subst h1
      go_enter Try.func54, Try.ntmps54
      go_wp2_with fail
      refine (neg_int8 a ha _).mono ?_
      rintro e w' ⟨rfl, rfl⟩
      go_wp2_with fail
      go_ret2
      exact ⟨ret_pair (by rw [Int.tdiv_neg, Int.tdiv_one]) rfl, rfl⟩
    · have hq := tdiv_bd a b 128 (by omega) (by omega) h0 h1
      have hd := Lib.hid (decide_eq_true h0)
      have hne : (b == 0) = false := beq_eq_false_iff_ne.2 h0
      have hne1 : (b == -1) = false := beq_eq_false_iff_ne.2 h1
      have hcl : Hid (cl (-128) 127 (a.tdiv b) = a.tdiv b) := Lib.hid (cl_in (by omega) (by omega))
      have hw : IntKind.i8.wrap (a.tdiv b) = a.tdiv b := by rw [wr_i8]; omega
      go_enter Try.func54, Try.ntmps54
      go_wp2_with fail
      go_ret2
      exact ⟨ret_pair hcl.out.symm hd.out.symm, rfl⟩
theorem rem_int8 (a b : Int) (w : World) :
    Calls Try.prog 55 #[.int .i8 a, .int .i8 b] w fun e w' => e = .returned (.tuple #[.int .i8 (rm a b), .bool (decide (b ≠ 0))]) ∧ w = w' := by
  by_cases h0 : b = 0
  · subst h0
    go_enter Try.func55, Try.ntmps55
    go_wp2_with fail
    go_ret2
    exact ⟨ret_pair rfl rfl, rfl⟩
  · by_cases h1 : b = -1
    · subst h1
      go_enter Try.func55, Try.ntmps55
      go_wp2_with fail
      go_ret2
      exact ⟨ret_pair (by rw [rm_neg]) rfl, rfl⟩
    · have hd := Lib.hid (decide_eq_true h0)
      have hne : (b == 0) = false := beq_eq_false_iff_ne.2 h0
      have hne1 : (b == -1) = false := beq_eq_false_iff_ne.2 h1
      have hr : Hid (rm a b = a.tmod b) := Lib.hid (if_neg h0)
      go_enter Try.func55, Try.ntmps55
      go_wp2_with fail
      go_ret2
      exact ⟨ret_pair hr.out.symm hd.out.symm, rfl⟩
theorem clamp_int8 (a b c : Int) (w : World) :
    Calls Try.prog 63 #[.int .i8 a, .int .i8 b, .int .i8 c] w fun e w' => e = .returned (.int .i8 (clamp a b c)) ∧ w = w' := by
  go_enter Try.func63, Try.ntmps63
  go_wp2_with fail
  all_goals
    go_ret
    refine ⟨ret_int ?_, rfl⟩
    (unfold clamp; omega)

set_option maxHeartbeats 1000000 in
theorem mul_int8 (a b : Int) (ha : -128 ≤ a ∧ a ≤ 127) (hb : -128 ≤ b ∧ b ≤ 127) (w : World) :
    Calls Try.prog 53 #[.int .i8 a, .int .i8 b] w fun e w' => e = .returned (.int .i8 (cl (-128) 127 (a * b))) ∧ w = w' := by
  by_cases ha0 : a = 0
  · subst ha0
    have hz : Hid (cl (-128) 127 (0 * b) = 0) := Lib.hid (by rw [Int.zero_mul]; rfl)
    go_enter Try.func53, Try.ntmps53
    go_wp2_with fail
    refine (ends_int8 _).mono ?_
    rintro e w' ⟨rfl, rfl⟩
    go_wp2_with fail
    go_ret
    exact ⟨ret_int (by rw [hz.out]), rfl⟩
  by_cases hb0 : b = 0
  · subst hb0
    have hz : Hid (cl (-128) 127 (a * 0) = 0) := Lib.hid (by rw [Int.mul_zero]; rfl)
    have hne : (a == 0) = false := beq_eq_false_iff_ne.2 ha0
    go_enter Try.func53, Try.ntmps53
    go_wp2_with fail
    refine (ends_int8 _).mono ?_
    rintro e w' ⟨rfl, rfl⟩
    go_wp2_with fail
    go_ret
    exact ⟨ret_int (by rw [hz.out]), rfl⟩
  have hne : (a == 0) = false := beq_eq_false_iff_ne.2 ha0
  have hne' : (b == 0) = false := beq_eq_false_iff_ne.2 hb0
  by_cases ha1 : a = -1
  · subst ha1
    have hn := neg_int8 b hb
    have hz : Hid (cl (-128) 127 (-1 * b) = cl (-128) 127 (-b)) := Lib.hid (by rw [Int.neg_mul, Int.one_mul])
    have HN := Lib.hid hn
    clear hn
    go_enter Try.func53, Try.ntmps53
    go_wp2_with fail
    refine (ends_int8 _).mono ?_
    rintro e w' ⟨rfl, rfl⟩
    go_wp2_with fail
    refine (HN.out _).mono ?_
    rintro e w' ⟨rfl, rfl⟩
    go_wp2_with fail
    go_ret
    exact ⟨ret_int (by rw [hz.out]), rfl⟩
  have hne1 : (a == -1) = false := beq_eq_false_iff_ne.2 ha1
  have hne2 : (a != -1) = true := bne_iff_ne.2 ha1
  by_cases hb1 : b = -1
  · subst hb1
    have hn := neg_int8 a ha
    have hz : Hid (cl (-128) 127 (a * -1) = cl (-128) 127 (-a)) := Lib.hid (by rw [Int.mul_neg, Int.mul_one])
    have HN := Lib.hid hn
    clear hn
    go_enter Try.func53, Try.ntmps53
    go_wp2_with fail
    refine (ends_int8 _).mono ?_
    rintro e w' ⟨rfl, rfl⟩
    go_wp2_with fail
    refine (HN.out _).mono ?_
    rintro e w' ⟨rfl, rfl⟩
    go_wp2_with fail
    go_ret
    exact ⟨ret_int (by rw [hz.out]), rfl⟩
  have hne3 : (b == -1) = false := beq_eq_false_iff_ne.2 hb1
  have hne4 : (b != -1) = true := bne_iff_ne.2 hb1
  by_cases hin : -128 ≤ a * b ∧ a * b ≤ 127
  · have hq : (a * b).tdiv b = a := Int.mul_tdiv_cancel a hb0
    have hs := mul_sign a b ha0 hb0
    have hw : IntKind.i8.wrap (a * b) = a * b := by rw [wr_i8]; omega
    have hw2 : IntKind.i8.wrap a = a := by rw [wr_i8]; omega
    have hc : Hid (cl (-128) 127 (a * b) = a * b) := Lib.hid (cl_in hin.1 hin.2)
    clear ha0 ha1 hb1 hin
    generalize hm : a * b = m at *
    go_enter Try.func53, Try.ntmps53
    go_wp2_with fail
    refine (ends_int8 _).mono ?_
    rintro e w' ⟨rfl, rfl⟩
    go_wp2_with fail
    go_ret
    exact ⟨ret_int (by rw [hc.out]; first | done | exact hw), rfl⟩
  · have hover := mul_over 128 (a * b) a b _ (by decide) (by omega) hb0 rfl (wr_i8 (a * b)) (by omega)
    have hbd : -128 ≤ IntKind.i8.wrap (a * b) ∧ IntKind.i8.wrap (a * b) ≤ 127 := by rw [wr_i8]; omega
    have hq := tdiv_bd (IntKind.i8.wrap (a * b)) b 128 (by omega) (by omega) hb0 hb1
    have hw2 : IntKind.i8.wrap ((IntKind.i8.wrap (a * b)).tdiv b) = (IntKind.i8.wrap (a * b)).tdiv b := by rw [wr_i8 ((IntKind.i8.wrap (a * b)).tdiv b)]; omega
    have hne5 : ((IntKind.i8.wrap (a * b)).tdiv b == a) = false := beq_eq_false_iff_ne.2 hover
    cases hs : (decide (0 < a) == decide (0 < b)) with
    | true =>
      have hup := mul_up ha0 hb0 hs
      have hc : Hid (cl (-128) 127 (a * b) = 127) := Lib.hid (cl_hi (by omega) (by omega))
      clear ha0 ha1 hb1 hin hover hbd hq hup
      go_enter Try.func53, Try.ntmps53
      go_wp2_with fail
      refine (ends_int8 _).mono ?_
      rintro e w' ⟨rfl, rfl⟩
      go_wp2_with fail
      go_ret
      exact ⟨ret_int (by rw [hc.out]), rfl⟩
    | false =>
      have hup := mul_down ha0 hb0 hs
      have hc : Hid (cl (-128) 127 (a * b) = -128) := Lib.hid (cl_lo (by omega))
      clear ha0 ha1 hb1 hin hover hbd hq hup
      go_enter Try.func53, Try.ntmps53
      go_wp2_with fail
      refine (ends_int8 _).mono ?_
      rintro e w' ⟨rfl, rfl⟩
      go_wp2_with fail
      go_ret
      exact ⟨ret_int (by rw [hc.out]), rfl⟩
end Go.Proofs.Ytiphappckgmikaa
