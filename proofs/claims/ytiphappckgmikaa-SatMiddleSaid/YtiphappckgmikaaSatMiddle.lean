/-
  The walk of the law SatMiddle: it returns true for all a, b, c. Conditions: none.
-/
import Derived.Test.YtiphappckgmikaaSatW
import Derived.Test.YtiphappckgmikaaLater
namespace Go.Proofs.Ytiphappckgmikaa
open Go.RowKit

set_option maxHeartbeats 2000000 in
theorem satMiddle_any (a b c : Int) (ha : -32768 ≤ a ∧ a ≤ 32767) (hb : -32768 ≤ b ∧ b ≤ 32767) (hc : -32768 ≤ c ∧ c ≤ 32767) (w : World) :
    Calls Try.prog 9 #[.int .i16 a, .int .i16 b, .int .i16 c] w fun e w' => e = .returned (.bool true) ∧ Below w.heap.size w w' := by
  obtain ⟨s0, hs0, p0, r0⟩ : ∃ s : Int, (-32768 ≤ s ∧ s ≤ 32767) ∧ (∀ w : World, Calls Try.prog 67 #[.int .i16 a, .int .i16 b] w fun e w' => e = .returned (.int .i16 s) ∧ w = w') ∧ (∀ w : World, Calls Try.prog 58 #[.int .i64 a, .int .i64 b, .agg #[.int .i64 (-32768), .int .i64 32767]] w fun e w' => e = .returned (.int .i64 s) ∧ Below w.heap.size w w') :=
    ⟨_, cl_bd _ (by omega), fun w => add_int16 a b ha hb w, fun w => refAdd_any a b _ _ endsOf_16 ha hb w⟩
  obtain ⟨s1, hs1, p1, r1⟩ : ∃ s : Int, (-32768 ≤ s ∧ s ≤ 32767) ∧ (∀ w : World, Calls Try.prog 68 #[.int .i16 a, .int .i16 b] w fun e w' => e = .returned (.int .i16 s) ∧ w = w') ∧ (∀ w : World, Calls Try.prog 59 #[.int .i64 a, .int .i64 b, .agg #[.int .i64 (-32768), .int .i64 32767]] w fun e w' => e = .returned (.int .i64 s) ∧ Below w.heap.size w w') :=
    ⟨_, cl_bd _ (by omega), fun w => sub_int16 a b ha hb w, fun w => refSub_any a b _ _ endsOf_16 ha hb w⟩
  obtain ⟨s2, hs2, p2, r2⟩ : ∃ s : Int, (-32768 ≤ s ∧ s ≤ 32767) ∧ (∀ w : World, Calls Try.prog 69 #[.int .i16 a, .int .i16 b] w fun e w' => e = .returned (.int .i16 s) ∧ w = w') ∧ (∀ w : World, Calls Try.prog 60 #[.int .i64 a, .int .i64 b, .agg #[.int .i64 (-32768), .int .i64 32767]] w fun e w' => e = .returned (.int .i64 s) ∧ Below w.heap.size w w') :=
    ⟨_, cl_bd _ (by omega), fun w => mul_int16 a b ha hb w, fun w => refMul_any a b _ _ endsOf_16 ha hb w⟩
  obtain ⟨s3, hs3, p3, r3⟩ : ∃ s : Int, (-32768 ≤ s ∧ s ≤ 32767) ∧ (∀ w : World, Calls Try.prog 70 #[.int .i16 a] w fun e w' => e = .returned (.int .i16 s) ∧ w = w') ∧ (∀ w : World, Calls Try.prog 61 #[.int .i64 a, .agg #[.int .i64 (-32768), .int .i64 32767]] w fun e w' => e = .returned (.int .i64 s) ∧ Below w.heap.size w w') :=
    ⟨_, cl_bd _ (by omega), fun w => neg_int16 a ha w, fun w => refNeg_any a _ _ endsOf_16 ha w⟩
  obtain ⟨s4, hs4, p4, r4⟩ : ∃ s : Int, (-32768 ≤ s ∧ s ≤ 32767) ∧ (∀ w : World, Calls Try.prog 71 #[.int .i16 a] w fun e w' => e = .returned (.int .i16 s) ∧ w = w') ∧ (∀ w : World, Calls Try.prog 62 #[.int .i64 a, .agg #[.int .i64 (-32768), .int .i64 32767]] w fun e w' => e = .returned (.int .i64 s) ∧ Below w.heap.size w w') :=
    ⟨_, cl_bd _ (by omega), fun w => abs_int16 a ha w, fun w => refAbs_any a _ _ endsOf_16 ha w⟩
  obtain ⟨s5, hs5, p5, r5⟩ : ∃ s : Int, (-32768 ≤ s ∧ s ≤ 32767) ∧ (∀ w : World, Calls Try.prog 72 #[.int .i16 a, .int .i16 b, .int .i16 c] w fun e w' => e = .returned (.int .i16 s) ∧ w = w') ∧ (∀ w : World, Calls Try.prog 64 #[.int .i64 a, .int .i64 b, .int .i64 c] w fun e w' => e = .returned (.int .i64 s) ∧ w = w') :=
    ⟨_, clamp_bd ha hb hc, fun w => clamp_int16 a b c w, fun w => refClamp_any a b c w⟩
  obtain ⟨s6, d, hs6, p6, r6, s7, hs7, p7, r7⟩ : ∃ (s : Int) (d : Bool), (-32768 ≤ s ∧ s ≤ 32767) ∧ (∀ w : World, Calls Try.prog 65 #[.int .i16 a, .int .i16 b] w fun e w' => e = .returned (.tuple #[.int .i16 s, .bool d]) ∧ w = w') ∧ (∀ w : World, Calls Try.prog 56 #[.int .i64 a, .int .i64 b, .agg #[.int .i64 (-32768), .int .i64 32767]] w fun e w' => e = .returned (.tuple #[.int .i64 s, .bool d]) ∧ Below w.heap.size w w') ∧
      ∃ s : Int, (-32768 ≤ s ∧ s ≤ 32767) ∧ (∀ w : World, Calls Try.prog 66 #[.int .i16 a, .int .i16 b] w fun e w' => e = .returned (.tuple #[.int .i16 s, .bool d]) ∧ w = w') ∧ (∀ w : World, Calls Try.prog 57 #[.int .i64 a, .int .i64 b] w fun e w' => e = .returned (.tuple #[.int .i64 s, .bool d]) ∧ w = w') :=
    ⟨_, _, cl_bd _ (by omega), fun w => div_int16 a b ha hb w, fun w => refDiv_any a b _ _ endsOf_16 ha w, _, ⟨(rm_bd a b 32768 (by omega) (by omega)).1, by have := (rm_bd a b 32768 (by omega) (by omega)).2; omega⟩, fun w => rem_int16 a b w, fun w => refRem_any a b w⟩
  have P0 := Lib.hid p0; clear p0
  have R0 := Lib.hid r0; clear r0
  obtain ⟨l0, u0⟩ := hs0
  have e0 : (s0 == s0) = true := beq_self_eq_true _
  have f0 : IntKind.i64.wrap s0 = s0 := IntWalk.i64_in _ ⟨by omega, by omega⟩
  have P1 := Lib.hid p1; clear p1
  have R1 := Lib.hid r1; clear r1
  obtain ⟨l1, u1⟩ := hs1
  have e1 : (s1 == s1) = true := beq_self_eq_true _
  have f1 : IntKind.i64.wrap s1 = s1 := IntWalk.i64_in _ ⟨by omega, by omega⟩
  have P2 := Lib.hid p2; clear p2
  have R2 := Lib.hid r2; clear r2
  obtain ⟨l2, u2⟩ := hs2
  have e2 : (s2 == s2) = true := beq_self_eq_true _
  have f2 : IntKind.i64.wrap s2 = s2 := IntWalk.i64_in _ ⟨by omega, by omega⟩
  have P3 := Lib.hid p3; clear p3
  have R3 := Lib.hid r3; clear r3
  obtain ⟨l3, u3⟩ := hs3
  have e3 : (s3 == s3) = true := beq_self_eq_true _
  have f3 : IntKind.i64.wrap s3 = s3 := IntWalk.i64_in _ ⟨by omega, by omega⟩
  have P4 := Lib.hid p4; clear p4
  have R4 := Lib.hid r4; clear r4
  obtain ⟨l4, u4⟩ := hs4
  have e4 : (s4 == s4) = true := beq_self_eq_true _
  have f4 : IntKind.i64.wrap s4 = s4 := IntWalk.i64_in _ ⟨by omega, by omega⟩
  have P5 := Lib.hid p5; clear p5
  have R5 := Lib.hid r5; clear r5
  obtain ⟨l5, u5⟩ := hs5
  have e5 : (s5 == s5) = true := beq_self_eq_true _
  have f5 : IntKind.i64.wrap s5 = s5 := IntWalk.i64_in _ ⟨by omega, by omega⟩
  have P6 := Lib.hid p6; clear p6
  have R6 := Lib.hid r6; clear r6
  obtain ⟨l6, u6⟩ := hs6
  have e6 : (s6 == s6) = true := beq_self_eq_true _
  have f6 : IntKind.i64.wrap s6 = s6 := IntWalk.i64_in _ ⟨by omega, by omega⟩
  have P7 := Lib.hid p7; clear p7
  have R7 := Lib.hid r7; clear r7
  obtain ⟨l7, u7⟩ := hs7
  have e7 : (s7 == s7) = true := beq_self_eq_true _
  have f7 : IntKind.i64.wrap s7 = s7 := IntWalk.i64_in _ ⟨by omega, by omega⟩
  obtain ⟨la, ua⟩ := ha
  obtain ⟨lb, ub⟩ := hb
  obtain ⟨lc, uc⟩ := hc
  have fc : IntKind.i64.wrap c = c := IntWalk.i64_in _ ⟨by omega, by omega⟩
  go_enter Try.func9, Try.ntmps9
  go_wp2_with fail
  refine (works_any _).mono ?_
  rintro e w1 ⟨rfl, hb1⟩
  go_wp2_with fail
  refine (of_16 _).mono ?_
  rintro e w2 ⟨rfl, hb2⟩
  have hB2 := belowThen' hb1 hb2
  have hB3 := hB2.alloc hB2.size (.cells #[.int .i64 (-32768), .int .i64 32767] 24)
  have hE3 : Whole (w2.alloc (.cells #[.int .i64 (-32768), .int .i64 32767] 24)) w2.heap.size 24 #[.int .i64 (-32768), .int .i64 32767] := Whole.made w2 _ _
  clear hb1 hb2
  go_wp2_with fail
  generalize w2.alloc (.cells #[.int .i64 (-32768), .int .i64 32767] 24) = w3 at *
  generalize w2.heap.size = ge at *
  refine (P6.out _).mono ?_
  rintro e w' ⟨rfl, rfl⟩
  go_wp2_with fail
  refine (P7.out _).mono ?_
  rintro e w' ⟨rfl, rfl⟩
  go_wp2_with (first
    | refine wpList_load_whole rfl 24 _ rfl ge rfl 24 #[.int .i64 (-32768), .int .i64 32767] _ hE3 Try.underlying24 rfl info_ends ?_)
  refine (R6.out _).mono ?_
  rintro e w4 ⟨rfl, hb4⟩
  have hB4 := belowThen' hB3 hb4
  have hE4 := hE3.past hb4
  clear hB3 hE3 hb4
  go_wp2_with fail
  refine (R7.out _).mono ?_
  rintro e w' ⟨rfl, rfl⟩
  go_wp2_with fail
  have hE5 : ∀ w', (∃ r : Later w4, w' = r.w) → Whole w' ge 24 #[.int .i64 (-32768), .int .i64 32767] := by rintro w' ⟨r, rfl⟩; exact hE4.past r.below
  haveI := later_some w4
  refine region_later (by kernel_rfl) (by kernel_rfl) ?_
  repeat (first
    | (refine quiet_load_whole (by rfl) 24 _ rfl ge rfl 24 #[.int .i64 (-32768), .int .i64 32767] _ hE5 Try.underlying24 rfl info_ends ?_)
    | (quiet_step ((first | exact later_same (P0.out _) | exact later_same (P1.out _) | exact later_same (P2.out _) | exact later_calls (R0.out _) | exact later_calls (R1.out _) | exact later_calls (R2.out _)))))
  refine wpQuiet_nil ?_
  rintro w' ⟨r, rfl⟩
  have hB5 := belowThen' hB4 r.below
  have hE6 := hE4.past r.below
  clear hB4 hE4 hE5
  generalize r.w = w5 at *
  go_wp2_with fail
  have hE7 : ∀ w', (∃ r : Later w5, w' = r.w) → Whole w' ge 24 #[.int .i64 (-32768), .int .i64 32767] := by rintro w' ⟨r, rfl⟩; exact hE6.past r.below
  haveI := later_some w5
  refine region_later (by kernel_rfl) (by kernel_rfl) ?_
  repeat (first
    | (refine quiet_load_whole (by rfl) 24 _ rfl ge rfl 24 #[.int .i64 (-32768), .int .i64 32767] _ hE7 Try.underlying24 rfl info_ends ?_)
    | (quiet_step ((first | exact later_same (P3.out _) | exact later_same (P4.out _) | exact later_same (P5.out _) | exact later_same (R5.out _) | exact later_calls (R3.out _) | exact later_calls (R4.out _)))))
  refine wpQuiet_nil ?_
  rintro w' ⟨r, rfl⟩
  have hB6 := belowThen' hB5 r.below
  clear hB5 hE6 hE7
  generalize r.w = w6 at *
  go_wp2_with fail
  go_ret
  exact ⟨rfl, hB6⟩
end Go.Proofs.Ytiphappckgmikaa
