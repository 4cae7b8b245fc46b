/-
  The walk of the law SatTo: it returns true for all a. Conditions: none.
-/
import Derived.Test.YtiphappckgmikaaSatW
import Derived.Test.YtiphappckgmikaaLater
namespace Go.Proofs.Ytiphappckgmikaa
open Go.RowKit

theorem cl_twice (M N a : Int) (h0 : 0 < M) (h : M ≤ N) : cl (-M) (M - 1) (cl (-N) (N - 1) a) = cl (-M) (M - 1) a := by
  unfold cl; (repeat' split) <;> omega
theorem cl_wide (M N a : Int) (h0 : 0 < M) (h : M ≤ N) : cl (-N) (N - 1) (cl (-M) (M - 1) a) = cl (-M) (M - 1) a := by
  unfold cl; (repeat' split) <;> omega
set_option maxHeartbeats 8000000 in
set_option maxRecDepth 100000 in
theorem satTo_any (a : Int) (ha : -9223372036854775808 ≤ a ∧ a ≤ 9223372036854775807) (w : World) :
    Calls Try.prog 3 #[.int .i64 a] w fun e w' => e = .returned (.bool true) ∧ Below w.heap.size w w' := by
  obtain ⟨s, hs⟩ : ∃ s, s = cl (-128) 127 a := ⟨_, rfl⟩
  obtain ⟨m, hm⟩ : ∃ s, s = cl (-32768) 32767 a := ⟨_, rfl⟩
  obtain ⟨l, hl⟩ : ∃ s, s = cl (-2147483648) 2147483647 a := ⟨_, rfl⟩
  have bs : -128 ≤ s ∧ s ≤ 127 := hs ▸ cl_bd _ (by omega)
  have bm : -32768 ≤ m ∧ m ≤ 32767 := hm ▸ cl_bd _ (by omega)
  have bl : -2147483648 ≤ l ∧ l ≤ 2147483647 := hl ▸ cl_bd _ (by omega)
  have t0 : ∀ w : World, Calls Try.prog 16 #[.int .i64 a] w fun e w' => e = .returned (.int .i8 s) ∧ w = w' := fun w => by
    have := to_int8_int64 a (by omega) w
    rw [show cl (-128) 127 a = s from hs.symm] at this
    exact this
  have t1 : ∀ w : World, Calls Try.prog 18 #[.int .i64 a] w fun e w' => e = .returned (.int .i16 m) ∧ w = w' := fun w => by
    have := to_int16_int64 a (by omega) w
    rw [show cl (-32768) 32767 a = m from hm.symm] at this
    exact this
  have t2 : ∀ w : World, Calls Try.prog 19 #[.int .i64 a] w fun e w' => e = .returned (.int .i32 l) ∧ w = w' := fun w => by
    have := to_int32_int64 a (by omega) w
    rw [show cl (-2147483648) 2147483647 a = l from hl.symm] at this
    exact this
  have t3 : ∀ w : World, Calls Try.prog 20 #[.int .i64 a] w fun e w' => e = .returned (.int .i64 a) ∧ w = w' := fun w => by
    have := to_int64_int64 a (by omega) w
    rw [show cl (-9223372036854775808) 9223372036854775807 a = a from cl_in (by omega) (by omega)] at this
    exact this
  have t4 : ∀ w : World, Calls Try.prog 21 #[.int .i64 a] w fun e w' => e = .returned (.int .i64 a) ∧ w = w' := fun w => by
    have := to_int_int64 a (by omega) w
    rw [show cl (-9223372036854775808) 9223372036854775807 a = a from cl_in (by omega) (by omega)] at this
    exact this
  have t5 : ∀ w : World, Calls Try.prog 22 #[.int .i64 a] w fun e w' => e = .returned (.int .i16 m) ∧ w = w' := fun w => by
    have := to_Own_int64 a (by omega) w
    rw [show cl (-32768) 32767 a = m from hm.symm] at this
    exact this
  have t6 : ∀ w : World, Calls Try.prog 23 #[.int .i32 l] w fun e w' => e = .returned (.int .i8 s) ∧ w = w' := fun w => by
    have := to_int8_int32 l (by omega) w
    rw [show cl (-128) 127 l = s from by rw [hl, hs]; exact cl_twice 128 2147483648 a (by omega) (by omega)] at this
    exact this
  have t7 : ∀ w : World, Calls Try.prog 24 #[.int .i32 l] w fun e w' => e = .returned (.int .i16 m) ∧ w = w' := fun w => by
    have := to_Own_int32 l (by omega) w
    rw [show cl (-32768) 32767 l = m from by rw [hl, hm]; exact cl_twice 32768 2147483648 a (by omega) (by omega)] at this
    exact this
  have t8 : ∀ w : World, Calls Try.prog 25 #[.int .i32 l] w fun e w' => e = .returned (.int .i64 l) ∧ w = w' := fun w => by
    have := to_int64_int32 l (by omega) w
    rw [show cl (-9223372036854775808) 9223372036854775807 l = l from cl_in (by omega) (by omega)] at this
    exact this
  have t9 : ∀ w : World, Calls Try.prog 26 #[.int .i32 l] w fun e w' => e = .returned (.int .i64 l) ∧ w = w' := fun w => by
    have := to_int_int32 l (by omega) w
    rw [show cl (-9223372036854775808) 9223372036854775807 l = l from cl_in (by omega) (by omega)] at this
    exact this
  have t10 : ∀ w : World, Calls Try.prog 27 #[.int .i32 l] w fun e w' => e = .returned (.int .i32 l) ∧ w = w' := fun w => by
    have := to_int32_int32 l (by omega) w
    rw [show cl (-2147483648) 2147483647 l = l from cl_in (by omega) (by omega)] at this
    exact this
  have t11 : ∀ w : World, Calls Try.prog 28 #[.int .i16 m] w fun e w' => e = .returned (.int .i8 s) ∧ w = w' := fun w => by
    have := to_int8_int16 m (by omega) w
    rw [show cl (-128) 127 m = s from by rw [hm, hs]; exact cl_twice 128 32768 a (by omega) (by omega)] at this
    exact this
  have t12 : ∀ w : World, Calls Try.prog 29 #[.int .i16 m] w fun e w' => e = .returned (.int .i64 m) ∧ w = w' := fun w => by
    have := to_int64_int16 m (by omega) w
    rw [show cl (-9223372036854775808) 9223372036854775807 m = m from cl_in (by omega) (by omega)] at this
    exact this
  have t13 : ∀ w : World, Calls Try.prog 30 #[.int .i16 m] w fun e w' => e = .returned (.int .i32 m) ∧ w = w' := fun w => by
    have := to_int32_Own m (by omega) w
    rw [show cl (-2147483648) 2147483647 m = m from cl_in (by omega) (by omega)] at this
    exact this
  have t14 : ∀ w : World, Calls Try.prog 31 #[.int .i16 m] w fun e w' => e = .returned (.int .i8 s) ∧ w = w' := fun w => by
    have := to_int8_Own m (by omega) w
    rw [show cl (-128) 127 m = s from by rw [hm, hs]; exact cl_twice 128 32768 a (by omega) (by omega)] at this
    exact this
  have t15 : ∀ w : World, Calls Try.prog 32 #[.int .i8 s] w fun e w' => e = .returned (.int .i16 s) ∧ w = w' := fun w => by
    have := to_int16_int8 s (by omega) w
    rw [show cl (-32768) 32767 s = s from cl_in (by omega) (by omega)] at this
    exact this
  have t16 : ∀ w : World, Calls Try.prog 33 #[.int .i8 s] w fun e w' => e = .returned (.int .i64 s) ∧ w = w' := fun w => by
    have := to_int_int8 s (by omega) w
    rw [show cl (-9223372036854775808) 9223372036854775807 s = s from cl_in (by omega) (by omega)] at this
    exact this
  have t17 : ∀ w : World, Calls Try.prog 34 #[.int .i8 s] w fun e w' => e = .returned (.int .i8 s) ∧ w = w' := fun w => by
    have := to_int8_int8 s (by omega) w
    rw [show cl (-128) 127 s = s from cl_in (by omega) (by omega)] at this
    exact this
  have t18 : ∀ w : World, Calls Try.prog 35 #[.int .i64 a] w fun e w' => e = .returned (.int .i8 s) ∧ w = w' := fun w => by
    have := to_int8_int a (by omega) w
    rw [show cl (-128) 127 a = s from hs.symm] at this
    exact this
  have c8 : ∀ w : World, Calls Try.prog 17 #[.int .i64 a, .agg #[.int .i64 (-128), .int .i64 127]] w fun e w' => e = .returned (.int .i64 s) ∧ Below w.heap.size w w' := fun w => by
    rw [hs]; exact cut_any a _ _ endsOf_8 w
  have c16 : ∀ w : World, Calls Try.prog 17 #[.int .i64 a, .agg #[.int .i64 (-32768), .int .i64 32767]] w fun e w' => e = .returned (.int .i64 m) ∧ Below w.heap.size w w' := fun w => by
    rw [hm]; exact cut_any a _ _ endsOf_16 w
  have c32 : ∀ w : World, Calls Try.prog 17 #[.int .i64 a, .agg #[.int .i64 (-2147483648), .int .i64 2147483647]] w fun e w' => e = .returned (.int .i64 l) ∧ Below w.heap.size w w' := fun w => by
    rw [hl]; exact cut_any a _ _ endsOf_32 w
  clear hs hm hl
  have T0 := Lib.hid t0; clear t0
  have T1 := Lib.hid t1; clear t1
  have T2 := Lib.hid t2; clear t2
  have T3 := Lib.hid t3; clear t3
  have T4 := Lib.hid t4; clear t4
  have T5 := Lib.hid t5; clear t5
  have T6 := Lib.hid t6; clear t6
  have T7 := Lib.hid t7; clear t7
  have T8 := Lib.hid t8; clear t8
  have T9 := Lib.hid t9; clear t9
  have T10 := Lib.hid t10; clear t10
  have T11 := Lib.hid t11; clear t11
  have T12 := Lib.hid t12; clear t12
  have T13 := Lib.hid t13; clear t13
  have T14 := Lib.hid t14; clear t14
  have T15 := Lib.hid t15; clear t15
  have T16 := Lib.hid t16; clear t16
  have T17 := Lib.hid t17; clear t17
  have T18 := Lib.hid t18; clear t18
  have C8 := Lib.hid c8; clear c8
  have C16 := Lib.hid c16; clear c16
  have C32 := Lib.hid c32; clear c32
  obtain ⟨bs0, bs1⟩ := bs
  obtain ⟨bm0, bm1⟩ := bm
  obtain ⟨bl0, bl1⟩ := bl
  obtain ⟨ba0, ba1⟩ := ha
  have es : (s == s) = true := beq_self_eq_true _
  have em : (m == m) = true := beq_self_eq_true _
  have el : (l == l) = true := beq_self_eq_true _
  have ea : (a == a) = true := beq_self_eq_true _
  have fs : IntKind.i64.wrap s = s := IntWalk.i64_in _ ⟨by omega, by omega⟩
  have fm : IntKind.i64.wrap m = m := IntWalk.i64_in _ ⟨by omega, by omega⟩
  have fl : IntKind.i64.wrap l = l := IntWalk.i64_in _ ⟨by omega, by omega⟩
  have gs : IntKind.i8.wrap s = s := IntWalk.i8_in _ ⟨by omega, by omega⟩
  have gm : IntKind.i16.wrap m = m := IntWalk.i16_in _ ⟨by omega, by omega⟩
  have gl : IntKind.i32.wrap l = l := IntWalk.i32_in _ ⟨by omega, by omega⟩
  go_enter Try.func3, Try.ntmps3
  go_wp2_with fail
  refine (works_any _).mono ?_
  rintro e w0 ⟨rfl, hB0⟩
  go_wp2_with fail
  refine (of_8 _).mono ?_
  rintro e v8 ⟨rfl, hb8⟩
  have hB1 := (belowThen' hB0 hb8).alloc (belowThen' hB0 hb8).size (.cells #[.int .i64 (-128), .int .i64 127] 24)
  have hE8_1 : Whole (v8.alloc (.cells #[.int .i64 (-128), .int .i64 127] 24)) v8.heap.size 24 #[.int .i64 (-128), .int .i64 127] := Whole.made v8 _ _
  go_wp2_with fail
  refine (of_16 _).mono ?_
  rintro e v16 ⟨rfl, hb16⟩
  have hB2 := (belowThen' hB1 hb16).alloc (belowThen' hB1 hb16).size (.cells #[.int .i64 (-32768), .int .i64 32767] 24)
  have hE16_2 : Whole (v16.alloc (.cells #[.int .i64 (-32768), .int .i64 32767] 24)) v16.heap.size 24 #[.int .i64 (-32768), .int .i64 32767] := Whole.made v16 _ _
  have hE8_2 := (hE8_1.past hb16).alloc (.cells #[.int .i64 (-32768), .int .i64 32767] 24)
  go_wp2_with fail
  refine (of_32 _).mono ?_
  rintro e v32 ⟨rfl, hb32⟩
  have hB3 := (belowThen' hB2 hb32).alloc (belowThen' hB2 hb32).size (.cells #[.int .i64 (-2147483648), .int .i64 2147483647] 24)
  have hE32_3 : Whole (v32.alloc (.cells #[.int .i64 (-2147483648), .int .i64 2147483647] 24)) v32.heap.size 24 #[.int .i64 (-2147483648), .int .i64 2147483647] := Whole.made v32 _ _
  have hE8_3 := (hE8_2.past hb32).alloc (.cells #[.int .i64 (-2147483648), .int .i64 2147483647] 24)
  have hE16_3 := (hE16_2.past hb32).alloc (.cells #[.int .i64 (-2147483648), .int .i64 2147483647] 24)
  go_wp2_with fail
  clear hB0 hb8 hb16 hb32 hB1 hB2 hE8_1 hE8_2 hE16_2
  generalize v32.alloc (.cells #[.int .i64 (-2147483648), .int .i64 2147483647] 24) = w3 at *
  generalize v8.heap.size = g8 at *
  generalize v16.heap.size = g16 at *
  generalize v32.heap.size = g32 at *
  have k8 : ∀ w', (∃ r : Later w3, w' = r.w) → Whole w' g8 24 #[.int .i64 (-128), .int .i64 127] := by rintro w' ⟨r, rfl⟩; exact hE8_3.past r.below
  have k16 : ∀ w', (∃ r : Later w3, w' = r.w) → Whole w' g16 24 #[.int .i64 (-32768), .int .i64 32767] := by rintro w' ⟨r, rfl⟩; exact hE16_3.past r.below
  have k32 : ∀ w', (∃ r : Later w3, w' = r.w) → Whole w' g32 24 #[.int .i64 (-2147483648), .int .i64 2147483647] := by rintro w' ⟨r, rfl⟩; exact hE32_3.past r.below
  haveI := later_some w3
  refine region_later (by kernel_rfl) (by kernel_rfl) ?_
  repeat (first
    | (refine quiet_load_whole (by rfl) 24 _ rfl g8 rfl 24 #[.int .i64 (-128), .int .i64 127] _ k8 Try.underlying24 rfl info_ends ?_)
    | (refine quiet_load_whole (by rfl) 24 _ rfl g16 rfl 24 #[.int .i64 (-32768), .int .i64 32767] _ k16 Try.underlying24 rfl info_ends ?_)
    | (refine quiet_load_whole (by rfl) 24 _ rfl g32 rfl 24 #[.int .i64 (-2147483648), .int .i64 2147483647] _ k32 Try.underlying24 rfl info_ends ?_)
    | (quiet_step (fail)))
  quiet_step (exact later_same (T0.out _))
  repeat (first
    | (refine quiet_load_whole (by rfl) 24 _ rfl g8 rfl 24 #[.int .i64 (-128), .int .i64 127] _ k8 Try.underlying24 rfl info_ends ?_)
    | (refine quiet_load_whole (by rfl) 24 _ rfl g16 rfl 24 #[.int .i64 (-32768), .int .i64 32767] _ k16 Try.underlying24 rfl info_ends ?_)
    | (refine quiet_load_whole (by rfl) 24 _ rfl g32 rfl 24 #[.int .i64 (-2147483648), .int .i64 2147483647] _ k32 Try.underlying24 rfl info_ends ?_)
    | (quiet_step (fail)))
  quiet_step (exact later_calls (C8.out _))
  repeat (first
    | (refine quiet_load_whole (by rfl) 24 _ rfl g8 rfl 24 #[.int .i64 (-128), .int .i64 127] _ k8 Try.underlying24 rfl info_ends ?_)
    | (refine quiet_load_whole (by rfl) 24 _ rfl g16 rfl 24 #[.int .i64 (-32768), .int .i64 32767] _ k16 Try.underlying24 rfl info_ends ?_)
    | (refine quiet_load_whole (by rfl) 24 _ rfl g32 rfl 24 #[.int .i64 (-2147483648), .int .i64 2147483647] _ k32 Try.underlying24 rfl info_ends ?_)
    | (quiet_step (fail)))
  quiet_step (exact later_same (T1.out _))
  repeat (first
    | (refine quiet_load_whole (by rfl) 24 _ rfl g8 rfl 24 #[.int .i64 (-128), .int .i64 127] _ k8 Try.underlying24 rfl info_ends ?_)
    | (refine quiet_load_whole (by rfl) 24 _ rfl g16 rfl 24 #[.int .i64 (-32768), .int .i64 32767] _ k16 Try.underlying24 rfl info_ends ?_)
    | (refine quiet_load_whole (by rfl) 24 _ rfl g32 rfl 24 #[.int .i64 (-2147483648), .int .i64 2147483647] _ k32 Try.underlying24 rfl info_ends ?_)
    | (quiet_step (fail)))
  quiet_step (exact later_calls (C16.out _))
  repeat (first
    | (refine quiet_load_whole (by rfl) 24 _ rfl g8 rfl 24 #[.int .i64 (-128), .int .i64 127] _ k8 Try.underlying24 rfl info_ends ?_)
    | (refine quiet_load_whole (by rfl) 24 _ rfl g16 rfl 24 #[.int .i64 (-32768), .int .i64 32767] _ k16 Try.underlying24 rfl info_ends ?_)
    | (refine quiet_load_whole (by rfl) 24 _ rfl g32 rfl 24 #[.int .i64 (-2147483648), .int .i64 2147483647] _ k32 Try.underlying24 rfl info_ends ?_)
    | (quiet_step (fail)))
  quiet_step (exact later_same (T2.out _))
  repeat (first
    | (refine quiet_load_whole (by rfl) 24 _ rfl g8 rfl 24 #[.int .i64 (-128), .int .i64 127] _ k8 Try.underlying24 rfl info_ends ?_)
    | (refine quiet_load_whole (by rfl) 24 _ rfl g16 rfl 24 #[.int .i64 (-32768), .int .i64 32767] _ k16 Try.underlying24 rfl info_ends ?_)
    | (refine quiet_load_whole (by rfl) 24 _ rfl g32 rfl 24 #[.int .i64 (-2147483648), .int .i64 2147483647] _ k32 Try.underlying24 rfl info_ends ?_)
    | (quiet_step (fail)))
  quiet_step (exact later_calls (C32.out _))
  repeat (first
    | (refine quiet_load_whole (by rfl) 24 _ rfl g8 rfl 24 #[.int .i64 (-128), .int .i64 127] _ k8 Try.underlying24 rfl info_ends ?_)
    | (refine quiet_load_whole (by rfl) 24 _ rfl g16 rfl 24 #[.int .i64 (-32768), .int .i64 32767] _ k16 Try.underlying24 rfl info_ends ?_)
    | (refine quiet_load_whole (by rfl) 24 _ rfl g32 rfl 24 #[.int .i64 (-2147483648), .int .i64 2147483647] _ k32 Try.underlying24 rfl info_ends ?_)
    | (quiet_step (fail)))
  quiet_step (exact later_same (T3.out _))
  repeat (first
    | (refine quiet_load_whole (by rfl) 24 _ rfl g8 rfl 24 #[.int .i64 (-128), .int .i64 127] _ k8 Try.underlying24 rfl info_ends ?_)
    | (refine quiet_load_whole (by rfl) 24 _ rfl g16 rfl 24 #[.int .i64 (-32768), .int .i64 32767] _ k16 Try.underlying24 rfl info_ends ?_)
    | (refine quiet_load_whole (by rfl) 24 _ rfl g32 rfl 24 #[.int .i64 (-2147483648), .int .i64 2147483647] _ k32 Try.underlying24 rfl info_ends ?_)
    | (quiet_step (fail)))
  quiet_step (exact later_same (T4.out _))
  repeat (first
    | (refine quiet_load_whole (by rfl) 24 _ rfl g8 rfl 24 #[.int .i64 (-128), .int .i64 127] _ k8 Try.underlying24 rfl info_ends ?_)
    | (refine quiet_load_whole (by rfl) 24 _ rfl g16 rfl 24 #[.int .i64 (-32768), .int .i64 32767] _ k16 Try.underlying24 rfl info_ends ?_)
    | (refine quiet_load_whole (by rfl) 24 _ rfl g32 rfl 24 #[.int .i64 (-2147483648), .int .i64 2147483647] _ k32 Try.underlying24 rfl info_ends ?_)
    | (quiet_step (fail)))
  quiet_step (exact later_same (T5.out _))
  repeat (first
    | (refine quiet_load_whole (by rfl) 24 _ rfl g8 rfl 24 #[.int .i64 (-128), .int .i64 127] _ k8 Try.underlying24 rfl info_ends ?_)
    | (refine quiet_load_whole (by rfl) 24 _ rfl g16 rfl 24 #[.int .i64 (-32768), .int .i64 32767] _ k16 Try.underlying24 rfl info_ends ?_)
    | (refine quiet_load_whole (by rfl) 24 _ rfl g32 rfl 24 #[.int .i64 (-2147483648), .int .i64 2147483647] _ k32 Try.underlying24 rfl info_ends ?_)
    | (quiet_step (fail)))
  quiet_step (exact later_calls (C16.out _))
  repeat (first
    | (refine quiet_load_whole (by rfl) 24 _ rfl g8 rfl 24 #[.int .i64 (-128), .int .i64 127] _ k8 Try.underlying24 rfl info_ends ?_)
    | (refine quiet_load_whole (by rfl) 24 _ rfl g16 rfl 24 #[.int .i64 (-32768), .int .i64 32767] _ k16 Try.underlying24 rfl info_ends ?_)
    | (refine quiet_load_whole (by rfl) 24 _ rfl g32 rfl 24 #[.int .i64 (-2147483648), .int .i64 2147483647] _ k32 Try.underlying24 rfl info_ends ?_)
    | (quiet_step (fail)))
  refine wpQuiet_nil ?_
  rintro w' ⟨r, rfl⟩
  have hB4 := belowThen' hB3 r.below
  have hE8_4 := hE8_3.past r.below
  have hE16_4 := hE16_3.past r.below
  have hE32_4 := hE32_3.past r.below
  clear k8 k16 k32 hB3 hE8_3 hE16_3 hE32_3
  generalize r.w = w4 at *
  go_wp2_with (first
    | refine wpList_load_whole rfl 24 _ rfl g32 rfl 24 #[.int .i64 (-2147483648), .int .i64 2147483647] _ hE32_4 Try.underlying24 rfl info_ends ?_)
  refine (C32.out _).mono ?_
  rintro e w5 ⟨rfl, hb⟩
  have hB5 := belowThen' hB4 hb
  have hE8_5 := hE8_4.past hb
  have hE16_5 := hE16_4.past hb
  have hE32_5 := hE32_4.past hb
  clear hb hB4 hE8_4 hE16_4 hE32_4
  go_wp2_with (first
    | refine wpList_load_whole rfl 24 _ rfl g16 rfl 24 #[.int .i64 (-32768), .int .i64 32767] _ hE16_5 Try.underlying24 rfl info_ends ?_)
  refine (C16.out _).mono ?_
  rintro e w6 ⟨rfl, hb⟩
  have hB6 := belowThen' hB5 hb
  have hE8_6 := hE8_5.past hb
  have hE16_6 := hE16_5.past hb
  have hE32_6 := hE32_5.past hb
  clear hb hB5 hE8_5 hE16_5 hE32_5
  go_wp2_with (first
    | refine wpList_load_whole rfl 24 _ rfl g8 rfl 24 #[.int .i64 (-128), .int .i64 127] _ hE8_6 Try.underlying24 rfl info_ends ?_)
  refine (C8.out _).mono ?_
  rintro e w7 ⟨rfl, hb⟩
  have hB7 := belowThen' hB6 hb
  have hE8_7 := hE8_6.past hb
  have hE16_7 := hE16_6.past hb
  have hE32_7 := hE32_6.past hb
  clear hb hB6 hE8_6 hE16_6 hE32_6
  go_wp2_with fail
  have k8 : ∀ w', (∃ r : Later w7, w' = r.w) → Whole w' g8 24 #[.int .i64 (-128), .int .i64 127] := by rintro w' ⟨r, rfl⟩; exact hE8_7.past r.below
  have k16 : ∀ w', (∃ r : Later w7, w' = r.w) → Whole w' g16 24 #[.int .i64 (-32768), .int .i64 32767] := by rintro w' ⟨r, rfl⟩; exact hE16_7.past r.below
  have k32 : ∀ w', (∃ r : Later w7, w' = r.w) → Whole w' g32 24 #[.int .i64 (-2147483648), .int .i64 2147483647] := by rintro w' ⟨r, rfl⟩; exact hE32_7.past r.below
  haveI := later_some w7
  refine region_later (by kernel_rfl) (by kernel_rfl) ?_
  repeat (first
    | (refine quiet_load_whole (by rfl) 24 _ rfl g8 rfl 24 #[.int .i64 (-128), .int .i64 127] _ k8 Try.underlying24 rfl info_ends ?_)
    | (refine quiet_load_whole (by rfl) 24 _ rfl g16 rfl 24 #[.int .i64 (-32768), .int .i64 32767] _ k16 Try.underlying24 rfl info_ends ?_)
    | (refine quiet_load_whole (by rfl) 24 _ rfl g32 rfl 24 #[.int .i64 (-2147483648), .int .i64 2147483647] _ k32 Try.underlying24 rfl info_ends ?_)
    | (quiet_step (fail)))
  quiet_step (exact later_same (T6.out _))
  repeat (first
    | (refine quiet_load_whole (by rfl) 24 _ rfl g8 rfl 24 #[.int .i64 (-128), .int .i64 127] _ k8 Try.underlying24 rfl info_ends ?_)
    | (refine quiet_load_whole (by rfl) 24 _ rfl g16 rfl 24 #[.int .i64 (-32768), .int .i64 32767] _ k16 Try.underlying24 rfl info_ends ?_)
    | (refine quiet_load_whole (by rfl) 24 _ rfl g32 rfl 24 #[.int .i64 (-2147483648), .int .i64 2147483647] _ k32 Try.underlying24 rfl info_ends ?_)
    | (quiet_step (fail)))
  quiet_step (exact later_calls (C8.out _))
  repeat (first
    | (refine quiet_load_whole (by rfl) 24 _ rfl g8 rfl 24 #[.int .i64 (-128), .int .i64 127] _ k8 Try.underlying24 rfl info_ends ?_)
    | (refine quiet_load_whole (by rfl) 24 _ rfl g16 rfl 24 #[.int .i64 (-32768), .int .i64 32767] _ k16 Try.underlying24 rfl info_ends ?_)
    | (refine quiet_load_whole (by rfl) 24 _ rfl g32 rfl 24 #[.int .i64 (-2147483648), .int .i64 2147483647] _ k32 Try.underlying24 rfl info_ends ?_)
    | (quiet_step (fail)))
  quiet_step (exact later_same (T7.out _))
  repeat (first
    | (refine quiet_load_whole (by rfl) 24 _ rfl g8 rfl 24 #[.int .i64 (-128), .int .i64 127] _ k8 Try.underlying24 rfl info_ends ?_)
    | (refine quiet_load_whole (by rfl) 24 _ rfl g16 rfl 24 #[.int .i64 (-32768), .int .i64 32767] _ k16 Try.underlying24 rfl info_ends ?_)
    | (refine quiet_load_whole (by rfl) 24 _ rfl g32 rfl 24 #[.int .i64 (-2147483648), .int .i64 2147483647] _ k32 Try.underlying24 rfl info_ends ?_)
    | (quiet_step (fail)))
  quiet_step (exact later_calls (C16.out _))
  repeat (first
    | (refine quiet_load_whole (by rfl) 24 _ rfl g8 rfl 24 #[.int .i64 (-128), .int .i64 127] _ k8 Try.underlying24 rfl info_ends ?_)
    | (refine quiet_load_whole (by rfl) 24 _ rfl g16 rfl 24 #[.int .i64 (-32768), .int .i64 32767] _ k16 Try.underlying24 rfl info_ends ?_)
    | (refine quiet_load_whole (by rfl) 24 _ rfl g32 rfl 24 #[.int .i64 (-2147483648), .int .i64 2147483647] _ k32 Try.underlying24 rfl info_ends ?_)
    | (quiet_step (fail)))
  quiet_step (exact later_same (T8.out _))
  repeat (first
    | (refine quiet_load_whole (by rfl) 24 _ rfl g8 rfl 24 #[.int .i64 (-128), .int .i64 127] _ k8 Try.underlying24 rfl info_ends ?_)
    | (refine quiet_load_whole (by rfl) 24 _ rfl g16 rfl 24 #[.int .i64 (-32768), .int .i64 32767] _ k16 Try.underlying24 rfl info_ends ?_)
    | (refine quiet_load_whole (by rfl) 24 _ rfl g32 rfl 24 #[.int .i64 (-2147483648), .int .i64 2147483647] _ k32 Try.underlying24 rfl info_ends ?_)
    | (quiet_step (fail)))
  quiet_step (exact later_same (T9.out _))
  repeat (first
    | (refine quiet_load_whole (by rfl) 24 _ rfl g8 rfl 24 #[.int .i64 (-128), .int .i64 127] _ k8 Try.underlying24 rfl info_ends ?_)
    | (refine quiet_load_whole (by rfl) 24 _ rfl g16 rfl 24 #[.int .i64 (-32768), .int .i64 32767] _ k16 Try.underlying24 rfl info_ends ?_)
    | (refine quiet_load_whole (by rfl) 24 _ rfl g32 rfl 24 #[.int .i64 (-2147483648), .int .i64 2147483647] _ k32 Try.underlying24 rfl info_ends ?_)
    | (quiet_step (fail)))
  quiet_step (exact later_same (T10.out _))
  repeat (first
    | (refine quiet_load_whole (by rfl) 24 _ rfl g8 rfl 24 #[.int .i64 (-128), .int .i64 127] _ k8 Try.underlying24 rfl info_ends ?_)
    | (refine quiet_load_whole (by rfl) 24 _ rfl g16 rfl 24 #[.int .i64 (-32768), .int .i64 32767] _ k16 Try.underlying24 rfl info_ends ?_)
    | (refine quiet_load_whole (by rfl) 24 _ rfl g32 rfl 24 #[.int .i64 (-2147483648), .int .i64 2147483647] _ k32 Try.underlying24 rfl info_ends ?_)
    | (quiet_step (fail)))
  refine wpQuiet_nil ?_
  rintro w' ⟨r, rfl⟩
  have hB8 := belowThen' hB7 r.below
  have hE8_8 := hE8_7.past r.below
  have hE16_8 := hE16_7.past r.below
  have hE32_8 := hE32_7.past r.below
  clear k8 k16 k32 hB7 hE8_7 hE16_7 hE32_7
  generalize r.w = w8 at *
  go_wp2_with fail
  have k8 : ∀ w', (∃ r : Later w8, w' = r.w) → Whole w' g8 24 #[.int .i64 (-128), .int .i64 127] := by rintro w' ⟨r, rfl⟩; exact hE8_8.past r.below
  have k16 : ∀ w', (∃ r : Later w8, w' = r.w) → Whole w' g16 24 #[.int .i64 (-32768), .int .i64 32767] := by rintro w' ⟨r, rfl⟩; exact hE16_8.past r.below
  have k32 : ∀ w', (∃ r : Later w8, w' = r.w) → Whole w' g32 24 #[.int .i64 (-2147483648), .int .i64 2147483647] := by rintro w' ⟨r, rfl⟩; exact hE32_8.past r.below
  haveI := later_some w8
  refine region_later (by kernel_rfl) (by kernel_rfl) ?_
  repeat (first
    | (refine quiet_load_whole (by rfl) 24 _ rfl g8 rfl 24 #[.int .i64 (-128), .int .i64 127] _ k8 Try.underlying24 rfl info_ends ?_)
    | (refine quiet_load_whole (by rfl) 24 _ rfl g16 rfl 24 #[.int .i64 (-32768), .int .i64 32767] _ k16 Try.underlying24 rfl info_ends ?_)
    | (refine quiet_load_whole (by rfl) 24 _ rfl g32 rfl 24 #[.int .i64 (-2147483648), .int .i64 2147483647] _ k32 Try.underlying24 rfl info_ends ?_)
    | (quiet_step (fail)))
  quiet_step (exact later_same (T11.out _))
  repeat (first
    | (refine quiet_load_whole (by rfl) 24 _ rfl g8 rfl 24 #[.int .i64 (-128), .int .i64 127] _ k8 Try.underlying24 rfl info_ends ?_)
    | (refine quiet_load_whole (by rfl) 24 _ rfl g16 rfl 24 #[.int .i64 (-32768), .int .i64 32767] _ k16 Try.underlying24 rfl info_ends ?_)
    | (refine quiet_load_whole (by rfl) 24 _ rfl g32 rfl 24 #[.int .i64 (-2147483648), .int .i64 2147483647] _ k32 Try.underlying24 rfl info_ends ?_)
    | (quiet_step (fail)))
  quiet_step (exact later_calls (C8.out _))
  repeat (first
    | (refine quiet_load_whole (by rfl) 24 _ rfl g8 rfl 24 #[.int .i64 (-128), .int .i64 127] _ k8 Try.underlying24 rfl info_ends ?_)
    | (refine quiet_load_whole (by rfl) 24 _ rfl g16 rfl 24 #[.int .i64 (-32768), .int .i64 32767] _ k16 Try.underlying24 rfl info_ends ?_)
    | (refine quiet_load_whole (by rfl) 24 _ rfl g32 rfl 24 #[.int .i64 (-2147483648), .int .i64 2147483647] _ k32 Try.underlying24 rfl info_ends ?_)
    | (quiet_step (fail)))
  quiet_step (exact later_same (T12.out _))
  repeat (first
    | (refine quiet_load_whole (by rfl) 24 _ rfl g8 rfl 24 #[.int .i64 (-128), .int .i64 127] _ k8 Try.underlying24 rfl info_ends ?_)
    | (refine quiet_load_whole (by rfl) 24 _ rfl g16 rfl 24 #[.int .i64 (-32768), .int .i64 32767] _ k16 Try.underlying24 rfl info_ends ?_)
    | (refine quiet_load_whole (by rfl) 24 _ rfl g32 rfl 24 #[.int .i64 (-2147483648), .int .i64 2147483647] _ k32 Try.underlying24 rfl info_ends ?_)
    | (quiet_step (fail)))
  quiet_step (exact later_same (T13.out _))
  repeat (first
    | (refine quiet_load_whole (by rfl) 24 _ rfl g8 rfl 24 #[.int .i64 (-128), .int .i64 127] _ k8 Try.underlying24 rfl info_ends ?_)
    | (refine quiet_load_whole (by rfl) 24 _ rfl g16 rfl 24 #[.int .i64 (-32768), .int .i64 32767] _ k16 Try.underlying24 rfl info_ends ?_)
    | (refine quiet_load_whole (by rfl) 24 _ rfl g32 rfl 24 #[.int .i64 (-2147483648), .int .i64 2147483647] _ k32 Try.underlying24 rfl info_ends ?_)
    | (quiet_step (fail)))
  quiet_step (exact later_same (T14.out _))
  repeat (first
    | (refine quiet_load_whole (by rfl) 24 _ rfl g8 rfl 24 #[.int .i64 (-128), .int .i64 127] _ k8 Try.underlying24 rfl info_ends ?_)
    | (refine quiet_load_whole (by rfl) 24 _ rfl g16 rfl 24 #[.int .i64 (-32768), .int .i64 32767] _ k16 Try.underlying24 rfl info_ends ?_)
    | (refine quiet_load_whole (by rfl) 24 _ rfl g32 rfl 24 #[.int .i64 (-2147483648), .int .i64 2147483647] _ k32 Try.underlying24 rfl info_ends ?_)
    | (quiet_step (fail)))
  refine wpQuiet_nil ?_
  rintro w' ⟨r, rfl⟩
  have hB9 := belowThen' hB8 r.below
  have hE8_9 := hE8_8.past r.below
  have hE16_9 := hE16_8.past r.below
  have hE32_9 := hE32_8.past r.below
  clear k8 k16 k32 hB8 hE8_8 hE16_8 hE32_8
  generalize r.w = w9 at *
  go_wp2_with fail
  refine (T15.out _).mono ?_
  rintro e w' ⟨rfl, rfl⟩
  go_wp2_with fail
  refine (T16.out _).mono ?_
  rintro e w' ⟨rfl, rfl⟩
  go_wp2_with fail
  refine (T17.out _).mono ?_
  rintro e w' ⟨rfl, rfl⟩
  go_wp2_with fail
  refine (T18.out _).mono ?_
  rintro e w' ⟨rfl, rfl⟩
  go_wp2_with fail
  go_ret
  exact ⟨rfl, hB9⟩
end Go.Proofs.Ytiphappckgmikaa
