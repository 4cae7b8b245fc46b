/-
  The walks of sat.To, sat.Sum and works. Conditions: the numbers are of their kinds.
-/
import Derived.Test.YtiphappckgmikaaSatI8
import Derived.Test.YtiphappckgmikaaSatI16
import Derived.Test.YtiphappckgmikaaSatI32
import Derived.Test.YtiphappckgmikaaSatI64
import Derived.Test.YtiphappckgmikaaSatInt
import Derived.Test.YtiphappckgmikaaSatOwn
import Derived.Test.YtiphappckgmikaaSatR
namespace Go.Proofs.Ytiphappckgmikaa
open Go.RowKit

theorem to_int8_int64 (a : Int) (ha : -9223372036854775808 ≤ a ∧ a ≤ 9223372036854775807) (w : World) :
    Calls Try.prog 16 #[.int .i64 a] w fun e w' => e = .returned (.int .i8 (cl (-128) 127 a)) ∧ w = w' := by
  go_enter Try.func16, Try.ntmps16
  go_wp2_with fail
  refine (ends_int8 _).mono ?_
  rintro e w' ⟨rfl, rfl⟩
  go_wp2_with fail
  all_goals
    go_ret
    refine ⟨ret_int ?_, rfl⟩
    (unfold cl; (try simp only [wr_all] at *); (split <;> first | omega | (split <;> omega)))

theorem to_int16_int64 (a : Int) (ha : -9223372036854775808 ≤ a ∧ a ≤ 9223372036854775807) (w : World) :
    Calls Try.prog 18 #[.int .i64 a] w fun e w' => e = .returned (.int .i16 (cl (-32768) 32767 a)) ∧ w = w' := by
  go_enter Try.func18, Try.ntmps18
  go_wp2_with fail
  refine (ends_int16 _).mono ?_
  rintro e w' ⟨rfl, rfl⟩
  go_wp2_with fail
  all_goals
    go_ret
    refine ⟨ret_int ?_, rfl⟩
    (unfold cl; (try simp only [wr_all] at *); (split <;> first | omega | (split <;> omega)))

theorem to_int32_int64 (a : Int) (ha : -9223372036854775808 ≤ a ∧ a ≤ 9223372036854775807) (w : World) :
    Calls Try.prog 19 #[.int .i64 a] w fun e w' => e = .returned (.int .i32 (cl (-2147483648) 2147483647 a)) ∧ w = w' := by
  go_enter Try.func19, Try.ntmps19
  go_wp2_with fail
  refine (ends_int32 _).mono ?_
  rintro e w' ⟨rfl, rfl⟩
  go_wp2_with fail
  all_goals
    go_ret
    refine ⟨ret_int ?_, rfl⟩
    (unfold cl; (try simp only [wr_all] at *); (split <;> first | omega | (split <;> omega)))

theorem to_int64_int64 (a : Int) (ha : -9223372036854775808 ≤ a ∧ a ≤ 9223372036854775807) (w : World) :
    Calls Try.prog 20 #[.int .i64 a] w fun e w' => e = .returned (.int .i64 (cl (-9223372036854775808) 9223372036854775807 a)) ∧ w = w' := by
  go_enter Try.func20, Try.ntmps20
  go_wp2_with fail
  refine (ends_int64 _).mono ?_
  rintro e w' ⟨rfl, rfl⟩
  go_wp2_with fail
  all_goals
    go_ret
    refine ⟨ret_int ?_, rfl⟩
    (unfold cl; (try simp only [wr_all] at *); (split <;> first | omega | (split <;> omega)))

theorem to_int_int64 (a : Int) (ha : -9223372036854775808 ≤ a ∧ a ≤ 9223372036854775807) (w : World) :
    Calls Try.prog 21 #[.int .i64 a] w fun e w' => e = .returned (.int .i64 (cl (-9223372036854775808) 9223372036854775807 a)) ∧ w = w' := by
  go_enter Try.func21, Try.ntmps21
  go_wp2_with fail
  refine (ends_int _).mono ?_
  rintro e w' ⟨rfl, rfl⟩
  go_wp2_with fail
  all_goals
    go_ret
    refine ⟨ret_int ?_, rfl⟩
    (unfold cl; (try simp only [wr_all] at *); (split <;> first | omega | (split <;> omega)))

theorem to_Own_int64 (a : Int) (ha : -9223372036854775808 ≤ a ∧ a ≤ 9223372036854775807) (w : World) :
    Calls Try.prog 22 #[.int .i64 a] w fun e w' => e = .returned (.int .i16 (cl (-32768) 32767 a)) ∧ w = w' := by
  go_enter Try.func22, Try.ntmps22
  go_wp2_with fail
  refine (ends_Own _).mono ?_
  rintro e w' ⟨rfl, rfl⟩
  go_wp2_with fail
  all_goals
    go_ret
    refine ⟨ret_int ?_, rfl⟩
    (unfold cl; (try simp only [wr_all] at *); (split <;> first | omega | (split <;> omega)))

theorem to_int8_int32 (a : Int) (ha : -2147483648 ≤ a ∧ a ≤ 2147483647) (w : World) :
    Calls Try.prog 23 #[.int .i32 a] w fun e w' => e = .returned (.int .i8 (cl (-128) 127 a)) ∧ w = w' := by
  go_enter Try.func23, Try.ntmps23
  go_wp2_with fail
  refine (ends_int8 _).mono ?_
  rintro e w' ⟨rfl, rfl⟩
  go_wp2_with fail
  all_goals
    go_ret
    refine ⟨ret_int ?_, rfl⟩
    (unfold cl; (try simp only [wr_all] at *); (split <;> first | omega | (split <;> omega)))

theorem to_Own_int32 (a : Int) (ha : -2147483648 ≤ a ∧ a ≤ 2147483647) (w : World) :
    Calls Try.prog 24 #[.int .i32 a] w fun e w' => e = .returned (.int .i16 (cl (-32768) 32767 a)) ∧ w = w' := by
  go_enter Try.func24, Try.ntmps24
  go_wp2_with fail
  refine (ends_Own _).mono ?_
  rintro e w' ⟨rfl, rfl⟩
  go_wp2_with fail
  all_goals
    go_ret
    refine ⟨ret_int ?_, rfl⟩
    (unfold cl; (try simp only [wr_all] at *); (split <;> first | omega | (split <;> omega)))

theorem to_int64_int32 (a : Int) (ha : -2147483648 ≤ a ∧ a ≤ 2147483647) (w : World) :
    Calls Try.prog 25 #[.int .i32 a] w fun e w' => e = .returned (.int .i64 (cl (-9223372036854775808) 9223372036854775807 a)) ∧ w = w' := by
  go_enter Try.func25, Try.ntmps25
  go_wp2_with fail
  refine (ends_int64 _).mono ?_
  rintro e w' ⟨rfl, rfl⟩
  go_wp2_with fail
  all_goals
    go_ret
    refine ⟨ret_int ?_, rfl⟩
    (unfold cl; (try simp only [wr_all] at *); (split <;> first | omega | (split <;> omega)))

theorem to_int_int32 (a : Int) (ha : -2147483648 ≤ a ∧ a ≤ 2147483647) (w : World) :
    Calls Try.prog 26 #[.int .i32 a] w fun e w' => e = .returned (.int .i64 (cl (-9223372036854775808) 9223372036854775807 a)) ∧ w = w' := by
  go_enter Try.func26, Try.ntmps26
  go_wp2_with fail
  refine (ends_int _).mono ?_
  rintro e w' ⟨rfl, rfl⟩
  go_wp2_with fail
  all_goals
    go_ret
    refine ⟨ret_int ?_, rfl⟩
    (unfold cl; (try simp only [wr_all] at *); (split <;> first | omega | (split <;> omega)))

theorem to_int32_int32 (a : Int) (ha : -2147483648 ≤ a ∧ a ≤ 2147483647) (w : World) :
    Calls Try.prog 27 #[.int .i32 a] w fun e w' => e = .returned (.int .i32 (cl (-2147483648) 2147483647 a)) ∧ w = w' := by
  go_enter Try.func27, Try.ntmps27
  go_wp2_with fail
  refine (ends_int32 _).mono ?_
  rintro e w' ⟨rfl, rfl⟩
  go_wp2_with fail
  all_goals
    go_ret
    refine ⟨ret_int ?_, rfl⟩
    (unfold cl; (try simp only [wr_all] at *); (split <;> first | omega | (split <;> omega)))

theorem to_int8_int16 (a : Int) (ha : -32768 ≤ a ∧ a ≤ 32767) (w : World) :
    Calls Try.prog 28 #[.int .i16 a] w fun e w' => e = .returned (.int .i8 (cl (-128) 127 a)) ∧ w = w' := by
  go_enter Try.func28, Try.ntmps28
  go_wp2_with fail
  refine (ends_int8 _).mono ?_
  rintro e w' ⟨rfl, rfl⟩
  go_wp2_with fail
  all_goals
    go_ret
    refine ⟨ret_int ?_, rfl⟩
    (unfold cl; (try simp only [wr_all] at *); (split <;> first | omega | (split <;> omega)))

theorem to_int64_int16 (a : Int) (ha : -32768 ≤ a ∧ a ≤ 32767) (w : World) :
    Calls Try.prog 29 #[.int .i16 a] w fun e w' => e = .returned (.int .i64 (cl (-9223372036854775808) 9223372036854775807 a)) ∧ w = w' := by
  go_enter Try.func29, Try.ntmps29
  go_wp2_with fail
  refine (ends_int64 _).mono ?_
  rintro e w' ⟨rfl, rfl⟩
  go_wp2_with fail
  all_goals
    go_ret
    refine ⟨ret_int ?_, rfl⟩
    (unfold cl; (try simp only [wr_all] at *); (split <;> first | omega | (split <;> omega)))

theorem to_int32_Own (a : Int) (ha : -32768 ≤ a ∧ a ≤ 32767) (w : World) :
    Calls Try.prog 30 #[.int .i16 a] w fun e w' => e = .returned (.int .i32 (cl (-2147483648) 2147483647 a)) ∧ w = w' := by
  go_enter Try.func30, Try.ntmps30
  go_wp2_with fail
  refine (ends_int32 _).mono ?_
  rintro e w' ⟨rfl, rfl⟩
  go_wp2_with fail
  all_goals
    go_ret
    refine ⟨ret_int ?_, rfl⟩
    (unfold cl; (try simp only [wr_all] at *); (split <;> first | omega | (split <;> omega)))

theorem to_int8_Own (a : Int) (ha : -32768 ≤ a ∧ a ≤ 32767) (w : World) :
    Calls Try.prog 31 #[.int .i16 a] w fun e w' => e = .returned (.int .i8 (cl (-128) 127 a)) ∧ w = w' := by
  go_enter Try.func31, Try.ntmps31
  go_wp2_with fail
  refine (ends_int8 _).mono ?_
  rintro e w' ⟨rfl, rfl⟩
  go_wp2_with fail
  all_goals
    go_ret
    refine ⟨ret_int ?_, rfl⟩
    (unfold cl; (try simp only [wr_all] at *); (split <;> first | omega | (split <;> omega)))

theorem to_int16_int8 (a : Int) (ha : -128 ≤ a ∧ a ≤ 127) (w : World) :
    Calls Try.prog 32 #[.int .i8 a] w fun e w' => e = .returned (.int .i16 (cl (-32768) 32767 a)) ∧ w = w' := by
  go_enter Try.func32, Try.ntmps32
  go_wp2_with fail
  refine (ends_int16 _).mono ?_
  rintro e w' ⟨rfl, rfl⟩
  go_wp2_with fail
  all_goals
    go_ret
    refine ⟨ret_int ?_, rfl⟩
    (unfold cl; (try simp only [wr_all] at *); (split <;> first | omega | (split <;> omega)))

theorem to_int_int8 (a : Int) (ha : -128 ≤ a ∧ a ≤ 127) (w : World) :
    Calls Try.prog 33 #[.int .i8 a] w fun e w' => e = .returned (.int .i64 (cl (-9223372036854775808) 9223372036854775807 a)) ∧ w = w' := by
  go_enter Try.func33, Try.ntmps33
  go_wp2_with fail
  refine (ends_int _).mono ?_
  rintro e w' ⟨rfl, rfl⟩
  go_wp2_with fail
  all_goals
    go_ret
    refine ⟨ret_int ?_, rfl⟩
    (unfold cl; (try simp only [wr_all] at *); (split <;> first | omega | (split <;> omega)))

theorem to_int8_int8 (a : Int) (ha : -128 ≤ a ∧ a ≤ 127) (w : World) :
    Calls Try.prog 34 #[.int .i8 a] w fun e w' => e = .returned (.int .i8 (cl (-128) 127 a)) ∧ w = w' := by
  go_enter Try.func34, Try.ntmps34
  go_wp2_with fail
  refine (ends_int8 _).mono ?_
  rintro e w' ⟨rfl, rfl⟩
  go_wp2_with fail
  all_goals
    go_ret
    refine ⟨ret_int ?_, rfl⟩
    (unfold cl; (try simp only [wr_all] at *); (split <;> first | omega | (split <;> omega)))

theorem to_int8_int (a : Int) (ha : -9223372036854775808 ≤ a ∧ a ≤ 9223372036854775807) (w : World) :
    Calls Try.prog 35 #[.int .i64 a] w fun e w' => e = .returned (.int .i8 (cl (-128) 127 a)) ∧ w = w' := by
  go_enter Try.func35, Try.ntmps35
  go_wp2_with fail
  refine (ends_int8 _).mono ?_
  rintro e w' ⟨rfl, rfl⟩
  go_wp2_with fail
  all_goals
    go_ret
    refine ⟨ret_int ?_, rfl⟩
    (unfold cl; (try simp only [wr_all] at *); (split <;> first | omega | (split <;> omega)))

/-- The sum from the left. -/
def sumF (lo hi : Int) (l : List Int) : Int := l.foldl (fun n x => cl lo hi (n + x)) 0
theorem sumF_snoc (lo hi : Int) (l : List Int) (x : Int) : sumF lo hi (l ++ [x]) = cl lo hi (sumF lo hi l + x) := by simp [sumF]
theorem sumF_bd {lo hi : Int} (l : List Int) (h0 : lo ≤ 0) (h1 : 0 ≤ hi) : lo ≤ sumF lo hi l ∧ sumF lo hi l ≤ hi := by
  rcases List.eq_nil_or_concat l with rfl | ⟨m, x, rfl⟩
  · exact ⟨h0, h1⟩
  · rw [List.concat_eq_append, sumF_snoc]; exact cl_bd _ (by omega)
theorem take_snoc' {α : Type} (l : List α) (k : Nat) (h : k < l.length) : l.take (k + 1) = l.take k ++ [l[k]] := by
  rw [List.take_succ_eq_append_getElem h]

theorem sum_int8 (l : List Int) (A : Option Addr) (B cap : Nat) (w : World) (hl : Lies w B A (l.map (Value.int .i8))) (hz : ∀ z ∈ l, -128 ≤ z ∧ z ≤ 127) (hm : l.length ≤ 9223372036854775807) :
    Calls Try.prog 36 #[.slice A l.length cap] w fun e w' => e = .returned (.int .i8 (sumF (-128) 127 l)) ∧ w = w' := by
  go_enter Try.func36, Try.ntmps36
  go_wp2_with fail
  go_loop [3, 8] (fun vn vi => ∃ k : Nat, k ≤ l.length ∧ vi = .int .i64 k ∧ vn = .int .i8 (sumF (-128) 127 (l.take k))) (fun _ vi => l.length - (intOf vi).toNat)
  case atStart => exact ⟨0, by omega, rfl, rfl⟩
  case round =>
    obtain ⟨k, hk, rfl, rfl⟩ := hrel
    by_cases hlt : k < l.length
    · obtain ⟨g, off, rfl, _, hc⟩ := hl k (.int .i8 l[k]) (by simp [hlt])
      have hx := hz l[k] (List.getElem_mem hlt)
      have hs : Hid (sumF (-128) 127 (l.take (k + 1)) = cl (-128) 127 (sumF (-128) 127 (l.take k) + l[k])) := Lib.hid (by rw [take_snoc' l k hlt, sumF_snoc])
      have hb := sumF_bd (lo := -128) (hi := 127) (l.take k) (by omega) (by omega)
      generalize sumF (-128) 127 (l.take k) = n at *
      generalize l[k] = x at *
      go_wp2_with fail
      refine (add_int8 n x hb hx _).mono ?_
      rintro e w' ⟨rfl, rfl⟩
      go_wp2_with fail
      go_round
      case rel => exact ⟨k + 1, by omega, by go_num, by rw [hs.out]⟩
      case measure => simp [intOf]; omega
    · have he : Hid (l.take k = l) := Lib.hid (List.take_of_length_le (by omega))
      rw [he.out]
      go_wp2_with fail
      go_ret
      exact ⟨rfl, rfl⟩

theorem sum_int32 (l : List Int) (A : Option Addr) (B cap : Nat) (w : World) (hl : Lies w B A (l.map (Value.int .i32))) (hz : ∀ z ∈ l, -2147483648 ≤ z ∧ z ≤ 2147483647) (hm : l.length ≤ 9223372036854775807) :
    Calls Try.prog 38 #[.slice A l.length cap] w fun e w' => e = .returned (.int .i32 (sumF (-2147483648) 2147483647 l)) ∧ w = w' := by
  go_enter Try.func38, Try.ntmps38
  go_wp2_with fail
  go_loop [3, 8] (fun vn vi => ∃ k : Nat, k ≤ l.length ∧ vi = .int .i64 k ∧ vn = .int .i32 (sumF (-2147483648) 2147483647 (l.take k))) (fun _ vi => l.length - (intOf vi).toNat)
  case atStart => exact ⟨0, by omega, rfl, rfl⟩
  case round =>
    obtain ⟨k, hk, rfl, rfl⟩ := hrel
    by_cases hlt : k < l.length
    · obtain ⟨g, off, rfl, _, hc⟩ := hl k (.int .i32 l[k]) (by simp [hlt])
      have hx := hz l[k] (List.getElem_mem hlt)
      have hs : Hid (sumF (-2147483648) 2147483647 (l.take (k + 1)) = cl (-2147483648) 2147483647 (sumF (-2147483648) 2147483647 (l.take k) + l[k])) := Lib.hid (by rw [take_snoc' l k hlt, sumF_snoc])
      have hb := sumF_bd (lo := -2147483648) (hi := 2147483647) (l.take k) (by omega) (by omega)
      generalize sumF (-2147483648) 2147483647 (l.take k) = n at *
      generalize l[k] = x at *
      go_wp2_with fail
      refine (add_int32 n x hb hx _).mono ?_
      rintro e w' ⟨rfl, rfl⟩
      go_wp2_with fail
      go_round
      case rel => exact ⟨k + 1, by omega, by go_num, by rw [hs.out]⟩
      case measure => simp [intOf]; omega
    · have he : Hid (l.take k = l) := Lib.hid (List.take_of_length_le (by omega))
      rw [he.out]
      go_wp2_with fail
      go_ret
      exact ⟨rfl, rfl⟩

theorem sum_int64 (l : List Int) (A : Option Addr) (B cap : Nat) (w : World) (hl : Lies w B A (l.map (Value.int .i64))) (hz : ∀ z ∈ l, -9223372036854775808 ≤ z ∧ z ≤ 9223372036854775807) (hm : l.length ≤ 9223372036854775807) :
    Calls Try.prog 39 #[.slice A l.length cap] w fun e w' => e = .returned (.int .i64 (sumF (-9223372036854775808) 9223372036854775807 l)) ∧ w = w' := by
  go_enter Try.func39, Try.ntmps39
  go_wp2_with fail
  go_loop [3, 8] (fun vn vi => ∃ k : Nat, k ≤ l.length ∧ vi = .int .i64 k ∧ vn = .int .i64 (sumF (-9223372036854775808) 9223372036854775807 (l.take k))) (fun _ vi => l.length - (intOf vi).toNat)
  case atStart => exact ⟨0, by omega, rfl, rfl⟩
  case round =>
    obtain ⟨k, hk, rfl, rfl⟩ := hrel
    by_cases hlt : k < l.length
    · obtain ⟨g, off, rfl, _, hc⟩ := hl k (.int .i64 l[k]) (by simp [hlt])
      have hx := hz l[k] (List.getElem_mem hlt)
      have hs : Hid (sumF (-9223372036854775808) 9223372036854775807 (l.take (k + 1)) = cl (-9223372036854775808) 9223372036854775807 (sumF (-9223372036854775808) 9223372036854775807 (l.take k) + l[k])) := Lib.hid (by rw [take_snoc' l k hlt, sumF_snoc])
      have hb := sumF_bd (lo := -9223372036854775808) (hi := 9223372036854775807) (l.take k) (by omega) (by omega)
      generalize sumF (-9223372036854775808) 9223372036854775807 (l.take k) = n at *
      generalize l[k] = x at *
      go_wp2_with fail
      refine (add_int64 n x hb hx _).mono ?_
      rintro e w' ⟨rfl, rfl⟩
      go_wp2_with fail
      go_round
      case rel => exact ⟨k + 1, by omega, by go_num, by rw [hs.out]⟩
      case measure => simp [intOf]; omega
    · have he : Hid (l.take k = l) := Lib.hid (List.take_of_length_le (by omega))
      rw [he.out]
      go_wp2_with fail
      go_ret
      exact ⟨rfl, rfl⟩

theorem works_any (w : World) : Calls Try.prog 14 #[] w fun e w' => e = .returned (.bool true) ∧ Below w.heap.size w w' := by
  have h1 := fun w => div_int8 (-128) (-1) (by omega) (by omega) w
  have h2 := fun w => add_int8 100 100 (by omega) (by omega) w
  have h3 := fun w => mul_int16 (-300) 300 (by omega) (by omega) w
  have h4 := fun w => to_int8_int64 (-999) (by omega) w
  rw [show cl (-128) 127 ((-128 : Int).tdiv (-1)) = 127 from by decide, show decide ((-1 : Int) ≠ 0) = true from by decide] at h1
  rw [show cl (-128) 127 (100 + 100) = 127 from by decide] at h2
  rw [show cl (-32768) 32767 (-300 * 300) = -32768 from by decide] at h3
  rw [show cl (-128) 127 (-999) = -128 from by decide] at h4
  have H1 := Lib.hid h1; clear h1
  have H2 := Lib.hid h2; clear h2
  have H3 := Lib.hid h3; clear h3
  have H4 := Lib.hid h4; clear h4
  go_enter Try.func14, Try.ntmps14
  go_wp2_with fail
  refine (H1.out _).mono ?_
  rintro e w' ⟨rfl, rfl⟩
  go_wp2_with fail
  refine (H2.out _).mono ?_
  rintro e w' ⟨rfl, rfl⟩
  go_wp2_with fail
  refine (H3.out _).mono ?_
  rintro e w' ⟨rfl, rfl⟩
  go_wp2_with fail
  refine (H4.out _).mono ?_
  rintro e w' ⟨rfl, rfl⟩
  go_wp2_with fail
  have h5 := sum_int32 [5, 6] (some ⟨w.heap.size, 0, none⟩) (w.heap.size + 1) 2 _ (Lies.row (t := 21) (fr := (0, 0)) (heap_alloc_new w (.cells #[.int .i32 5, .int .i32 6] 21)) (Nat.lt_succ_self _)) (by intro z hz; simp at hz; omega) (by simp)
  rw [show sumF (-2147483648) 2147483647 [5, 6] = 11 from by decide] at h5
  refine h5.mono ?_
  clear h5
  rintro e w' ⟨rfl, rfl⟩
  go_wp2_with fail
  go_ret
  exact ⟨rfl, (Below.refl _ _).alloc (Nat.le_refl _) _⟩
end Go.Proofs.Ytiphappckgmikaa
