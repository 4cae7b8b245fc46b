/-
  The walks of the document's functions on numbers that stop at their ends. Conditions: none.
-/
import Derived.Test.YtiphappckgmikaaSatA
import Derived.Test.YtiphappckgmikaaMem
namespace Go.Proofs.Ytiphappckgmikaa
open Go.RowKit

/-! 2 ^ m - 1, one bit less each round. -/
def eh (m : Nat) : Int := 2 ^ m - 1
theorem eh_half (m : Nat) : eh (m + 1) / 2 = eh m := by
  unfold eh; rw [Int.pow_succ]; omega
theorem eh_top : eh 63 = 9223372036854775807 := by decide
theorem eh_bd (m : Nat) (h : m ≤ 63) : 0 ≤ eh m ∧ eh m ≤ 9223372036854775807 := by
  have : ∀ m, m < 64 → 0 ≤ eh m ∧ eh m ≤ 9223372036854775807 := by decide +kernel
  exact this m (by omega)

theorem eh_7 : eh 7 = 127 := by decide
theorem eh_15 : eh 15 = 32767 := by decide
theorem eh_31 : eh 31 = 2147483647 := by decide
attribute [irreducible] eh
theorem info_ends : (Try.prog.info? 24).map (·.size) = some 2 := by kernel_rfl
theorem of_any (n : Nat) (h0 : 1 ≤ n) (h1 : n ≤ 64) (w : World) :
    Calls Try.prog 15 #[.int .i64 (n : Int)] w fun e w' => e = .returned (.agg #[.int .i64 (-(eh (n - 1)) - 1), .int .i64 (eh (n - 1))]) ∧ Below w.heap.size w w' := by
  have ht := Lib.hid eh_top

  go_enter Try.func15, Try.ntmps15
  go_wp2_with fail
  go_loop [3, 4] (fun vh vi => ∃ i m : Nat, n ≤ i ∧ i ≤ 64 ∧ m + i = 63 + n ∧ vi = .int .i64 (i : Int) ∧ vh = .int .i64 (eh m)) (fun _ vi => 64 - (intOf vi).toNat)
  case atStart => exact ⟨n, 63, by omega, by omega, by omega, rfl, by rw [ht.out]⟩
  case round =>
    obtain ⟨i, m, hi0, hi1, hm, rfl, rfl⟩ := hrel
    obtain ⟨b0, b1⟩ := eh_bd m (by omega)
    by_cases hlt : i < 64
    · obtain ⟨k, rfl⟩ : ∃ k, m = k + 1 := ⟨m - 1, by omega⟩
      have hh := Lib.hid (eh_half k)
      have HM : Hid (k + (i + 1) = 63 + n) := Lib.hid (by omega)
      clear hm
      generalize eh (k + 1) = x at *
      go_wp2_with fail
      go_round
      case rel => exact ⟨i + 1, k, by omega, by omega, HM.out, by go_num, by rw [hh.out]⟩
      case measure => simp [intOf]; omega
    · have hx : Hid (eh m = eh (n - 1)) := Lib.hid (by rw [show m = n - 1 by omega])
      clear hm
      generalize eh m = x at *
      go_wp2_with (first
        | (refine wpList_store_whole rfl 24 _ _ rfl rfl w.heap.size rfl #[.int .i64 (-x - 1), .int .i64 x] rfl 24 _ (Whole.made w _ _) info_ends rfl rfl ?_; rw [World.setRow_alloc_new]))
      refine bodyPost_ret (results_cell_row rfl _ _ w.heap.size _ _ (0, 0) _ rfl (Whole.made w _ _) Try.underlying24 rfl info_ends) rfl ⟨by rw [← hx.out], (Below.refl _ _).alloc (Nat.le_refl _) _⟩

/-- What ends are. -/
def Ends (lo hi : Int) : Prop := lo = -hi - 1 ∧ 1 ≤ hi ∧ hi ≤ 9223372036854775807
def endsV (lo hi : Int) : Value := .agg #[.int .i64 lo, .int .i64 hi]

theorem of_8 (w : World) : Calls Try.prog 15 #[.int .i64 8] w fun e w' => e = .returned (.agg #[.int .i64 (-128), .int .i64 127]) ∧ Below w.heap.size w w' := by
  have h := of_any 8 (by omega) (by omega) w
  rw [show 8 - 1 = 7 from rfl, eh_7] at h
  exact h
theorem endsOf_8 : Ends (-128) 127 := by unfold Ends; omega
theorem of_16 (w : World) : Calls Try.prog 15 #[.int .i64 16] w fun e w' => e = .returned (.agg #[.int .i64 (-32768), .int .i64 32767]) ∧ Below w.heap.size w w' := by
  have h := of_any 16 (by omega) (by omega) w
  rw [show 16 - 1 = 15 from rfl, eh_15] at h
  exact h
theorem endsOf_16 : Ends (-32768) 32767 := by unfold Ends; omega
theorem of_32 (w : World) : Calls Try.prog 15 #[.int .i64 32] w fun e w' => e = .returned (.agg #[.int .i64 (-2147483648), .int .i64 2147483647]) ∧ Below w.heap.size w w' := by
  have h := of_any 32 (by omega) (by omega) w
  rw [show 32 - 1 = 31 from rfl, eh_31] at h
  exact h
theorem endsOf_32 : Ends (-2147483648) 2147483647 := by unfold Ends; omega
theorem of_64 (w : World) : Calls Try.prog 15 #[.int .i64 64] w fun e w' => e = .returned (.agg #[.int .i64 (-9223372036854775808), .int .i64 9223372036854775807]) ∧ Below w.heap.size w w' := by
  have h := of_any 64 (by omega) (by omega) w
  rw [show 64 - 1 = 63 from rfl, eh_top] at h
  exact h
theorem endsOf_64 : Ends (-9223372036854775808) 9223372036854775807 := by unfold Ends; omega

theorem cut_any (a lo hi : Int) (he : Ends lo hi) (w : World) :
    Calls Try.prog 17 #[.int .i64 a, .agg #[.int .i64 lo, .int .i64 hi]] w fun e w' => e = .returned (.int .i64 (cl lo hi a)) ∧ Below w.heap.size w w' := by
  obtain ⟨rfl, h1, h2⟩ := he
  go_enter Try.func17, Try.ntmps17
  go_wp2_with fail
  all_goals
    go_ret
    refine ⟨ret_int ?_, by (first | exact Below.refl _ _ | exact (Below.refl _ _).alloc (Nat.le_refl _) _)⟩
    (unfold cl; (try simp only [wr_all] at *); (split <;> first | omega | (split <;> omega)))
theorem refAdd_any (a b lo hi : Int) (he : Ends lo hi) (ha : lo ≤ a ∧ a ≤ hi) (hb : lo ≤ b ∧ b ≤ hi) (w : World) :
    Calls Try.prog 58 #[.int .i64 a, .int .i64 b, .agg #[.int .i64 lo, .int .i64 hi]] w fun e w' => e = .returned (.int .i64 (cl lo hi (a + b))) ∧ Below w.heap.size w w' := by
  obtain ⟨rfl, h1, h2⟩ := he
  go_enter Try.func58, Try.ntmps58
  go_wp2_with fail
  all_goals
    go_ret
    refine ⟨ret_int ?_, by (first | exact Below.refl _ _ | exact (Below.refl _ _).alloc (Nat.le_refl _) _)⟩
    (unfold cl; (try simp only [wr_all] at *); (split <;> first | omega | (split <;> omega)))
theorem refSub_any (a b lo hi : Int) (he : Ends lo hi) (ha : lo ≤ a ∧ a ≤ hi) (hb : lo ≤ b ∧ b ≤ hi) (w : World) :
    Calls Try.prog 59 #[.int .i64 a, .int .i64 b, .agg #[.int .i64 lo, .int .i64 hi]] w fun e w' => e = .returned (.int .i64 (cl lo hi (a - b))) ∧ Below w.heap.size w w' := by
  obtain ⟨rfl, h1, h2⟩ := he
  go_enter Try.func59, Try.ntmps59
  go_wp2_with fail
  all_goals
    go_ret
    refine ⟨ret_int ?_, by (first | exact Below.refl _ _ | exact (Below.refl _ _).alloc (Nat.le_refl _) _)⟩
    (unfold cl; (try simp only [wr_all] at *); (split <;> first | omega | (split <;> omega)))
theorem cl_bd {lo hi : Int} (z : Int) (h : lo ≤ hi) : lo ≤ cl lo hi z ∧ cl lo hi z ≤ hi := by unfold cl; split <;> (try split) <;> omega
theorem rm_bd (a b M : Int) (h0 : -M ≤ a) (h1 : a < M) : -M ≤ rm a b ∧ rm a b < M := by
  unfold rm
  split
  · omega
  · have h : (a.tmod b).natAbs ≤ a.natAbs := by rw [Int.natAbs_tmod]; exact Nat.mod_le _ _
    by_cases ha : 0 ≤ a
    · omega
    · have h2 : a.tmod b ≤ 0 := by
        have := Int.tmod_nonneg b (a := -a) (by omega)
        rw [Int.neg_tmod] at this
        omega
      omega
theorem clamp_bd {lo hi a b c : Int} (ha : lo ≤ a ∧ a ≤ hi) (hb : lo ≤ b ∧ b ≤ hi) (hc : lo ≤ c ∧ c ≤ hi) : lo ≤ clamp a b c ∧ clamp a b c ≤ hi := by unfold clamp; omega
theorem below_past {w w' : World} {o : Obj} (h : Below (w.alloc o).heap.size (w.alloc o) w') : Below w.heap.size w w' := belowThen' ((Below.refl _ _).alloc (Nat.le_refl _) _) h
theorem refNeg_any (a lo hi : Int) (he : Ends lo hi) (ha : lo ≤ a ∧ a ≤ hi) (w : World) :
    Calls Try.prog 61 #[.int .i64 a, .agg #[.int .i64 lo, .int .i64 hi]] w fun e w' => e = .returned (.int .i64 (cl lo hi (-a))) ∧ Below w.heap.size w w' := by
  have h := fun w => refSub_any 0 a lo hi he (by unfold Ends at he; omega) ha w
  rw [Int.zero_sub] at h
  have H := Lib.hid h; clear h
  go_enter Try.func61, Try.ntmps61
  go_wp2_with fail
  refine (H.out _).mono ?_
  rintro e w' ⟨rfl, hb⟩
  go_wp2_with fail
  go_ret
  exact ⟨rfl, below_past hb⟩
theorem refAbs_any (a lo hi : Int) (he : Ends lo hi) (ha : lo ≤ a ∧ a ≤ hi) (w : World) :
    Calls Try.prog 62 #[.int .i64 a, .agg #[.int .i64 lo, .int .i64 hi]] w fun e w' => e = .returned (.int .i64 (cl lo hi (ab a))) ∧ Below w.heap.size w w' := by
  by_cases h0 : a < 0
  · have hab : Hid (ab a = -a) := Lib.hid (if_pos h0)
    go_enter Try.func62, Try.ntmps62
    go_wp2_with fail
    refine (refNeg_any a lo hi he ha _).mono ?_
    rintro e w' ⟨rfl, hb⟩
    go_wp2_with fail
    go_ret
    exact ⟨ret_int (by rw [hab.out]), below_past hb⟩
  · have hab : Hid (cl lo hi (ab a) = a) := Lib.hid (by rw [show ab a = a from if_neg h0]; exact cl_in ha.1 ha.2)
    go_enter Try.func62, Try.ntmps62
    go_wp2_with fail
    go_ret
    exact ⟨ret_int (by rw [hab.out]), by (first | exact Below.refl _ _ | exact (Below.refl _ _).alloc (Nat.le_refl _) _)⟩
theorem refDiv_any (a b lo hi : Int) (he : Ends lo hi) (ha : lo ≤ a ∧ a ≤ hi) (w : World) :
    Calls Try.prog 56 #[.int .i64 a, .int .i64 b, .agg #[.int .i64 lo, .int .i64 hi]] w fun e w' => e = .returned (.tuple #[.int .i64 (cl lo hi (a.tdiv b)), .bool (decide (b ≠ 0))]) ∧ Below w.heap.size w w' := by
  have HE := Lib.hid he
  obtain ⟨rfl, hi1, hi2⟩ := he
  by_cases h0 : b = 0
  · subst h0
    have hc : Hid (cl (-hi - 1) hi (a.tdiv 0) = 0) := Lib.hid (by rw [Int.tdiv_zero]; exact cl_in (by omega) (by omega))
    go_enter Try.func56, Try.ntmps56
    go_wp2_with fail
    go_ret2
    exact ⟨ret_pair (by rw [hc.out]) rfl, by (first | exact Below.refl _ _ | exact (Below.refl _ _).alloc (Nat.le_refl _) _)⟩
  · by_cases h1 : b = -1
    · subst h1
      go_enter Try.func56, Try.ntmps56
      go_wp2_with fail
      refine (refNeg_any a _ hi HE.out ha _).mono ?_
      rintro e w' ⟨rfl, hb⟩
      go_wp2_with fail
      go_ret2
      exact ⟨ret_pair (by rw [Int.tdiv_neg, Int.tdiv_one]) rfl, below_past hb⟩
    · have hq := tdiv_bd a b (hi + 1) (by omega) (by omega) h0 h1
      have hd := Lib.hid (decide_eq_true h0)
      have hne : (b == 0) = false := beq_eq_false_iff_ne.2 h0
      have hne1 : (b == -1) = false := beq_eq_false_iff_ne.2 h1
      have hcl : Hid (cl (-hi - 1) hi (a.tdiv b) = a.tdiv b) := Lib.hid (cl_in (by omega) (by omega))
      have hw : wrap64 (a.tdiv b) = a.tdiv b := by rw [wr_i64]; omega
      go_enter Try.func56, Try.ntmps56
      go_wp2_with fail
      go_ret2
      exact ⟨ret_pair hcl.out.symm hd.out.symm, by (first | exact Below.refl _ _ | exact (Below.refl _ _).alloc (Nat.le_refl _) _)⟩
theorem refRem_any (a b : Int) (w : World) :
    Calls Try.prog 57 #[.int .i64 a, .int .i64 b] w fun e w' => e = .returned (.tuple #[.int .i64 (rm a b), .bool (decide (b ≠ 0))]) ∧ w = w' := by
  by_cases h0 : b = 0
  · subst h0
    go_enter Try.func57, Try.ntmps57
    go_wp2_with fail
    go_ret2
    exact ⟨ret_pair rfl rfl, rfl⟩
  · by_cases h1 : b = -1
    · subst h1
      go_enter Try.func57, Try.ntmps57
      go_wp2_with fail
      go_ret2
      exact ⟨ret_pair (by rw [rm_neg]) rfl, rfl⟩
    · have hd := Lib.hid (decide_eq_true h0)
      have hne : (b == 0) = false := beq_eq_false_iff_ne.2 h0
      have hne1 : (b == -1) = false := beq_eq_false_iff_ne.2 h1
      have hr : Hid (rm a b = a.tmod b) := Lib.hid (if_neg h0)
      go_enter Try.func57, Try.ntmps57
      go_wp2_with fail
      go_ret2
      exact ⟨ret_pair hr.out.symm hd.out.symm, rfl⟩
theorem refClamp_any (a b c : Int) (w : World) :
    Calls Try.prog 64 #[.int .i64 a, .int .i64 b, .int .i64 c] w fun e w' => e = .returned (.int .i64 (clamp a b c)) ∧ w = w' := by
  go_enter Try.func64, Try.ntmps64
  go_wp2_with fail
  all_goals
    go_ret
    refine ⟨ret_int ?_, rfl⟩
    (unfold clamp; omega)
theorem size_any (a : Int) (ha : -9223372036854775808 ≤ a ∧ a ≤ 9223372036854775807) (w : World) :
    Calls Try.prog 103 #[.int .i64 a] w fun e w' => e = .returned (.int .u64 (ab a)) ∧ w = w' := by
  by_cases h : a < 0
  · have hs : Hid (ab a = -a) := Lib.hid (if_pos h)
    go_enter Try.func103, Try.ntmps103
    go_wp2_with fail
    go_ret
    exact ⟨ret_int (by rw [hs.out]; omega), rfl⟩
  · have hs : Hid (ab a = a) := Lib.hid (if_neg h)
    go_enter Try.func103, Try.ntmps103
    go_wp2_with fail
    go_ret
    exact ⟨ret_int (by rw [hs.out]), rfl⟩

/-! Products by their sizes. -/
theorem ab_pos {a : Int} (h : a ≠ 0) : 0 < ab a := by unfold ab; split <;> omega
theorem ab_mul (a b : Int) : ab a * ab b = if (decide (a < 0) == decide (b < 0)) then a * b else -(a * b) := by
  unfold ab
  by_cases h1 : a < 0 <;> by_cases h2 : b < 0 <;> simp [h1, h2, Int.neg_mul, Int.mul_neg]
theorem mul_size {a b M : Int} (hb : b ≠ 0) : M / ab b < ab a ↔ M < ab a * ab b := Int.ediv_lt_iff_lt_mul (ab_pos hb)
set_option maxHeartbeats 1000000 in
theorem refMul_any (a b lo hi : Int) (he : Ends lo hi) (ha : lo ≤ a ∧ a ≤ hi) (hb : lo ≤ b ∧ b ≤ hi) (w : World) :
    Calls Try.prog 60 #[.int .i64 a, .int .i64 b, .agg #[.int .i64 lo, .int .i64 hi]] w fun e w' => e = .returned (.int .i64 (cl lo hi (a * b))) ∧ Below w.heap.size w w' := by
  obtain ⟨rfl, h1, h2⟩ := he
  by_cases ha0 : a = 0
  · subst ha0
    have hz : Hid (cl (-hi - 1) hi (0 * b) = 0) := Lib.hid (by rw [Int.zero_mul]; exact cl_in (by omega) (by omega))
    go_enter Try.func60, Try.ntmps60
    go_wp2_with fail
    go_ret
    exact ⟨ret_int (by rw [hz.out]), by (first | exact Below.refl _ _ | exact (Below.refl _ _).alloc (Nat.le_refl _) _)⟩
  have hne : (a == 0) = false := beq_eq_false_iff_ne.2 ha0
  by_cases hb0 : b = 0
  · subst hb0
    have hz : Hid (cl (-hi - 1) hi (a * 0) = 0) := Lib.hid (by rw [Int.mul_zero]; exact cl_in (by omega) (by omega))
    go_enter Try.func60, Try.ntmps60
    go_wp2_with fail
    go_ret
    exact ⟨ret_int (by rw [hz.out]), by (first | exact Below.refl _ _ | exact (Below.refl _ _).alloc (Nat.le_refl _) _)⟩
  have hne' : (b == 0) = false := beq_eq_false_iff_ne.2 hb0
  have hab := ab_mul a b
  have hq0 := fun M => mul_size (a := a) (M := M) hb0
  have hpa := ab_pos ha0
  have hpb := ab_pos hb0
  have hlo : ab (-hi - 1) = hi + 1 := by unfold ab; rw [if_pos (by omega)]; omega
  have hhi : ab hi = hi := by unfold ab; rw [if_neg (by omega)]
  have hsa := fun w => size_any a (by omega) w
  have hsb := fun w => size_any b (by omega) w
  have hsl := fun w => size_any (-hi - 1) (by omega) w
  have hsh := fun w => size_any hi (by omega) w
  rw [hlo] at hsl
  rw [hhi] at hsh
  have HA := Lib.hid hsa; clear hsa
  have HB := Lib.hid hsb; clear hsb
  have HL := Lib.hid hsl; clear hsl
  have HH := Lib.hid hsh; clear hsh
  clear hlo hhi
  have hba : ab a ≤ hi + 1 := by unfold ab; split <;> omega
  have hbb : ab b ≤ hi + 1 := by unfold ab; split <;> omega
  clear ha0 hb0
  generalize hm : a * b = m at *
  generalize ab a = p at *
  generalize ab b = q at *
  cases hs : (decide (a < 0) == decide (b < 0)) with
  | true =>
    have hq := hq0 hi
    clear hq0
    rw [hs, if_pos rfl] at hab
    rw [hab] at hq
    have hpos := Int.mul_pos hpa hpb
    rw [hab] at hpos
    have HAB := Lib.hid hab; clear hab
    by_cases hov : hi < m
    · have hov' := hq.2 hov
      have hc : Hid (cl (-hi - 1) hi m = hi) := Lib.hid (cl_hi (by omega) hov)
      clear hq hov
      go_enter Try.func60, Try.ntmps60
      go_wp2_with fail
      refine (HH.out _).mono ?_
      rintro e w' ⟨rfl, rfl⟩
      go_wp2_with fail
      refine (HA.out _).mono ?_
      rintro e w' ⟨rfl, rfl⟩
      go_wp2_with fail
      refine (HB.out _).mono ?_
      rintro e w' ⟨rfl, rfl⟩
      go_wp2_with fail
      go_ret
      exact ⟨ret_int (by rw [hc.out]), by (first | exact Below.refl _ _ | exact (Below.refl _ _).alloc (Nat.le_refl _) _)⟩
    · have hov' : ¬ _ := fun h => hov (hq.1 h)
      have hc : Hid (cl (-hi - 1) hi m = m) := Lib.hid (cl_in (by omega) (by omega))
      clear hq
      go_enter Try.func60, Try.ntmps60
      go_wp2_with fail
      refine (HH.out _).mono ?_
      rintro e w' ⟨rfl, rfl⟩
      go_wp2_with fail
      refine (HA.out _).mono ?_
      rintro e w' ⟨rfl, rfl⟩
      go_wp2_with fail
      refine (HB.out _).mono ?_
      rintro e w' ⟨rfl, rfl⟩
      go_wp2_with fail
      go_ret
      exact ⟨ret_int (by rw [hc.out]), by (first | exact Below.refl _ _ | exact (Below.refl _ _).alloc (Nat.le_refl _) _)⟩
  | false =>
    have hq := hq0 (hi + 1)
    clear hq0
    rw [hs, if_neg (by simp)] at hab
    rw [hab] at hq
    have hpos := Int.mul_pos hpa hpb
    rw [hab] at hpos
    have HAB := Lib.hid hab; clear hab
    by_cases hov : hi + 1 < -m
    · have hov' := hq.2 hov
      have hc : Hid (cl (-hi - 1) hi m = -hi - 1) := Lib.hid (cl_lo (by omega))
      clear hq hov
      go_enter Try.func60, Try.ntmps60
      go_wp2_with fail
      refine (HH.out _).mono ?_
      rintro e w' ⟨rfl, rfl⟩
      go_wp2_with fail
      refine (HL.out _).mono ?_
      rintro e w' ⟨rfl, rfl⟩
      go_wp2_with fail
      refine (HA.out _).mono ?_
      rintro e w' ⟨rfl, rfl⟩
      go_wp2_with fail
      refine (HB.out _).mono ?_
      rintro e w' ⟨rfl, rfl⟩
      go_wp2_with fail
      go_ret
      exact ⟨ret_int (by rw [hc.out]), by (first | exact Below.refl _ _ | exact (Below.refl _ _).alloc (Nat.le_refl _) _)⟩
    · have hov' : ¬ _ := fun h => hov (hq.1 h)
      have hc : Hid (cl (-hi - 1) hi m = m) := Lib.hid (cl_in (by omega) (by omega))
      clear hq
      go_enter Try.func60, Try.ntmps60
      go_wp2_with fail
      refine (HH.out _).mono ?_
      rintro e w' ⟨rfl, rfl⟩
      go_wp2_with fail
      refine (HL.out _).mono ?_
      rintro e w' ⟨rfl, rfl⟩
      go_wp2_with fail
      refine (HA.out _).mono ?_
      rintro e w' ⟨rfl, rfl⟩
      go_wp2_with fail
      refine (HB.out _).mono ?_
      rintro e w' ⟨rfl, rfl⟩
      go_wp2_with fail
      go_ret
      exact ⟨ret_int (by rw [hc.out]), by (first | exact Below.refl _ _ | exact (Below.refl _ _).alloc (Nat.le_refl _) _)⟩
end Go.Proofs.Ytiphappckgmikaa
