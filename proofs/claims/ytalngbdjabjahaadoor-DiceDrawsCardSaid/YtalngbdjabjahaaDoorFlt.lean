/-
  Floats: whole numbers below 2 ^ 53, over 2 ^ 53 and back: exact. Conditions: none.
-/
import Derived.Laws.FloatArith
import Derived.Test.YtalngbdjabjahaaDoorProg
import Derived.WalkKit
namespace Go.Proofs.YtalngbdjabjahaaDoor
open Go.RowKit
namespace Flt
def Sig (m : Nat) : Prop := 4503599627370496 ≤ m ∧ m < 9007199254740992
/-- The word of m * 2 ^ (t - 1074). -/
def fw (m t : Nat) : Nat := t * 4503599627370496 + m
theorem log_of {m : Nat} (h : Sig m) (s : Nat) : (m * 2 ^ s).log2 = 52 + s := by
  have h0 : 0 < 2 ^ s := Nat.two_pow_pos s
  have hm : m * 2 ^ s ≠ 0 := Nat.mul_ne_zero (by have := h.1; omega) (by omega)
  rw [Nat.log2_eq_iff hm]
  constructor
  · rw [Nat.pow_add]; exact Nat.mul_le_mul_right _ h.1
  · rw [show 52 + s + 1 = 53 + s by omega, Nat.pow_add]; exact Nat.mul_lt_mul_of_pos_right h.2 h0
theorem read_fw {m t : Nat} (h : Sig m) (ht : t ≤ 2044) : Ieee.double.read (fw m t) = .number false m ((t : Int) - 1074) := by
  obtain ⟨h1, h2⟩ := h
  have e1 : fw m t / 9223372036854775808 = 0 := by unfold fw; omega
  have e2 : fw m t % 9223372036854775808 = fw m t := by unfold fw; omega
  have e3 : fw m t % 4503599627370496 = m - 4503599627370496 := by unfold fw; omega
  have e4 : fw m t / 4503599627370496 = t + 1 := by unfold fw; omega
  have b1 : Ieee.double.binade = 4503599627370496 := by decide
  have b2 : Ieee.double.signWeight = 9223372036854775808 := by decide
  have b3 : Ieee.double.infRung = 9218868437227405312 := by decide
  have b4 : Ieee.double.leastPlace = -1074 := by decide
  unfold Ieee.Format.read
  simp only [b1, b2, b3, b4, e1, e2, e3, e4]
  rw [if_neg (by unfold fw; omega), if_pos (by unfold fw; omega)]
  simp
  omega
theorem cut_exact (neg : Bool) (m s : Nat) (h : Sig m) : Ieee.Toward.even.cut neg (m * 2 ^ s) s = m := by
  unfold Ieee.Toward.cut
  have hl := log_of h s
  rw [hl, show min s (52 + s + 2) = s by omega, Nat.one_shiftLeft]
  have h0 : 0 < 2 ^ s := Nat.two_pow_pos s
  simp [Nat.mul_div_cancel _ h0, Nat.mul_mod_left]
theorem word_fw {m t : Nat} (h : Sig m) (ht : t ≤ 2044) : Ieee.double.word false (min (t * Ieee.double.binade + m) Ieee.double.infRung) = fw m t := by
  have b1 : Ieee.double.binade = 4503599627370496 := by decide
  have b3 : Ieee.double.infRung = 9218868437227405312 := by decide
  rw [b1, b3]
  unfold Ieee.Format.word fw
  have := h.2
  rw [if_neg (by decide)]
  omega
/-- A number with digits to spare, written. -/
theorem near_down {m t s : Nat} (h : Sig m) (ht : t ≤ 2044) {place : Int} (hp : place = (t : Int) - 1074 - s) : Ieee.double.nearest false (m * 2 ^ s) place = fw m t := by
  have h0 : 0 < 2 ^ s := Nat.two_pow_pos s
  have hm : m * 2 ^ s ≠ 0 := Nat.mul_ne_zero (by have := h.1; omega) (by omega)
  have b4 : Ieee.double.leastPlace = -1074 := by decide
  have b5 : (Ieee.double.fractionBits : Int) = 52 := by decide
  unfold Ieee.Format.nearest
  rw [if_neg hm, log_of h s, b4, b5]
  have hlast : max (place + ((52 + s : Nat) : Int) - 52) (-1074) = (t : Int) - 1074 := by omega
  simp only [hlast]
  rw [show (place - ((t : Int) - 1074)).toNat = 0 by omega, show ((t : Int) - 1074 - place).toNat = s by omega, Nat.shiftLeft_zero, cut_exact false m s h, show ((t : Int) - 1074 - -1074).toNat = t by omega]
  exact word_fw h ht
/-- A number with fewer digits, written. -/
theorem near_up {m t d k : Nat} (h : Sig m) (hk : k * 2 ^ d = m) (ht : t ≤ 2044) {place : Int} (hp : place = (t : Int) - 1074 + d) : Ieee.double.nearest false k place = fw m t := by
  have hm : k ≠ 0 := by intro e; subst e; have := h.1; omega
  have hlog : k.log2 + d = 52 := by
    obtain ⟨h1, h2⟩ := h
    rw [← hk] at h1 h2
    have hd : d < 53 := by
      have : 2 ^ d < 2 ^ 53 := Nat.lt_of_le_of_lt (Nat.le_mul_of_pos_left _ (by omega)) h2
      exact (Nat.pow_lt_pow_iff_right (by decide)).1 this
    have h0 : 0 < 2 ^ d := Nat.two_pow_pos d
    have e : k.log2 = 52 - d := by
      rw [Nat.log2_eq_iff hm]
      constructor
      · refine Nat.le_of_mul_le_mul_right (c := 2 ^ d) ?_ h0
        rw [← Nat.pow_add, show 52 - d + d = 52 by omega]; exact h1
      · refine Nat.lt_of_mul_lt_mul_right (a := 2 ^ d) ?_
        rw [← Nat.pow_add, show 52 - d + 1 + d = 53 by omega]; exact h2
    omega
  have b4 : Ieee.double.leastPlace = -1074 := by decide
  have b5 : (Ieee.double.fractionBits : Int) = 52 := by decide
  unfold Ieee.Format.nearest
  rw [if_neg hm, b4, b5]
  have hlast : max (place + (k.log2 : Int) - 52) (-1074) = (t : Int) - 1074 := by omega
  simp only [hlast]
  have hc := cut_exact false m 0 h
  rw [Nat.pow_zero, Nat.mul_one] at hc
  rw [show (place - ((t : Int) - 1074)).toNat = d by omega, show ((t : Int) - 1074 - place).toNat = 0 by omega, Nat.shiftLeft_eq, hk, hc, show ((t : Int) - 1074 - -1074).toNat = t by omega]
  exact word_fw h ht
/-- A whole number below 2 ^ 53 as a float. -/
theorem of_nat {k : Nat} (h0 : 0 < k) (h : k < 9007199254740992) : ∃ m t d : Nat, Sig m ∧ k * 2 ^ d = m ∧ d ≤ 52 ∧ t + d = 1074 ∧ floatOfInt .f64 (k : Int) = fw m t := by
  have hk : k ≠ 0 := by omega
  have hl : k.log2 ≤ 52 := by
    have h1 := (Nat.log2_eq_iff hk).1 rfl
    have h2 : 2 ^ k.log2 < 2 ^ 53 := Nat.lt_of_le_of_lt h1.1 h
    have := (Nat.pow_lt_pow_iff_right (by decide)).1 h2
    omega
  have hs : Sig (k * 2 ^ (52 - k.log2)) := by
    have h1 := (Nat.log2_eq_iff hk).1 rfl
    have hp : 0 < 2 ^ (52 - k.log2) := Nat.two_pow_pos _
    constructor
    · have := Nat.mul_le_mul_right (2 ^ (52 - k.log2)) h1.1
      rw [← Nat.pow_add, show k.log2 + (52 - k.log2) = 52 by omega] at this
      exact this
    · have := Nat.mul_lt_mul_of_pos_right h1.2 hp
      rw [← Nat.pow_add, show k.log2 + 1 + (52 - k.log2) = 53 by omega] at this
      exact this
  refine ⟨_, 1074 - (52 - k.log2), 52 - k.log2, hs, rfl, by omega, by omega, ?_⟩
  have e : decide ((k : Int) < 0) = false := by simp
  show Ieee.double.nearest (decide ((k : Int) < 0)) (k : Int).natAbs 0 = _
  rw [e, Int.natAbs_natCast]
  exact near_up hs rfl (by omega) (by omega)
theorem sig_two : Sig 4503599627370496 := ⟨Nat.le_refl _, by decide⟩
theorem read_two53 : Ieee.double.read 4845873199050653696 = .number false 4503599627370496 1 := by decide +kernel
/-- A float over 2 ^ 53. -/
theorem div_two53 {m t : Nat} (h : Sig m) (ht : t ≤ 2044) (h2 : 53 ≤ t) : Ieee.double.div (fw m t) 4845873199050653696 = some (fw m (t - 53)) := by
  have hl := log_of h 0
  rw [Nat.pow_zero, Nat.mul_one] at hl
  unfold Ieee.Format.div
  rw [read_fw h ht, read_two53]
  unfold Ieee.Datum.quotient
  simp only []
  rw [show Ieee.double.fractionBits = 52 from rfl, show (4503599627370496 : Nat).log2 = 52 by decide +kernel, hl]
  simp only [Bool.false_bne]
  rw [if_neg (by decide)]
  have e1 : m <<< (52 + 2 + 52 - (52 + 0)) / 4503599627370496 = m * 4 := by rw [Nat.shiftLeft_eq]; omega
  have e2 : m <<< (52 + 2 + 52 - (52 + 0)) % 4503599627370496 = 0 := by rw [Nat.shiftLeft_eq]; omega
  rw [e1, e2]
  simp only [Option.map_some, Ieee.Format.write, Option.some.injEq]
  rw [show 2 * (m * 4) + ((0 : Nat) != 0).toNat = m * 2 ^ 3 by simp; omega]
  exact near_down h (by omega) (by omega)
theorem mul_two53 {m t : Nat} (h : Sig m) (ht : t ≤ 1900) : Ieee.double.mul (fw m t) 4845873199050653696 = some (fw m (t + 53)) := by
  unfold Ieee.Format.mul
  rw [read_fw h (by omega), read_two53]
  unfold Ieee.Datum.product
  simp only [Option.map_some, Ieee.Format.write, Option.some.injEq]
  rw [show (4503599627370496 : Nat) = 2 ^ 52 from rfl]
  exact near_down h (by omega) (by omega)
theorem dec_read (b : Nat) : FloatKind.f64.decode b = Ieee.double.read b := rfl
theorem cut_zero {k m d : Nat} (hl : m.log2 = 52) (hk : k * 2 ^ d = m) (hd : d ≤ 52) : Ieee.Toward.zero.cut false m d = k := by
    have h0 : 0 < 2 ^ d := Nat.two_pow_pos d
    unfold Ieee.Toward.cut
    rw [hl, show min d (52 + 2) = d by omega, Nat.one_shiftLeft, ← hk]
    simp [Nat.mul_div_cancel _ h0]
theorem int_of_cut {k m d : Nat} {t : Int} (hc : Ieee.Toward.zero.cut false m d = k) (h1 : t.toNat = 0) (h2 : (-t).toNat = d) : (Ieee.Datum.number false m t).toInt .zero = some (k : Int) := by
  unfold Ieee.Datum.toInt Ieee.Datum.integral Ieee.signed
  simp only []
  rw [h1, h2]
  simp only [Nat.shiftLeft_zero, hc]
  rfl
theorem int_val (x k : Nat) (h : (FloatKind.f64.decode x).toInt .zero = some (k : Int)) (hk : k < 9007199254740992) : floatToIntVal .f64 x .u64 = some (k : Int) := by
  have h1 : IntKind.u64.min = 0 := by decide
  have h2 : IntKind.u64.max = 18446744073709551615 := by decide
  unfold floatToIntVal
  rw [h]
  simp only []
  rw [h1, h2]
  exact if_pos ⟨by omega, by omega⟩
theorem to_int {k m t d : Nat} (h : Sig m) (hk : k * 2 ^ d = m) (hd : d ≤ 52) (ht : t + d = 1074) : floatToIntVal .f64 (fw m t) .u64 = some (k : Int) := by
  have hl := log_of h 0
  rw [Nat.pow_zero, Nat.mul_one] at hl
  have hkm : k ≤ m := by rw [← hk]; exact Nat.le_mul_of_pos_right _ (Nat.two_pow_pos d)
  have h2 := h.2
  refine int_val _ _ ?_ (Nat.lt_of_le_of_lt hkm h2)
  rw [dec_read, read_fw h (by omega)]
  exact int_of_cut (cut_zero hl hk hd) (by omega) (by omega)
theorem order_same {m t : Nat} (h : Sig m) (ht : t ≤ 2044) : Ieee.double.order (fw m t) (fw m t) = some .eq := by
  unfold Ieee.Format.order
  rw [read_fw h ht]
  unfold Ieee.Datum.order
  simp
theorem order_zero {m t : Nat} (h : Sig m) (ht : t ≤ 2044) : Ieee.double.order (fw m t) 0 = some .gt := by
  unfold Ieee.Format.order
  rw [read_fw h ht, show Ieee.double.read 0 = .number false 0 (-1074) by decide +kernel]
  unfold Ieee.Datum.order Ieee.signed
  simp only []
  rw [show min ((t : Int) - 1074) (-1074) = -1074 by omega, show ((t : Int) - 1074 - -1074).toNat = t by omega]
  have h1 : 0 < m <<< t := by rw [Nat.shiftLeft_eq]; exact Nat.mul_pos (by have := h.1; omega) (Nat.two_pow_pos _)
  generalize m <<< t = x at *
  have e : compare (x : Int) 0 = .gt := Int.compare_eq_gt.2 (by omega)
  simpa using e
theorem order_one {m t : Nat} (h : Sig m) (ht : t < 1022) : Ieee.double.order (fw m t) 4607182418800017408 = some .lt := by
  unfold Ieee.Format.order
  rw [read_fw h (by omega), show Ieee.double.read 4607182418800017408 = .number false 4503599627370496 (-52) by decide +kernel]
  unfold Ieee.Datum.order Ieee.signed
  simp only []
  rw [show min ((t : Int) - 1074) (-52) = (t : Int) - 1074 by omega, show ((t : Int) - 1074 - ((t : Int) - 1074)).toNat = 0 by omega, show (-52 - ((t : Int) - 1074)).toNat = (1021 - t) + 1 by omega]
  have h1 : m < 4503599627370496 <<< (1021 - t + 1) := by
    rw [Nat.shiftLeft_eq, Nat.pow_succ]
    have hp : 0 < 2 ^ (1021 - t) := Nat.two_pow_pos _
    have := h.2
    generalize 2 ^ (1021 - t) = p at *
    omega
  rw [Nat.shiftLeft_zero]
  generalize 4503599627370496 <<< (1021 - t + 1) = x at *
  have e : compare (m : Int) (x : Int) = .lt := Int.compare_eq_lt.2 (by omega)
  simpa using e
/-- The share that a draw gives. -/
def shareW (x : Nat) : Nat := (floatBits .quo .f64 (floatOfInt .f64 ((x / 2048 : Nat) : Int)) 4845873199050653696).getD 0
def bitsW (x : Nat) : Nat := floatOfInt .f64 ((x / 2048 : Nat) : Int)
theorem zero_bits : floatOfInt .f64 ((0 : Nat) : Int) = 0 := by decide +kernel
theorem zero_div : floatBits .quo .f64 0 4845873199050653696 = some 0 := by decide +kernel
theorem zero_mul : floatBits .mul .f64 0 4845873199050653696 = some 0 := by decide +kernel
theorem zero_int : floatToIntVal .f64 0 .u64 = some ((0 : Nat) : Int) := by decide +kernel
theorem share_all (x : Nat) (hx : x < 18446744073709551616) :
    floatBits .quo .f64 (bitsW x) 4845873199050653696 = some (shareW x) ∧ floatBits .mul .f64 (shareW x) 4845873199050653696 = some (bitsW x) ∧ floatToIntVal .f64 (bitsW x) .u64 = some ((x / 2048 : Nat) : Int) ∧
    (Ieee.double.order (bitsW x) (bitsW x) == some .eq) = true ∧ (Ieee.double.order (shareW x) 0 == some .gt || Ieee.double.order (shareW x) 0 == some .eq) = true ∧ (Ieee.double.order (shareW x) 4607182418800017408 == some .lt) = true := by
  unfold shareW bitsW
  have hk : x / 2048 < 9007199254740992 := by omega
  generalize x / 2048 = k at *
  rcases Nat.eq_zero_or_pos k with rfl | h0
  · rw [zero_bits, zero_div]
    exact ⟨rfl, zero_mul, zero_int, by decide +kernel, by decide +kernel, by decide +kernel⟩
  · obtain ⟨m, t, d, hs, hm, hd, ht, e⟩ := of_nat h0 hk
    have e1 : floatBits .quo .f64 (fw m t) 4845873199050653696 = some (fw m (t - 53)) := div_two53 hs (by omega) (by omega)
    rw [e, e1]
    refine ⟨rfl, ?_, to_int hs hm hd ht, ?_, ?_, ?_⟩
    · have := mul_two53 hs (t := t - 53) (by omega)
      rw [show t - 53 + 53 = t by omega] at this
      exact this
    · rw [order_same hs (by omega)]; rfl
    · show (Ieee.double.order (fw m (t - 53)) 0 == some .gt || _) = true
      rw [order_zero hs (by omega)]; rfl
    · show (Ieee.double.order (fw m (t - 53)) _ == some .lt) = true
      rw [order_one hs (by omega)]; rfl
end Flt
end Go.Proofs.YtalngbdjabjahaaDoor
