/-
  Numbers that stop at their ends: plain arithmetic. Conditions: none.
-/
import Derived.Test.YtiphappckgmikaaProg
import Derived.WalkKit
import Derived.WalkSpells
import Derived.Handy
import Derived.Lib.Hide
import Derived.WalkLawsBesides
import Derived.Outline
import Derived.LoopN
import Derived.Below
namespace Go.Proofs.Ytiphappckgmikaa
open Go.RowKit

/-- A number cut to its ends. -/
def cl (lo hi z : Int) : Int := if z < lo then lo else if hi < z then hi else z
theorem cl_in {lo hi z : Int} (h0 : lo ≤ z) (h1 : z ≤ hi) : cl lo hi z = z := by unfold cl; rw [if_neg (by omega), if_neg (by omega)]
theorem cl_lo {lo hi z : Int} (h : z < lo) : cl lo hi z = lo := if_pos h
theorem cl_hi {lo hi z : Int} (h0 : lo ≤ z) (h : hi < z) : cl lo hi z = hi := by unfold cl; rw [if_neg (by omega), if_pos h]
def ab (a : Int) : Int := if a < 0 then -a else a
def rm (a b : Int) : Int := if b = 0 then 0 else a.tmod b
def clamp (a lo hi : Int) : Int := max lo (min a hi)
theorem rm_neg (a : Int) : rm a (-1) = 0 := by unfold rm; rw [if_neg (by omega), Int.tmod_neg, Int.tmod_one]

theorem wrap_i8 (n : Int) : IntKind.i8.wrap n = (n + 128) % 256 - 128 := by simp only [IntKind.wrap, IntKind.bits, IntKind.signed]; simp; omega
theorem wrap_i16 (n : Int) : IntKind.i16.wrap n = (n + 32768) % 65536 - 32768 := by simp only [IntKind.wrap, IntKind.bits, IntKind.signed]; simp; omega
theorem wrap_i32 (n : Int) : IntKind.i32.wrap n = (n + 2147483648) % 4294967296 - 2147483648 := by simp only [IntKind.wrap, IntKind.bits, IntKind.signed]; simp; omega
theorem wrap_i64 (n : Int) : IntKind.i64.wrap n = (n + 9223372036854775808) % 18446744073709551616 - 9223372036854775808 := by simp only [IntKind.wrap, IntKind.bits, IntKind.signed]; simp; omega

theorem wr_i8 (n : Int) : IntKind.i8.wrap n = (n + 128) % 256 - 128 := wrap_i8 n
theorem wr_i16 (n : Int) : IntKind.i16.wrap n = (n + 32768) % 65536 - 32768 := wrap_i16 n
theorem wr_i32 (n : Int) : wrap32 n = (n + 2147483648) % 4294967296 - 2147483648 := by rw [← IntWalk.i32_left, IntKind.wrap_i32]
theorem wr_i64 (n : Int) : wrap64 n = (n + 9223372036854775808) % 18446744073709551616 - 9223372036854775808 := by rw [← IntWalk.i64_left, IntKind.wrap_i64]

theorem wr_all : (∀ n, IntKind.i8.wrap n = (n + 128) % 256 - 128) ∧ (∀ n, IntKind.i16.wrap n = (n + 32768) % 65536 - 32768) ∧ (∀ n, wrap32 n = (n + 2147483648) % 4294967296 - 2147483648) ∧ (∀ n, wrap64 n = (n + 9223372036854775808) % 18446744073709551616 - 9223372036854775808) :=
  ⟨wr_i8, wr_i16, wr_i32, wr_i64⟩

/-! The ends: 2 ^ (j + 1) - 1, one bit more each round. -/
def en (j : Nat) : Int := 2 ^ (j + 1) - 1
theorem en_zero : en 0 = 1 := rfl
theorem en_succ (j : Nat) : en (j + 1) = 2 * en j + 1 := by unfold en; rw [Int.pow_succ 2 (j + 1)]; omega
theorem en_pos (j : Nat) : 0 < en j := by
  induction j with
  | zero => decide
  | succ j ih => rw [en_succ]; omega
theorem en_two (j : Nat) : 1 < en (j + 1) := by have := en_pos j; rw [en_succ]; omega
theorem ret_int {k : IntKind} {x y : Int} (h : x = y) : Ending.returned (Value.int k x) = Ending.returned (Value.int k y) := by rw [h]
theorem ret_pair {k : IntKind} {x y : Int} {b c : Bool} (h : x = y) (hb : b = c) : Ending.returned (Value.tuple #[Value.int k x, Value.bool b]) = Ending.returned (Value.tuple #[Value.int k y, Value.bool c]) := by rw [h, hb]
theorem en_shl_i8 : ∀ j, j < 6 → IntKind.i8.wrap (en j * 2) = en (j + 1) - 1 := by decide +kernel
theorem en_shl_i16 : ∀ j, j < 14 → IntKind.i16.wrap (en j * 2) = en (j + 1) - 1 := by decide +kernel
theorem en_shl_i32 : ∀ j, j < 30 → IntKind.i32.wrap (en j * 2) = en (j + 1) - 1 := by decide +kernel
theorem en_shl_i64 : ∀ j, j < 62 → IntKind.i64.wrap (en j * 2) = en (j + 1) - 1 := by decide +kernel
theorem en_or_i8 : ∀ j, j < 6 → bits .or .i8 (en (j + 1) - 1) 1 = en (j + 1) := by decide +kernel
theorem en_or_i16 : ∀ j, j < 14 → bits .or .i16 (en (j + 1) - 1) 1 = en (j + 1) := by decide +kernel
theorem en_or_i32 : ∀ j, j < 30 → bits .or .i32 (en (j + 1) - 1) 1 = en (j + 1) := by decide +kernel
theorem en_or_i64 : ∀ j, j < 62 → bits .or .i64 (en (j + 1) - 1) 1 = en (j + 1) := by decide +kernel
theorem en_less (B j : Nat) (h : j < 62) (hB : B = 9223372036854775808) : (B - en (j + 1)).toNat < (B - en j).toNat := by
  have h1 : en j ≤ en 61 := by
    have : ∀ j, j < 62 → en j ≤ en 61 := by decide +kernel
    exact this j h
  have h2 : en 61 = 4611686018427387903 := by decide
  have h3 := en_pos j
  rw [en_succ]
  omega
theorem tdiv_bd (a b M : Int) (h0 : -M ≤ a) (h1 : a < M) (hb : b ≠ 0) (hb1 : b ≠ -1) : -M ≤ a.tdiv b ∧ a.tdiv b < M := by
  by_cases ha : 0 ≤ a
  · have h2 := Int.natAbs_tdiv_le_natAbs a b
    omega
  · by_cases h : b = 1
    · subst h; rw [Int.tdiv_one]; omega
    · have h2 := Int.natAbs_tdiv_le_natAbs a b
      by_cases h3 : a.tdiv b = -a
      · exfalso
        have h4 : 2 ≤ b.natAbs := by omega
        have h5 : (a.tdiv b).natAbs * 2 ≤ a.natAbs := by
          rw [Int.natAbs_tdiv]
          show a.natAbs / b.natAbs * 2 ≤ a.natAbs
          have h7 := Nat.div_mul_le_self a.natAbs b.natAbs
          have h6 : a.natAbs / b.natAbs * 2 ≤ a.natAbs / b.natAbs * b.natAbs := Nat.mul_le_mul_left _ h4
          omega
        omega
      · omega

/-! Products. -/
theorem tmod_abs (a b : Int) (hb : b ≠ 0) : (a.tmod b).natAbs < b.natAbs := by
  rw [Int.natAbs_tmod]; exact Nat.mod_lt _ (by omega)
theorem mul_over (M m a b P : Int) (hM : 0 < M) (hb : -M ≤ b ∧ b < M) (hb0 : b ≠ 0) (hm : m = a * b) (hP : P = (m + M) % (2 * M) - M) (hout : m < -M ∨ M ≤ m) : P.tdiv b ≠ a := by
  intro h
  have e := Int.tmod_add_mul_tdiv P b
  have hr := tmod_abs P b hb0
  rw [h, Int.mul_comm b a, ← hm] at e
  have h1 := Int.emod_add_mul_ediv (m + M) (2 * M)
  have h2 := Int.emod_nonneg (m + M) (show 2 * M ≠ 0 by omega)
  have h3 := Int.emod_lt_of_pos (m + M) (show 0 < 2 * M by omega)
  generalize P.tmod b = r at *
  generalize (m + M) % (2 * M) = q at *
  generalize (m + M) / (2 * M) = t at *
  clear h hm
  rcases Int.lt_trichotomy t 0 with ht | ht | ht
  · have : 2 * M * t ≤ 2 * M * (-1) := Int.mul_le_mul_of_nonneg_left (by omega) (by omega)
    omega
  · subst ht
    rw [Int.mul_zero] at h1
    omega
  · have : 2 * M * 1 ≤ 2 * M * t := Int.mul_le_mul_of_nonneg_left (by omega) (by omega)
    omega
theorem mul_sign (a b : Int) (ha : a ≠ 0) (hb : b ≠ 0) : (decide (0 < a * b) == (decide (0 < a) == decide (0 < b))) = true := by
  rcases Int.lt_or_gt_of_ne ha with h1 | h1 <;> rcases Int.lt_or_gt_of_ne hb with h2 | h2
  · have := Int.mul_pos_of_neg_of_neg h1 h2
    rw [decide_eq_true this, decide_eq_false (by omega : ¬ 0 < a), decide_eq_false (by omega : ¬ 0 < b)]; rfl
  · have := Int.mul_neg_of_neg_of_pos h1 h2
    rw [decide_eq_false (by omega : ¬ 0 < a * b), decide_eq_false (by omega : ¬ 0 < a), decide_eq_true (by omega : 0 < b)]; rfl
  · have := Int.mul_neg_of_pos_of_neg h1 h2
    rw [decide_eq_false (by omega : ¬ 0 < a * b), decide_eq_true (by omega : 0 < a), decide_eq_false (by omega : ¬ 0 < b)]; rfl
  · have := Int.mul_pos h1 h2
    rw [decide_eq_true this, decide_eq_true (by omega : 0 < a), decide_eq_true (by omega : 0 < b)]; rfl
theorem mul_up {a b : Int} (ha : a ≠ 0) (hb : b ≠ 0) (h : (decide (0 < a) == decide (0 < b)) = true) : 0 < a * b := by
  have := mul_sign a b ha hb
  rw [h] at this
  simpa using this
theorem mul_down {a b : Int} (ha : a ≠ 0) (hb : b ≠ 0) (h : (decide (0 < a) == decide (0 < b)) = false) : a * b < 0 := by
  have := mul_sign a b ha hb
  rw [h] at this
  have h0 := Int.mul_ne_zero ha hb
  have : ¬ 0 < a * b := by simpa using this
  omega
end Go.Proofs.Ytiphappckgmikaa
