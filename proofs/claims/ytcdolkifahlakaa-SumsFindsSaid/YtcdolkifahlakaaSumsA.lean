/-
  The walks of sums' small functions: the eight shifts, the turning of all bits, the tables. Conditions: none.
-/
import Derived.Test.YtcdolkifahlakaaMem
import Derived.Test.YtcdolkifahlakaaCrc
import Derived.Test.YtcdolkifahlakaaProg
import Derived.WalkLawsBesides
import Derived.Outline
import Derived.LoopN
import Derived.Deep.LoopGhost
import Derived.Deep.QuietTactic
import Derived.BigQuiet
import Derived.Lib.Hide
namespace Go.Proofs.Ytcdolkifahlakaa
open Go.RowKit Crc

/-- A word as a number: behind a name, so that no rule of simp's opens it. -/
def wn (x : W) : Int := (x.toNat : Int)
theorem wn_bd (x : W) : 0 ≤ wn x ∧ wn x ≤ 4294967295 := by unfold wn; have := x.isLt; omega
theorem and1_odd {x : W} (h : x.getLsbD 0 = true) : bits .and .u32 (wn x) 1 = 1 := by
  unfold wn
  have e := u32_and_nat x.toNat 1 (by have := x.isLt; omega) (by omega)
  rw [nat_mask1] at e
  have h2 : x.toNat % 2 = 1 := by
    have : x.toNat.testBit 0 = true := h
    rw [Nat.testBit_zero] at this
    simpa using this
  rw [h2] at e
  exact e
theorem and1_even {x : W} (h : x.getLsbD 0 = false) : bits .and .u32 (wn x) 1 = 0 := by
  unfold wn
  have e := u32_and_nat x.toNat 1 (by have := x.isLt; omega) (by omega)
  rw [nat_mask1] at e
  have h2 : x.toNat % 2 = 0 := by
    have : x.toNat.testBit 0 = false := h
    rw [Nat.testBit_zero] at this
    simpa using this
  rw [h2] at e
  exact e
theorem half_nat (x : W) : wn x / (2 : Int) = wn (x >>> 1) := by
  unfold wn
  rw [BitVec.toNat_ushiftRight, Nat.shiftRight_eq_div_pow]; simp
theorem xor_nat (x y : W) : bits .xor .u32 (wn x) (wn y) = wn (x ^^^ y) := by
  unfold wn
  rw [u32_xor_nat _ _ (by have := x.isLt; omega) (by have := y.isLt; omega), BitVec.toNat_xor]
theorem sh_odd {x : W} (h : x.getLsbD 0 = true) : bits .xor .u32 (wn x / (2 : Int)) 3988292384 = wn (sh x) := by
  unfold sh
  rw [half_nat, h, if_pos rfl, ← xor_nat]
  rfl
theorem sh_even {x : W} (h : x.getLsbD 0 = false) : wn x / (2 : Int) = wn (sh x) := by
  unfold sh
  rw [half_nat, h]
  simp

theorem mod2_odd {x : W} (h : x.getLsbD 0 = true) : wn x % (2 : Int) = 1 := by
  unfold wn
  have : x.toNat.testBit 0 = true := h
  rw [Nat.testBit_zero] at this
  simp at this
  omega
theorem mod2_even {x : W} (h : x.getLsbD 0 = false) : wn x % (2 : Int) = 0 := by
  unfold wn
  have : x.toNat.testBit 0 = false := h
  rw [Nat.testBit_zero] at this
  simp at this
  omega
theorem u32_eq {a b : Int} (h : a = b) : Value.int .u32 a = Value.int .u32 b := by rw [h]

set_option maxHeartbeats 400000 in
theorem refShifted (x : W) (w : World) :
    Calls Try.prog 29 #[.int .u32 (wn x)] w fun e w' => e = .returned (.int .u32 (wn (shn 8 x))) ∧ w = w' := by
  go_enter Try.func29, Try.ntmps29
  go_wp2
  go_loop [0, 3] (fun v k => ∃ n : Nat, n ≤ 8 ∧ k = .int .i64 n ∧ v = .int .u32 (wn (shn n x))) (fun _ k => 8 - (intOf k).toNat)
  case atStart => exact ⟨0, by omega, rfl, rfl⟩
  case round =>
    obtain ⟨n, hn, rfl, rfl⟩ := hrel
    by_cases hlt : n < 8
    · have hs := shn_succ' n x
      generalize shn n x = y at *
      cases hb : y.getLsbD 0 with
      | true =>
        have hbd := wn_bd y
        obtain ⟨hb0, hb1⟩ := hbd
        have h1 := mod2_odd hb
        have h2 := sh_odd hb
        clear hb
        have H := Lib.hid hs; clear hs
        go_wp2
        go_round
        case rel => exact ⟨n + 1, by omega, by go_num, u32_eq (by rw [H.out])⟩
        case measure => simp [intOf]; omega
      | false =>
        have hbd := wn_bd y
        obtain ⟨hb0, hb1⟩ := hbd
        have h1 := mod2_even hb
        have h2 := Lib.hid (sh_even hb)
        clear hb
        have H := Lib.hid hs; clear hs
        go_wp2
        go_round
        case rel => exact ⟨n + 1, by omega, by go_num, u32_eq (by rw [H.out, h2.out])⟩
        case measure => simp [intOf]; omega
    · obtain rfl : n = 8 := by omega
      go_wp2
      go_ret
      exact ⟨rfl, rfl⟩
end Go.Proofs.Ytcdolkifahlakaa
