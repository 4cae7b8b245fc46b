/-
  The walks of sums' small functions: the eight shifts, the turning of all bits, the tables. Conditions: none.
-/
import Derived.Test.YthmfbcfbcookiaaDoorMem
import Derived.Test.YthmfbcfbcookiaaDoorCrc
import Derived.Test.YthmfbcfbcookiaaDoorProg
import Derived.WalkLawsBesides
import Derived.Outline
import Derived.LoopN
import Derived.Deep.LoopGhost
import Derived.Deep.QuietTactic
import Derived.BigQuiet
import Derived.Lib.Hide
namespace Go.Proofs.YthmfbcfbcookiaaDoor
open Go.RowKit Crc

/-- A word as a number: behind a name, so that no rule of simp's opens it. -/
def wn (x : W) : Int := (x.toNat : Int)
theorem wn_bd (x : W) : 0 ≤ wn x ∧ wn x ≤ 4294967295 := by unfold wn; have := x.isLt; omega
theorem and1_odd {x : W} (h : x.getLsbD 0 = true) : bits .and .u32 (wn x) 1 = 1 := by
  unfold wn
  have e := u32_and_nat x.toNat 1 (by have := x.isLt; omega) (by omega)
  rw [nat_mask1] at e
  have h2 : x.toNat % 2 = 1 := by
    have : x.toNat.testBit 0 = true := h
    rw [Nat.testBit_zero] at this
    simpa using this
  rw [h2] at e
  exact e
theorem and1_even {x : W} (h : x.getLsbD 0 = false) : bits .and .u32 (wn x) 1 = 0 := by
  unfold wn
  have e := u32_and_nat x.toNat 1 (by have := x.isLt; omega) (by omega)
  rw [nat_mask1] at e
  have h2 : x.toNat % 2 = 0 := by
    have : x.toNat.testBit 0 = false := h
    rw [Nat.testBit_zero] at this
    simpa using this
  rw [h2] at e
  exact e
theorem half_nat (x : W) : wn x / (2 : Int) = wn (x >>> 1) := by
  unfold wn
  rw [BitVec.toNat_ushiftRight, Nat.shiftRight_eq_div_pow]; simp
theorem xor_nat (x y : W) : bits .xor .u32 (wn x) (wn y) = wn (x ^^^ y) := by
  unfold wn
  rw [u32_xor_nat _ _ (by have := x.isLt; omega) (by have := y.isLt; omega), BitVec.toNat_xor]
theorem sh_odd {x : W} (h : x.getLsbD 0 = true) : bits .xor .u32 (wn x / (2 : Int)) 3988292384 = wn (sh x) := by
  unfold sh
  rw [half_nat, h, if_pos rfl, ← xor_nat]
  rfl
theorem sh_even {x : W} (h : x.getLsbD 0 = false) : wn x / (2 : Int) = wn (sh x) := by
  unfold sh
  rw [half_nat, h]
  simp

theorem mod2_odd {x : W} (h : x.getLsbD 0 = true) : wn x % (2 : Int) = 1 := by
  unfold wn
  have : x.toNat.testBit 0 = true := h
  rw [Nat.testBit_zero] at this
  simp at this
  omega
theorem mod2_even {x : W} (h : x.getLsbD 0 = false) : wn x % (2 : Int) = 0 := by
  unfold wn
  have : x.toNat.testBit 0 = false := h
  rw [Nat.testBit_zero] at this
  simp at this
  omega
theorem u32_eq {a b : Int} (h : a = b) : Value.int .u32 a = Value.int .u32 b := by rw [h]

end Go.Proofs.YthmfbcfbcookiaaDoor
