/-
  Dice: the numbers that are drawn, and the walks of the small functions of the program and of the document. Conditions: none.
-/
import Derived.Test.YtalngbdjabjahaaDoorMem
import Derived.Test.YtalngbdjabjahaaDoorProg
import Derived.WalkLawsBesides
import Derived.Outline
import Derived.LoopN
import Derived.Below
import Derived.Lib.Mul64
import Derived.Laws.Bits64
import Derived.Laws.Bits64b
namespace Go.Proofs.YtalngbdjabjahaaDoor
open Go.RowKit

/-! ### The numbers -/
def adv (z : Nat) : Nat := (z + 11400714819323198485) % 18446744073709551616
def mx1 (z : Nat) : Nat := z ^^^ z / 1073741824
def mx2 (z : Nat) : Nat := z * 13787848793156543929 % 18446744073709551616
def mx3 (z : Nat) : Nat := z ^^^ z / 134217728
def mx4 (z : Nat) : Nat := z * 10723151780598845931 % 18446744073709551616
def mx5 (z : Nat) : Nat := z ^^^ z / 2147483648
/-- What is drawn of a place. -/
def mix (z : Nat) : Nat := mx5 (mx4 (mx3 (mx2 (mx1 z))))
def W64 (z : Nat) : Prop := z < 18446744073709551616
theorem xor64 {a b : Nat} (ha : W64 a) (hb : W64 b) : W64 (a ^^^ b) := Nat.xor_lt_two_pow (n := 64) ha hb
theorem div64 {a : Nat} (ha : W64 a) (b : Nat) : W64 (a / b) := Nat.lt_of_le_of_lt (Nat.div_le_self a b) ha
theorem adv64 (z : Nat) : W64 (adv z) := Nat.mod_lt _ (by decide)
theorem mx2_64 (z : Nat) : W64 (mx2 z) := Nat.mod_lt _ (by decide)
theorem mx4_64 (z : Nat) : W64 (mx4 z) := Nat.mod_lt _ (by decide)
theorem mx1_64 {z : Nat} (h : W64 z) : W64 (mx1 z) := xor64 h (div64 h _)
theorem mx3_64 {z : Nat} (h : W64 z) : W64 (mx3 z) := xor64 h (div64 h _)
theorem mx5_64 {z : Nat} (h : W64 z) : W64 (mx5 z) := xor64 h (div64 h _)
theorem mix64 (z : Nat) : W64 (mix z) := mx5_64 (mx4_64 _)
theorem adv_i (z : Nat) : IntKind.u64.wrap ((z : Int) + 11400714819323198485) = ((adv z : Nat) : Int) := by rw [IntKind.wrap_u64]; unfold adv; omega
theorem mx1_i {z : Nat} (h : W64 z) : bits .xor .u64 (z : Int) ((z : Int) / 1073741824) = ((mx1 z : Nat) : Int) := xorShift_u64 z 1073741824 h
theorem mx3_i {z : Nat} (h : W64 z) : bits .xor .u64 (z : Int) ((z : Int) / 134217728) = ((mx3 z : Nat) : Int) := xorShift_u64 z 134217728 h
theorem mx5_i {z : Nat} (h : W64 z) : bits .xor .u64 (z : Int) ((z : Int) / 2147483648) = ((mx5 z : Nat) : Int) := xorShift_u64 z 2147483648 h
theorem mx2_i (z : Nat) : IntKind.u64.wrap ((z : Int) * 13787848793156543929) = ((mx2 z : Nat) : Int) := by rw [IntKind.wrap_u64]; unfold mx2; omega
theorem mx4_i (z : Nat) : IntKind.u64.wrap ((z : Int) * 10723151780598845931) = ((mx4 z : Nat) : Int) := by rw [IntKind.wrap_u64]; unfold mx4; omega

/-! ### math/bits.Mul64 -/
namespace Mul
theorem maskN (a : Nat) (ha : a < 18446744073709551616) : bits .and .u64 (a : Int) 4294967295 = ((a % 4294967296 : Nat) : Int) := by
  have h := u64_and_nat a 4294967295 ha (by omega)
  have e : a &&& 4294967295 = a % 4294967296 := Nat.and_two_pow_sub_one_eq_mod a 32
  rw [e] at h
  exact h
theorem divN (a : Nat) : (a : Int) / 4294967296 = ((a / 4294967296 : Nat) : Int) := by omega
theorem mulN (a b : Nat) : (a : Int) * (b : Int) = ((a * b : Nat) : Int) := (Int.natCast_mul a b).symm
theorem addN (a b : Nat) : (a : Int) + (b : Int) = ((a + b : Nat) : Int) := (Int.natCast_add a b).symm
theorem wrapN (a : Nat) (ha : a < 18446744073709551616) : IntKind.u64.wrap (a : Int) = (a : Int) := by rw [IntKind.wrap_u64]; omega
theorem wrapM (a : Nat) : IntKind.u64.wrap (a : Int) = ((a % 18446744073709551616 : Nat) : Int) := by rw [IntKind.wrap_u64]; omega
end Mul
set_option maxHeartbeats 1000000 in
theorem mul64_any (x y : Nat) (hx : x < 18446744073709551616) (hy : y < 18446744073709551616) (w : World) :
    Calls Tryd.prog 53 #[.int .u64 x, .int .u64 y] w fun e w' => e = .returned (.tuple #[.int .u64 ((x * y / 18446744073709551616 : Nat) : Int), .int .u64 ((x * y % 18446744073709551616 : Nat) : Int)]) ∧ w = w' := by
  obtain ⟨bd, bt, bw, hhi⟩ := Lib.mul64_hi x y hx hy
  have ba := Lib.half_mul_le (a := x / 4294967296) (b := y / 4294967296) (by omega) (by omega)
  have bb := Lib.half_mul_le (a := x / 4294967296) (b := y % 4294967296) (by omega) (by omega)
  have bc := Lib.half_mul_le (a := x % 4294967296) (b := y / 4294967296) (by omega) (by omega)
  have ba' : x / 4294967296 * (y / 4294967296) < 18446744073709551616 := by omega
  have bb' : x / 4294967296 * (y % 4294967296) < 18446744073709551616 := by omega
  have bc' : x % 4294967296 * (y / 4294967296) < 18446744073709551616 := by omega
  have bh1 : x / 4294967296 * (y / 4294967296) + (x / 4294967296 * (y % 4294967296) + x % 4294967296 * (y % 4294967296) / 4294967296) / 4294967296 < 18446744073709551616 := by omega
  have bh : x / 4294967296 * (y / 4294967296) + (x / 4294967296 * (y % 4294967296) + x % 4294967296 * (y % 4294967296) / 4294967296) / 4294967296 + ((x / 4294967296 * (y % 4294967296) + x % 4294967296 * (y % 4294967296) / 4294967296) % 4294967296 + x % 4294967296 * (y / 4294967296)) / 4294967296 < 18446744073709551616 := by omega
  go_enter Tryd.func53, Tryd.ntmps53
  go_wp2
  simp only [Mul.maskN x hx, Mul.maskN y hy, Mul.divN, Mul.mulN, Mul.addN, Mul.wrapN _ bd, Mul.wrapN _ bb', Mul.wrapN _ bt, Mul.maskN _ bt, Mul.wrapN _ bc', Mul.wrapN _ bw, Mul.wrapN _ ba', Mul.wrapN _ bh1, Mul.wrapN _ bh, Mul.wrapM (x * y)]
  rw [hhi]
  go_ret2
  exact ⟨rfl, rfl⟩
/-- The two halves of a product. -/
def phi (x y : Nat) : Nat := x * y / 18446744073709551616
def plo (x y : Nat) : Nat := x * y % 18446744073709551616
theorem phi64 {x y : Nat} (hx : W64 x) (hy : W64 y) : W64 (phi x y) := by
  unfold phi W64 at *
  rw [Nat.div_lt_iff_lt_mul (by decide)]
  exact Nat.mul_lt_mul'' hx hy
theorem product_any (x y : Nat) (hx : W64 x) (hy : W64 y) (w : World) :
    Calls Tryd.prog 40 #[.int .u64 x, .int .u64 y] w fun e w' => e = .returned (.tuple #[.int .u64 (phi x y : Nat), .int .u64 (plo x y : Nat)]) ∧ w = w' := by
  go_enter Tryd.func40, Tryd.ntmps40
  go_wp2_with fail
  refine (mul64_any x y hx hy _).mono ?_
  rintro e w' ⟨rfl, rfl⟩
  go_wp2_with fail
  go_ret2
  exact ⟨rfl, rfl⟩

/-! ### Dice in memory -/
def dcells (z : Nat) : Array Value := #[.int .u64 z, .bool true]
/-- Dice stand at block g, and stand at the place z. -/
def DiceAt (w : World) (g z : Nat) : Prop := Whole w g 82 (dcells z)
theorem new_any (z : Nat) (w : World) :
    Calls Tryd.prog 12 #[.int .u64 z] w fun e w' => e = .returned (.pointer (some ⟨w.heap.size, 0, none⟩)) ∧ w' = w.alloc (.cells (dcells z) 82) := by
  go_enter Tryd.func12, Tryd.ntmps12
  go_wp2_with fail
  go_ret
  exact ⟨rfl, rfl⟩
theorem none_any (g z : Nat) (w : World) (hd : DiceAt w g z) :
    Calls Tryd.prog 50 #[.pointer (some ⟨g, 0, none⟩)] w fun e w' => e = .returned (.bool false) ∧ w = w' := by
  have h1 : w.cell? ⟨g, 1, none⟩ = some (.bool true) := hd.cellAt 1
  go_enter Tryd.func50, Tryd.ntmps50
  go_wp2_with fail
  go_ret
  exact ⟨rfl, rfl⟩
theorem next_any (g z : Nat) (w : World) (hd : DiceAt w g z) :
    Calls Tryd.prog 15 #[.pointer (some ⟨g, 0, none⟩)] w fun e w' => e = .returned (.int .u64 (mix (adv z) : Nat)) ∧ w' = w.setCell ⟨g, 0, none⟩ (.int .u64 (adv z : Nat)) := by
  have h0 : w.cell? ⟨g, 0, none⟩ = some (.int .u64 (z : Nat)) := hd.cellAt 0
  have hf := hd.free 0
  have e0 := adv_i z
  have e1 := mx1_i (adv64 z)
  have e2 := mx2_i (mx1 (adv z))
  have e3 := mx3_i (mx2_64 (mx1 (adv z)))
  have e4 := mx4_i (mx3 (mx2 (mx1 (adv z))))
  have e5 := mx5_i (mx4_64 (mx3 (mx2 (mx1 (adv z)))))
  go_enter Tryd.func15, Tryd.ntmps15
  go_wp2_with fail
  refine (none_any g z _ hd).mono ?_
  rintro e w' ⟨rfl, rfl⟩
  go_wp2_with fail
  go_ret
  exact ⟨rfl, rfl⟩
end Go.Proofs.YtalngbdjabjahaaDoor
