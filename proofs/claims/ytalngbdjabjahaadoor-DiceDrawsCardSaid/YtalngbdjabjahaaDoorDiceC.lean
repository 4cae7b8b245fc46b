/-
  Dice: numbers below another one; orders that come of asking dice. Conditions: none.
-/
import Derived.Test.YtalngbdjabjahaaDoorDiceB
import Derived.Test.YtalngbdjabjahaaDoorKeep
import Derived.RegionTactic
import Derived.ChangeAlike
import Derived.Deep.QuietTactic
import Derived.BigQuiet
namespace Go.Proofs.YtalngbdjabjahaaDoor
open Go.RowKit

theorem u64_in (n : Nat) (h : n < 18446744073709551616) : IntKind.u64.wrap (n : Int) = (n : Int) := by rw [IntKind.wrap_u64]; omega
theorem i64_in (n : Nat) (h : n < 9223372036854775808) : wrap64 (n : Int) = (n : Int) := by rw [← IntWalk.i64_left, IntKind.wrap_i64]; omega
/-- The number below n that a draw gives. -/
def blw (x n : Nat) : Nat := phi x n
theorem phi_lt {x n : Nat} (hx : W64 x) (hn : 0 < n) : phi x n < n := by
  unfold phi W64 at *
  rw [Nat.div_lt_iff_lt_mul (by decide), Nat.mul_comm n]
  exact Nat.mul_lt_mul_of_pos_right hx hn
theorem below_any (g z n : Nat) (w : World) (hd : DiceAt w g z) (h1 : 1 ≤ n) (h2 : n ≤ 9223372036854775807) :
    Calls Tryd.prog 39 #[.pointer (some ⟨g, 0, none⟩), .int .i64 n] w fun e w' => e = .returned (.int .i64 (phi (mix (adv z)) n : Nat)) ∧ w' = w.setCell ⟨g, 0, none⟩ (.int .u64 (adv z : Nat)) := by
  have hb := phi_lt (mix64 (adv z)) h1
  have hw1 := u64_in n (by omega)
  have hw2 := i64_in (phi (mix (adv z)) n) (by omega)
  go_enter Tryd.func39, Tryd.ntmps39
  go_wp2_with fail
  refine (none_any g z _ hd).mono ?_
  rintro e w' ⟨rfl, rfl⟩
  go_wp2_with fail
  refine (next_any g z _ hd).mono ?_
  rintro e w' ⟨rfl, rfl⟩
  go_wp2_with fail
  refine (product_any _ _ (mix64 (adv z)) (by unfold W64; omega) _).mono ?_
  rintro e w' ⟨rfl, rfl⟩
  go_wp2_with fail
  go_ret
  exact ⟨rfl, rfl⟩
theorem below_none (g z : Nat) (n : Int) (w : World) (hd : DiceAt w g z) (h1 : n < 1) :
    Calls Tryd.prog 39 #[.pointer (some ⟨g, 0, none⟩), .int .i64 n] w fun e w' => e = .returned (.int .i64 0) ∧ w = w' := by
  go_enter Tryd.func39, Tryd.ntmps39
  go_wp2_with fail
  refine (none_any g z _ hd).mono ?_
  rintro e w' ⟨rfl, rfl⟩
  go_wp2_with fail
  go_ret
  exact ⟨rfl, rfl⟩
theorem new_rel (z : Nat) (w : World) :
    Calls Tryd.prog 12 #[.int .u64 z] w fun e w' => e = .returned (.pointer (some ⟨w.heap.size, 0, none⟩)) ∧ DiceAt w' w.heap.size z ∧ Keeps (fun _ => False) w w' :=
  (new_any z w).mono fun _ _ ⟨he, hw⟩ => by subst hw; exact ⟨he, Whole.made _ _ _, (Keeps.refl _ _).alloc _⟩
theorem next_rel (g z : Nat) (w : World) (hd : DiceAt w g z) :
    Calls Tryd.prog 15 #[.pointer (some ⟨g, 0, none⟩)] w fun e w' => e = .returned (.int .u64 (mix (adv z) : Nat)) ∧ DiceAt w' g (adv z) ∧ Keeps (fun b => b = g) w w' :=
  (next_any g z w hd).mono fun _ _ ⟨he, hw⟩ => by subst hw; exact ⟨he, hd.put 0 _, (Keeps.refl (fun b => b = g) w).setCell (fun _ => rfl) _⟩
theorem below_rel (g z n : Nat) (k : Int) (hk : k = (n : Int)) (w : World) (hd : DiceAt w g z) (h1 : 1 ≤ n) (h2 : n ≤ 9223372036854775807) :
    Calls Tryd.prog 39 #[.pointer (some ⟨g, 0, none⟩), .int .i64 k] w fun e w' => e = .returned (.int .i64 (phi (mix (adv z)) n : Nat)) ∧ DiceAt w' g (adv z) ∧ Keeps (fun b => b = g) w w' := by
  subst hk
  exact (below_any g z n w hd h1 h2).mono fun _ _ ⟨he, hw⟩ => by subst hw; exact ⟨he, hd.put 0 _, (Keeps.refl (fun b => b = g) w).setCell (fun _ => rfl) _⟩
/-- The literal that Order hands on. -/
theorem order_ask (c g z n : Nat) (w : World) (hc : w.cell? ⟨c, 0, none⟩ = some (.pointer (some ⟨g, 0, none⟩))) (hd : DiceAt w g z) (h1 : 1 ≤ n) (h2 : n ≤ 9223372036854775807) :
    Calls Tryd.prog 54 #[.int .i64 n, .pointer (some ⟨c, 0, none⟩)] w fun e w' => e = .returned (.tuple #[.int .i64 (phi (mix (adv z)) n : Nat), .bool true]) ∧ w' = w.setCell ⟨g, 0, none⟩ (.int .u64 (adv z : Nat)) := by
  go_enter Tryd.func54, Tryd.ntmps54
  go_wp2_with fail
  refine (below_any g z n _ hd h1 h2).mono ?_
  rintro e w' ⟨rfl, rfl⟩
  go_wp2_with fail
  go_ret2
  exact ⟨rfl, rfl⟩
end Go.Proofs.YtalngbdjabjahaaDoor
