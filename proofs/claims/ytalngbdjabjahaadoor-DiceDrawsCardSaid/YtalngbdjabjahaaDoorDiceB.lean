/-
  The document's product, bit by bit. Conditions: none.
-/
import Derived.Test.YtalngbdjabjahaaDoorDiceA
namespace Go.Proofs.YtalngbdjabjahaaDoor
open Go.RowKit
theorem pair64 {h1 l1 h2 l2 : Nat} (e : h1 * 18446744073709551616 + l1 = h2 * 18446744073709551616 + l2) (a : W64 l1) (b : W64 l2) : h1 = h2 ∧ l1 = l2 := by
  unfold W64 at *; omega
theorem bit_and (x : Nat) (hx : x < 18446744073709551616) : bits .and .u64 (x : Int) 1 = ((x % 2 : Nat) : Int) := by
  have h := u64_and_nat x 1 hx (by omega)
  rw [Nat.and_one_is_mod] at h
  exact h
theorem step_or (hi lo : Nat) (h : hi < 9223372036854775808) (hlo : lo < 18446744073709551616) : bits .or .u64 (IntKind.u64.wrap ((hi : Int) * 2)) ((lo : Int) / 9223372036854775808) = ((hi * 2 + lo / 9223372036854775808 : Nat) : Int) := by
  have e1 : IntKind.u64.wrap ((hi : Int) * 2) = ((hi * 2 : Nat) : Int) := by rw [IntKind.wrap_u64]; omega
  have e2 : (lo : Int) / 9223372036854775808 = ((lo / 9223372036854775808 : Nat) : Int) := by omega
  rw [e1, e2, u64_or_nat _ _ (by omega) (by omega), nat_join 1 _ _ (by omega) (by omega)]
theorem step_up (b m : Nat) : b / 2 ^ (m + 1) = b / 2 ^ m / 2 := by rw [Nat.pow_succ, Nat.div_div_eq_div_mul]
theorem i64_eq {a b : Int} (h : a = b) : Value.int .i64 a = Value.int .i64 b := by rw [h]
/-- What is known of the sums behind a step. -/
def Stepped (a q hi lo : Nat) : Prop := hi * 18446744073709551616 + lo = a * q
theorem top_bd {a b hi lo m : Nat} (ha : a < 18446744073709551616) (hb : b < 18446744073709551616) (hN : Stepped a (b / 2 ^ (m + 1)) hi lo) : hi < 9223372036854775808 := by
  unfold Stepped at hN
  have h1 : b / 2 ^ (m + 1) ≤ 9223372036854775807 := by
    rw [Nat.pow_succ, Nat.mul_comm, ← Nat.div_div_eq_div_mul]
    exact Nat.le_trans (Nat.div_le_self _ _) (by omega)
  have h2 : a * (b / 2 ^ (m + 1)) ≤ 18446744073709551615 * 9223372036854775807 := Nat.mul_le_mul (by omega) h1
  omega
theorem two_sum {hi lo P : Nat} (hN : hi * 18446744073709551616 + lo = P) : (hi * 2 + lo / 9223372036854775808) * 18446744073709551616 + lo * 2 % 18446744073709551616 = 2 * P := by
  rw [Nat.add_mul]
  subst hN
  have h1 : lo * 2 % 18446744073709551616 = lo * 2 - 18446744073709551616 * (lo / 9223372036854775808) := by
    rw [Nat.mod_def, show (18446744073709551616 : Nat) = 9223372036854775808 * 2 from rfl, Nat.mul_div_mul_right _ _ (by decide)]
  have h2 := Nat.div_mul_le_self lo 9223372036854775808
  rw [h1]
  generalize lo / 9223372036854775808 = q at *
  omega
theorem top_two {a B h l : Nat} (ha : a < 18446744073709551616) (hB : B < 18446744073709551616) (e : Stepped a B h l) : h < 18446744073709551616 := by
  unfold Stepped at e
  have h1 : a * B < 18446744073709551616 * 18446744073709551616 := Nat.mul_lt_mul'' ha hB
  have h2 : h * 18446744073709551616 < 18446744073709551616 * 18446744073709551616 := by omega
  exact Nat.lt_of_mul_lt_mul_right h2
theorem sum_mod {l a : Nat} (ha : a < 18446744073709551616) (hl : l < 18446744073709551616) : (l + a < 18446744073709551616 ∧ (l + a) % 18446744073709551616 = l + a) ∨ (18446744073709551616 ≤ l + a ∧ (l + a) % 18446744073709551616 + 18446744073709551616 = l + a) := by
  by_cases h : l + a < 18446744073709551616
  · exact .inl ⟨h, Nat.mod_eq_of_lt h⟩
  · refine .inr ⟨by omega, ?_⟩
    rw [Nat.mod_eq_sub_mod (by omega), Nat.mod_eq_of_lt (by omega)]
    omega
theorem or_bare {hi lo : Nat} (h : hi < 9223372036854775808) (hlo : lo < 18446744073709551616) : bits .or .u64 ((hi : Int) * 2) ((lo : Int) / 9223372036854775808) = ((hi * 2 + lo / 9223372036854775808 : Nat) : Int) := by
  have e1 : IntKind.u64.wrap ((hi : Int) * 2) = (hi : Int) * 2 := by rw [IntKind.wrap_u64]; omega
  rw [← step_or hi lo h hlo, e1]
theorem bit_of (b m : Nat) (hb : b < 18446744073709551616) : bits .and .u64 ((b : Int) / 2 ^ m) 1 = ((b / 2 ^ m % 2 : Nat) : Int) := by
  rw [← bit_and _ (Nat.lt_of_le_of_lt (Nat.div_le_self _ _) hb)]; simp
theorem wrap_up (l : Nat) : IntKind.u64.wrap ((l : Int) * 2) = ((l * 2 % 18446744073709551616 : Nat) : Int) := by rw [IntKind.wrap_u64]; omega
theorem wrap_sum (l a : Nat) : IntKind.u64.wrap ((l : Int) + (a : Int)) = (((l + a) % 18446744073709551616 : Nat) : Int) := by rw [IntKind.wrap_u64]; omega
theorem carry_yes {h l a P : Nat} (e : h * 18446744073709551616 + l = 2 * P) (ha : a < 18446744073709551616) (hl : l < 18446744073709551616) (hc : (l + a) % 18446744073709551616 < l) : (h + 1) * 18446744073709551616 + (l + a) % 18446744073709551616 = 2 * P + a := by
  rcases sum_mod ha hl with ⟨h1, h2⟩ | ⟨h1, h2⟩
  · rw [h2] at hc; clear e h2; omega
  · rw [Nat.add_mul, Nat.one_mul, ← e]
    clear e
    generalize (l + a) % 18446744073709551616 = r at *
    generalize h * 18446744073709551616 = X at *
    omega
theorem carry_no {h l a P : Nat} (e : h * 18446744073709551616 + l = 2 * P) (ha : a < 18446744073709551616) (hl : l < 18446744073709551616) (hc : ¬ (l + a) % 18446744073709551616 < l) : h * 18446744073709551616 + (l + a) % 18446744073709551616 = 2 * P + a := by
  rcases sum_mod ha hl with ⟨h1, h2⟩ | ⟨h1, h2⟩
  · rw [h2, ← e]
    clear e h2
    generalize h * 18446744073709551616 = X at *
    omega
  · exfalso
    clear e
    generalize (l + a) % 18446744073709551616 = r at *
    omega
theorem step_of (a B h l : Nat) (e : h * 18446744073709551616 + l = 2 * (a * (B / 2)) + a * (B % 2)) : Stepped a B h l := by
  have e3 : B = 2 * (B / 2) + B % 2 := by omega
  unfold Stepped
  rw [e]
  conv => rhs; rw [e3, Nat.mul_add, Nat.mul_left_comm]
set_option maxHeartbeats 1000000 in
theorem refProduct_any (a b : Nat) (ha : W64 a) (hb : W64 b) (w : World) :
    Calls Tryd.prog 55 #[.int .u64 a, .int .u64 b] w fun e w' => e = .returned (.tuple #[.int .u64 (phi a b : Nat), .int .u64 (plo a b : Nat)]) ∧ w = w' := by
  unfold W64 at ha hb
  go_enter Tryd.func55, Tryd.ntmps55
  go_wp2_with fail
  go_loop [6, 7, 8] (fun vh vl vi => ∃ k hi lo : Nat, k ≤ 64 ∧ lo < 18446744073709551616 ∧ Stepped a (b / 2 ^ k) hi lo ∧ vi = .int .i64 ((k : Int) - 1) ∧ vh = .int .u64 hi ∧ vl = .int .u64 lo) (fun _ _ vi => (intOf vi + 1).toNat)
  case atStart => exact ⟨64, 0, 0, by omega, by omega, by unfold Stepped; rw [show b / 2 ^ 64 = 0 from Nat.div_eq_of_lt hb]; rfl, rfl, rfl, rfl⟩
  case round =>
    obtain ⟨k, hi, lo, hk, hlo, hN, rfl, rfl, rfl⟩ := hrel
    cases k with
    | zero =>
      go_wp2_with fail
      have hN' : hi * 18446744073709551616 + lo = a * b := by unfold Stepped at hN; rw [hN]; simp
      have e1 : hi = phi a b := by unfold phi; omega
      have e2 : lo = plo a b := by unfold plo; omega
      subst e1 e2
      go_ret2
      exact ⟨rfl, rfl⟩
    | succ m =>
      have htop := top_bd ha hb hN
      have h1 := or_bare htop hlo
      have h2 := wrap_up lo
      have h3 := bit_of b m hb
      rw [step_up] at hN
      have H := Lib.hid (step_of a (b / 2 ^ m))
      have H2 := Lib.hid (two_sum hN)
      have hb1 : hi * 2 + lo / 9223372036854775808 < 18446744073709551616 := by clear h1 h2 h3 H H2 hN; omega
      have hb2 : lo * 2 % 18446744073709551616 < 18446744073709551616 := Nat.mod_lt _ (by decide)
      have hbit : b / 2 ^ m % 2 = 0 ∨ b / 2 ^ m % 2 = 1 := Nat.mod_two_eq_zero_or_one _
      clear hN
      generalize b / 2 ^ m % 2 = t at *
      generalize a * (b / 2 ^ m / 2) = P at *
      generalize hi * 2 + lo / 9223372036854775808 = h' at *
      generalize lo * 2 % 18446744073709551616 = l' at *
      rcases hbit with rfl | rfl
      · go_wp2_with fail
        go_round
        case rel => exact ⟨m, h', l', by omega, hb2, H.out _ _ (by rw [H2.out]; rfl), rfl, rfl, rfl⟩
        case measure => simp [intOf]
      · have h4 := wrap_sum l' a
        have hb3 : (l' + a) % 18446744073709551616 < 18446744073709551616 := Nat.mod_lt _ (by decide)
        by_cases hc : (l' + a) % 18446744073709551616 < l'
        · have H3 := Lib.hid (carry_yes H2.out ha hb2 hc)
          generalize (l' + a) % 18446744073709551616 = l'' at *
          have HS := Lib.hid (H.out (h' + 1) l'' (by rw [H3.out]; simp))
          have hb4 := top_two ha (Nat.lt_of_le_of_lt (Nat.div_le_self _ _) hb) HS.out
          go_wp2_with fail
          go_round
          case rel => exact ⟨m, h' + 1, l'', by omega, hb3, HS.out, rfl, by go_num, rfl⟩
          case measure => simp [intOf]
        · have H3 := Lib.hid (carry_no H2.out ha hb2 hc)
          generalize (l' + a) % 18446744073709551616 = l'' at *
          go_wp2_with fail
          go_round
          case rel => exact ⟨m, h', l'', by omega, hb3, H.out _ _ (by rw [H3.out]; simp), rfl, rfl, rfl⟩
          case measure => simp [intOf]
end Go.Proofs.YtalngbdjabjahaaDoor
