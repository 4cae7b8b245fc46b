/-
  The walks of sums' times and Join. Conditions: none.
-/
import Derived.Test.YtcdolkifahlakaaSumsA
import Derived.Test.YtcdolkifahlakaaJoin
namespace Go.Proofs.Ytcdolkifahlakaa
open Go.RowKit Crc

/-- The power that stands at the loop's round j. -/
def mi (j : Nat) : Int := ((2147483648 / 2 ^ j : Nat) : Int)
theorem mi_zero : (2147483648 : Int) = mi 0 := rfl
theorem mi_end : mi 32 = 0 := by decide
theorem mi_half (j : Nat) : mi j / (2 : Int) = mi (j + 1) := by
  unfold mi
  rw [Nat.pow_succ, ← Nat.div_div_eq_div_mul]; rfl
theorem mi_eq (j : Nat) (h : j < 32) : 2147483648 / 2 ^ j = 2 ^ (31 - j) := by
  rw [show 2147483648 = 2 ^ 31 from rfl, Nat.pow_div (by omega) (by omega)]
theorem mi_bd (j : Nat) : 0 ≤ mi j ∧ mi j ≤ 4294967295 := by
  unfold mi
  have := Nat.div_le_self 2147483648 (2 ^ j)
  generalize 2147483648 / 2 ^ j = z at *
  omega
theorem mi_ne (j : Nat) (h : j < 32) : (mi j != 0) = true := by
  unfold mi
  rw [mi_eq j h, bne_iff_ne]
  have := Nat.two_pow_pos (31 - j)
  omega
theorem and_mi (a : W) (j : Nat) (h : j < 32) : (bits .and .u32 (wn a) (mi j) != 0) = a.getLsbD (31 - j) := by
  unfold wn mi
  have hp : 2 ^ (31 - j) < 4294967296 := by
    have : 2 ^ (31 - j) ≤ 2 ^ 31 := Nat.pow_le_pow_right (by omega) (by omega)
    omega
  rw [mi_eq j h, u32_and_nat _ _ (by have := a.isLt; omega) hp, nat_bit]
  show _ = a.toNat.testBit (31 - j)
  rw [Nat.testBit_eq_decide_div_mod_eq]
  have hpos := Nat.two_pow_pos (31 - j)
  by_cases hb : a.toNat / 2 ^ (31 - j) % 2 = 1
  · rw [decide_eq_true hb, hb, Nat.one_mul, bne_iff_ne]
    generalize 2 ^ (31 - j) = z at *
    omega
  · have h0 : a.toNat / 2 ^ (31 - j) % 2 = 0 := by omega
    rw [decide_eq_false hb, h0]; simp

set_option maxHeartbeats 1000000 in
theorem times_any (a b : W) (w : World) :
    Calls Try.prog 33 #[.int .u32 (wn a), .int .u32 (wn b)] w fun e w' => e = .returned (.int .u32 (wn (tm a b))) ∧ w = w' := by
  go_enter Try.func33, Try.ntmps33
  go_wp2
  go_loop [1, 5, 6] (fun vb vp vm => ∃ j : Nat, j ≤ 32 ∧ vm = .int .u32 (mi j) ∧ vp = .int .u32 (wn (tmTo a b j)) ∧ vb = .int .u32 (wn (shn j b))) (fun _ _ vm => (intOf vm).toNat)
  case atStart => exact ⟨0, by omega, by rw [← mi_zero], rfl, rfl⟩
  case round =>
    obtain ⟨j, hj, rfl, rfl, rfl⟩ := hrel
    by_cases hlt : j < 32
    · have hne := mi_ne j hlt
      have hhalf := mi_half j
      have hmb := mi_bd j
      obtain ⟨hm0, hm1⟩ := hmb
      have hand := and_mi a j hlt
      have hless : Hid ((mi (j + 1)).toNat < (mi j).toNat) := Lib.hid (by
        have h1 := mi_half j
        have h2 := mi_ne j hlt
        rw [bne_iff_ne] at h2
        have h3 := (mi_bd j).1
        omega)
      have hs := shn_succ' j b
      have hp : Hid (tmTo a b (j + 1) = tmTo a b j ^^^ (if a.getLsbD (31 - j) then shn j b else 0#32)) := Lib.hid rfl
      have hx := xor_nat (tmTo a b j) (shn j b)
      have hbd := wn_bd (shn j b)
      obtain ⟨hb0, hb1⟩ := hbd
      generalize shn j b = y at *
      generalize tmTo a b j = t at *
      cases hab : a.getLsbD (31 - j) with
      | true =>
        rw [hab] at hand
        rw [hab, if_pos rfl] at hp
        cases hb : y.getLsbD 0 with
        | true =>
          have h1 := and1_odd hb
          have h2 := sh_odd hb
          clear hb hab
          have H := Lib.hid hs; clear hs
          go_wp2
          go_round
          case rel => exact ⟨j + 1, by omega, rfl, u32_eq (by rw [hp.out]), u32_eq (by rw [H.out])⟩
          case measure => simpa [intOf] using hless.out
        | false =>
          have h1 := and1_even hb
          have h2 := Lib.hid (sh_even hb)
          clear hb hab
          have H := Lib.hid hs; clear hs
          go_wp2
          go_round
          case rel => exact ⟨j + 1, by omega, rfl, u32_eq (by rw [hp.out]), u32_eq (by rw [H.out, h2.out])⟩
          case measure => simpa [intOf] using hless.out
      | false =>
        rw [hab] at hand
        rw [hab, if_neg (by simp), BitVec.xor_zero] at hp
        cases hb : y.getLsbD 0 with
        | true =>
          have h1 := and1_odd hb
          have h2 := sh_odd hb
          clear hb hab
          have H := Lib.hid hs; clear hs
          go_wp2
          go_round
          case rel => exact ⟨j + 1, by omega, rfl, u32_eq (by rw [hp.out]), u32_eq (by rw [H.out])⟩
          case measure => simpa [intOf] using hless.out
        | false =>
          have h1 := and1_even hb
          have h2 := Lib.hid (sh_even hb)
          clear hb hab
          have H := Lib.hid hs; clear hs
          go_wp2
          go_round
          case rel => exact ⟨j + 1, by omega, rfl, u32_eq (by rw [hp.out]), u32_eq (by rw [H.out, h2.out])⟩
          case measure => simpa [intOf] using hless.out
    · obtain rfl : j = 32 := by omega
      have he := mi_end
      go_wp2
      go_ret
      exact ⟨rfl, rfl⟩

theorem i64_and1 (n : Nat) (h : n ≤ 9223372036854775807) : bits .and .i64 (n : Int) 1 = ((n % 2 : Nat) : Int) := by
  have e : bits .and .i64 (n : Int) ((1 : Nat) : Int) = ((n &&& 1 : Nat) : Int) := by
    have hx : n &&& 1 ≤ 1 := Nat.and_le_right
    have h1 : (BitVec.ofInt 64 (n : Int)).toNat = n := by rw [BitVec.ofInt_natCast, BitVec.toNat_ofNat]; exact Nat.mod_eq_of_lt (by omega)
    have h2 : (BitVec.ofInt 64 ((1 : Nat) : Int)).toNat = 1 := by decide
    show IntKind.i64.wrap ((BitVec.ofInt 64 (n : Int) &&& BitVec.ofInt 64 ((1 : Nat) : Int)).toNat : Int) = _
    rw [BitVec.toNat_and, h1, h2, IntKind.wrap_i64]
    omega
  rw [nat_mask1] at e
  exact e

set_option maxHeartbeats 1000000 in
theorem join_any (a b : W) (N : Nat) (hN : N ≤ 9223372036854775807) (w : World) :
    Calls Try.prog 25 #[.int .u32 (wn a), .int .u32 (wn b), .int .i64 (N : Int)] w fun e w' => e = .returned (.int .u32 (wn (join a b N))) ∧ w = w' := by
  go_enter Try.func25, Try.ntmps25
  go_wp2
  go_loop [0, 2, 7] (fun va vn vp => ∃ (M q : Nat) (a' p : W), M ≤ 9223372036854775807 ∧ vn = .int .i64 (M : Int) ∧ va = .int .u32 (wn a') ∧ vp = .int .u32 (wn p) ∧ Pow p q ∧ Hid (shn (q * M) a' = shn (8 * N) a)) (fun _ vn _ => (intOf vn).toNat)
  case atStart => exact ⟨N, 8, a, 8388608#32, hN, rfl, rfl, rfl, pow_eight, Lib.hid rfl⟩
  case round =>
    obtain ⟨M, q, a', p, hM, rfl, rfl, rfl, hp, hq⟩ := hrel
    by_cases h0 : 0 < M
    · have hand := i64_and1 M hM
      have hpp : tm p p = tm p p := rfl
      clear hpp
      by_cases hodd : M % 2 = 1
      · have ho : ((M % 2 : Nat) : Int) = 1 := by omega
        rw [ho] at hand
        have H : Hid (shn ((q + q) * (M / 2)) (tm p a') = shn (8 * N) a) := Lib.hid (by
          rw [hp a', ← shn_add, ← hq.out]
          congr 1
          have : M = 2 * (M / 2) + 1 := by omega
          generalize M / 2 = m at *
          subst this
          rw [Nat.mul_add, Nat.mul_one, Nat.add_comm, ← Nat.mul_assoc, Nat.mul_comm q 2, Nat.two_mul])
        have hsq := hp.square
        clear hodd ho hq hp
        go_wp2_with (go_at_call 33; refine (times_any _ _ _).mono ?_; rintro e w' ⟨rfl, rfl⟩)
        go_round
        case rel => exact ⟨M / 2, q + q, tm p a', tm p p, by omega, by go_num, rfl, rfl, hsq, H⟩
        case measure => simp [intOf]; omega
      · have ho : ((M % 2 : Nat) : Int) = 0 := by omega
        rw [ho] at hand
        have H : Hid (shn ((q + q) * (M / 2)) a' = shn (8 * N) a) := Lib.hid (by
          rw [← hq.out]
          congr 1
          have : M = 2 * (M / 2) := by omega
          generalize M / 2 = m at *
          subst this
          rw [← Nat.mul_assoc, Nat.mul_comm q 2, Nat.two_mul])
        have hsq := hp.square
        clear hodd ho hq hp
        go_wp2_with (go_at_call 33; refine (times_any _ _ _).mono ?_; rintro e w' ⟨rfl, rfl⟩)
        go_round
        case rel => exact ⟨M / 2, q + q, a', tm p p, by omega, by go_num, rfl, rfl, hsq, H⟩
        case measure => simp [intOf]; omega
    · have hj : Hid (join a b N = a' ^^^ b) := Lib.hid (by
        have hM0 : M = 0 := by omega
        unfold join; rw [← hq.out, hM0, Nat.mul_zero]; rfl)
      have hx := xor_nat a' b
      clear hq hp
      go_wp2
      go_ret
      exact ⟨by rw [hj.out]; rfl, rfl⟩
theorem join_neg (a b : W) (n : Int) (hn : n < 0) (w : World) :
    Calls Try.prog 25 #[.int .u32 (wn a), .int .u32 (wn b), .int .i64 n] w fun e w' => e = .returned (.int .u32 (wn 0#32)) ∧ w = w' := by
  go_enter Try.func25, Try.ntmps25
  go_wp2
  go_ret
  exact ⟨rfl, rfl⟩
end Go.Proofs.Ytcdolkifahlakaa
