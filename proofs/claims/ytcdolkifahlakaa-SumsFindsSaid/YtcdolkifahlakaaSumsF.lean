/-
  The walks of the two Burst. Conditions: none.
-/
import Derived.Test.YtcdolkifahlakaaSumsC
import Derived.Test.YtcdolkifahlakaaBurst
import Derived.Lib.BitFns
import Derived.Lib.Strings
import Derived.Laws.ShiftsVarLaws
namespace Go.Proofs.Ytcdolkifahlakaa
open Go.RowKit Crc

set_option maxRecDepth 100000 in
theorem ntz_get (c : Byte) (h : c.toNat < Lib.ntz8tab.size) : (Lib.ntz8tab[c.toNat]'h).toNat = lowBit c := by
  have all : ∀ i : Fin 256, (Lib.ntz8tab[i.1]'(by rw [Lib.ntz8tab_size]; exact i.2)).toNat = lowBit (BitVec.ofFin i) := by decide +kernel
  exact all c.toFin
set_option maxRecDepth 100000 in
theorem len_get (c : Byte) (h : c.toNat < Lib.len8tab.size) (h0 : c ≠ 0#8) : (Lib.len8tab[c.toNat]'h).toNat = topBit c + 1 := by
  have all : ∀ i : Fin 256, BitVec.ofFin i ≠ 0#8 → (Lib.len8tab[i.1]'(by rw [Lib.len8tab_size]; exact i.2)).toNat = topBit (BitVec.ofFin i) + 1 := by decide +kernel
  exact all c.toFin h0
theorem lowBit_le (c : Byte) : lowBit c ≤ 8 := by
  by_cases h : c = 0#8
  · subst h; decide
  · exact Nat.le_of_lt (lowBit_is c h).1
theorem i64_eq {a b : Int} (h : a = b) : Ending.returned (.int .i64 a) = .returned (.int .i64 b) := by rw [h]
set_option maxRecDepth 100000 in
theorem tz8_any (c : Byte) (w : World) :
    Calls Try.prog 30 #[.int .u8 (c.toNat : Int)] w fun e w' => e = .returned (.int .i64 ((lowBit c : Nat) : Int)) ∧ w = w' := by
  have hb := c.isLt
  go_enter Try.func30, Try.ntmps30
  go_wp2
  go_ret
  refine ⟨i64_eq ?_, rfl⟩
  rw [ntz_get]
  have := lowBit_le c
  exact IntWalk.wrap64_in _ ⟨by omega, by omega⟩
set_option maxRecDepth 100000 in
theorem lz8_any (c : Byte) (h0 : c ≠ 0#8) (w : World) :
    Calls Try.prog 31 #[.int .u8 (c.toNat : Int)] w fun e w' => e = .returned (.int .i64 (7 - ((topBit c : Nat) : Int))) ∧ w = w' := by
  have hb := c.isLt
  go_enter Try.func31, Try.ntmps31
  go_wp2
  go_ret
  refine ⟨i64_eq ?_, rfl⟩
  rw [len_get c _ h0]
  have := (topBit_is c h0).1
  rw [IntWalk.wrap64_in ((topBit c + 1 : Nat) : Int) ⟨by omega, by omega⟩, IntWalk.wrap64_in _ ⟨by omega, by omega⟩]
  omega
/-- The bit number k of a text. -/
def bitV (x : List Byte) (k : Nat) : Int := if (x.getD (k / 8) 0).getLsbD (k % 8) then 1 else 0
theorem bitV_is (x : List Byte) (k : Nat) (h : k / 8 < x.length) : bits .and .u8 (((x[k / 8]).toNat : Int) / 2 ^ (k % 8)) 1 = bitV x k := by
  have hc := (x[k / 8]).isLt
  have e1 : ((x[k / 8]).toNat : Int) / 2 ^ (k % 8) = (((x[k / 8]).toNat / 2 ^ (k % 8) : Nat) : Int) := by simp
  have hle := Nat.div_le_self (x[k / 8]).toNat (2 ^ (k % 8))
  have e2 := u8_and_nat ((x[k / 8]).toNat / 2 ^ (k % 8)) 1 (by omega) (by omega)
  rw [e1]
  refine e2.trans ?_
  rw [nat_mask1]
  unfold bitV
  have e3 : (x.getD (k / 8) 0) = x[k / 8] := by simp [h]
  rw [e3]
  have e4 : (x[k / 8]).getLsbD (k % 8) = decide ((x[k / 8]).toNat / 2 ^ (k % 8) % 2 = 1) := by
    show (x[k / 8]).toNat.testBit (k % 8) = _
    rw [Nat.testBit_eq_decide_div_mod_eq]
  rw [e4]
  by_cases h1 : (x[k / 8]).toNat / 2 ^ (k % 8) % 2 = 1
  · rw [h1, if_pos (by simp)]; rfl
  · rw [if_neg (by simp [h1])]
    omega
theorem bitV_ne (x y : List Byte) (k : Nat) : (bitV x k != bitV y k) = dbit x y k := by
  unfold bitV dbit
  rw [BitVec.getLsbD_xor]
  cases (x.getD (k / 8) 0).getLsbD (k % 8) <;> cases (y.getD (k / 8) 0).getLsbD (k % 8) <;> rfl
theorem bit_any (x : List Byte) (k : Nat) (A : Option Addr) (B cap : Nat) (w : World) (hl : Lies w B A (bytesV x)) (hk : k < 8 * x.length) (hm : x.length ≤ 140737488351232) :
    Calls Try.prog 32 #[.slice A x.length cap, .int .i64 (k : Int)] w fun e w' => e = .returned (.int .u8 (bitV x k)) ∧ w = w' := by
  obtain ⟨g, off, rfl, _, hc⟩ := hl (k / 8) _ (bytesV_get x (k / 8) (by omega))
  have hb := (x[k / 8]'(by omega)).isLt
  go_enter Try.func32, Try.ntmps32
  have hv := bitV_is x k (by omega)
  go_wp2
  go_ret
  exact ⟨rfl, rfl⟩

theorem scan_bd (D : Nat → Bool) (m : Nat) : -1 ≤ (scan D m).1 ∧ (scan D m).1 ≤ m ∧ -1 ≤ (scan D m).2 ∧ (scan D m).2 ≤ m := by
  rcases scan_is D m with ⟨_, e⟩ | ⟨p, q, hpq, hq, _, _, _, _, e⟩
  · rw [e]; simp only []; omega
  · rw [e]; simp only []; omega
theorem xor_zero_iff (a b : Byte) : ((bits .xor .u8 (a.toNat : Int) (b.toNat : Int)) = ((a ^^^ b).toNat : Int)) := by
  rw [u8_xor_nat _ _ a.isLt b.isLt, BitVec.toNat_xor]

set_option maxHeartbeats 1000000 in
theorem burst_any (x y : List Byte) (A A' : Option Addr) (B B' cap cap' : Nat) (w : World) (hx : Lies w B A (bytesV x)) (hy : Lies w B' A' (bytesV y)) (hm : x.length ≤ 140737488351232) :
    Calls Try.prog 21 #[.slice A x.length cap, .slice A' y.length cap'] w fun e w' => e = .returned (.tuple #[.int .i64 (burst x y).1, .int .i64 (burst x y).2]) ∧ Below w.heap.size w w' := by
  by_cases hlen : x.length = y.length
  · go_enter Try.func21, Try.ntmps21
    go_wp2
    go_loopw [6, 7, 17] (fun vf vl vi wr => ∃ k d : Nat, k ≤ x.length ∧ vi = .int .i64 k ∧ vf = .int .i64 (scan (dbit x y) (8 * k)).1 ∧ vl = .int .i64 (scan (dbit x y) (8 * k)).2 ∧ wr = w.drewN d) (fun _ _ vi _ => x.length - (intOf vi).toNat)
    case atStart => exact ⟨0, 0, by omega, rfl, rfl, rfl, rfl⟩
    case round =>
      obtain ⟨k, d, hk, rfl, rfl, rfl, rfl⟩ := hrel
      obtain ⟨f1, f2, l1, l2⟩ := scan_bd (dbit x y) (8 * k)
      by_cases hlt : k < x.length
      · have hlt' : k < y.length := by omega
        obtain ⟨g, off, rfl, _, hc⟩ := hx k _ (bytesV_get x k hlt)
        obtain ⟨g', off', rfl, _, hc'⟩ := hy k _ (bytesV_get y k hlt')
        have HL := Lib.hid hlen; clear hlen
        have hxor := xor_zero_iff x[k] y[k]
        by_cases hxy : x[k] ^^^ y[k] = 0#8
        · have he : x[k] = y[k] := by
            have := congrArg (fun z => z ^^^ y[k]) hxy
            simpa [BitVec.xor_assoc] using this
          have hs := Lib.hid (scan_same x y k hlt hlt' he)
          rw [hxy] at hxor
          clear he hxy
          generalize scan (dbit x y) (8 * k) = r at *
          go_wp2_with fail
          go_quiet (fail)
          go_wp2
          go_roundw
          case rel => exact ⟨k + 1, _, by omega, by go_num, by rw [hs.out], by rw [hs.out], rfl⟩
          case measure => simp [intOf]; omega
        · have hs := Lib.hid (scan_byte x y k hlt hlt' hxy)
          have hn : (((x[k] ^^^ y[k]).toNat : Int) != 0) = true := by
            rw [bne_iff_ne]; intro e; exact hxy (BitVec.eq_of_toNat_eq (by have : (x[k] ^^^ y[k]).toNat = 0 := by omega
                                                                           rw [this]; rfl))
          have htz := Lib.hid (tz8_any (x[k] ^^^ y[k]))
          have hlz := Lib.hid (lz8_any (x[k] ^^^ y[k]) hxy)
          have hlow := (lowBit_is _ hxy).1
          have htop := (topBit_is _ hxy).1
          generalize x[k] ^^^ y[k] = c at *
          generalize lowBit c = lo at *
          generalize topBit c = tp at *
          generalize scan (dbit x y) (8 * k) = r at *
          by_cases hneg : r.1 < 0
          · rw [if_pos hneg] at hs
            go_wp2_with fail
            go_quiet (fail)
            go_wp2_with (first
              | (go_at_call 30; refine (htz.out _).mono ?_; rintro e w' ⟨rfl, rfl⟩)
              | (go_at_call 31; refine (hlz.out _).mono ?_; rintro e w' ⟨rfl, rfl⟩))
            go_roundw
            case rel => exact ⟨k + 1, _, by omega, by go_num, by rw [hs.out]; go_num, by rw [hs.out]; go_num, rfl⟩
            case measure => simp [intOf]; omega
          · rw [if_neg hneg] at hs
            go_wp2_with fail
            go_quiet (fail)
            go_wp2_with (first
              | (go_at_call 31; refine (hlz.out _).mono ?_; rintro e w' ⟨rfl, rfl⟩))
            go_roundw
            case rel => exact ⟨k + 1, _, by omega, by go_num, by rw [hs.out], by rw [hs.out]; go_num, rfl⟩
            case measure => simp [intOf]; omega
      · have hke : k = x.length := by omega
        have hlt'' : ¬ k < y.length := by omega
        by_cases hneg : (scan (dbit x y) (8 * k)).1 < 0
        · have hb : Hid (burst x y = (0, 0)) := Lib.hid (by unfold burst; rw [if_neg (by simp [hlen]), if_pos (by rw [← hke]; exact hneg)])
          have HL := Lib.hid hlen; clear hlen
          have HK := Lib.hid hke; clear hke
          generalize scan (dbit x y) (8 * k) = r at *
          go_wp2
          go_ret2
          exact ⟨by rw [hb.out]; rfl, belowN (Below.refl _ _) _⟩
        · have hb : Hid (burst x y = ((scan (dbit x y) (8 * k)).1, (scan (dbit x y) (8 * k)).2 - (scan (dbit x y) (8 * k)).1 + 1)) := Lib.hid (by unfold burst; rw [if_neg (by simp [hlen]), if_neg (by rw [← hke]; exact hneg), hke])
          have HL := Lib.hid hlen; clear hlen
          have HK := Lib.hid hke; clear hke
          generalize scan (dbit x y) (8 * k) = r at *
          go_wp2
          go_ret2
          exact ⟨by rw [hb.out]; rfl, belowN (Below.refl _ _) _⟩
  · have hb : Hid (burst x y = (-1, -1)) := Lib.hid (by unfold burst; rw [if_pos hlen])
    go_enter Try.func21, Try.ntmps21
    go_wp2
    go_ret2
    exact ⟨by rw [hb.out]; rfl, Below.refl _ _⟩

set_option maxHeartbeats 1000000 in
theorem refBurst_any (x y : List Byte) (A A' : Option Addr) (B B' cap cap' : Nat) (w : World) (hx : Lies w B A (bytesV x)) (hy : Lies w B' A' (bytesV y)) (hm : x.length ≤ 140737488351232) :
    Calls Try.prog 22 #[.slice A x.length cap, .slice A' y.length cap'] w fun e w' => e = .returned (.tuple #[.int .i64 (burst x y).1, .int .i64 (burst x y).2]) ∧ Below w.heap.size w w' := by
  by_cases hlen : x.length = y.length
  · go_enter Try.func22, Try.ntmps22
    go_wp2
    go_loopw [6, 7, 8] (fun vf vl vi wr => ∃ k d : Nat, k ≤ x.length ∧ vi = .int .i64 k ∧ vf = .int .i64 (scan (dbit x y) (8 * k)).1 ∧ vl = .int .i64 (scan (dbit x y) (8 * k)).2 ∧ wr = w.drewN d) (fun _ _ vi _ => x.length - (intOf vi).toNat)
    case atStart => exact ⟨0, 0, by omega, rfl, rfl, rfl, rfl⟩
    case round =>
      obtain ⟨k, d, hk, rfl, rfl, rfl, rfl⟩ := hrel
      obtain ⟨f1, f2, l1, l2⟩ := scan_bd (dbit x y) (8 * k)
      by_cases hlt : k < x.length
      · have hlt' : k < y.length := by omega
        obtain ⟨g, off, rfl, _, hc⟩ := hx k _ (bytesV_get x k hlt)
        obtain ⟨g', off', rfl, _, hc'⟩ := hy k _ (bytesV_get y k hlt')
        have hx2 : Lies w B (some ⟨g, off, none⟩) (bytesV x) := hx
        have hy2 : Lies w B' (some ⟨g', off', none⟩) (bytesV y) := hy
        have HL := Lib.hid hlen; clear hlen
        by_cases hxy : x[k] = y[k]
        · have hs := Lib.hid (scan_same x y k hlt hlt' hxy)
          have ht : (((x[k]).toNat : Int) == ((y[k]).toNat : Int)) = true := by rw [hxy]; simp
          clear hxy
          generalize scan (dbit x y) (8 * k) = r at *
          go_wp2_with fail
          go_quiet (fail)
          go_wp2
          go_roundw
          case rel => exact ⟨k + 1, _, by omega, by go_num, by rw [hs.out], by rw [hs.out], rfl⟩
          case measure => simp [intOf]; omega
        · have ht : (((x[k]).toNat : Int) == ((y[k]).toNat : Int)) = false := by
            rw [beq_eq_false_iff_ne]; intro e; exact hxy (BitVec.eq_of_toNat_eq (by omega))
          clear hxy
          go_wp2_with fail
          go_quiet (fail)
          go_wp2_with fail
          go_loop [6, 7, 9] (fun vf vl vj => ∃ j : Nat, j ≤ 8 ∧ vj = .int .i64 ((8 * k + j : Nat) : Int) ∧ vf = .int .i64 (scan (dbit x y) (8 * k + j)).1 ∧ vl = .int .i64 (scan (dbit x y) (8 * k + j)).2) (fun _ _ vj => 8 * k + 8 - (intOf vj).toNat)
          case atStart => exact ⟨0, by omega, by go_num, rfl, rfl⟩
          case round =>
            obtain ⟨j, hj, rfl, rfl, rfl⟩ := hrel
            by_cases hj8 : j < 8
            · have hs : Hid (scan (dbit x y) (8 * k + (j + 1)) = if dbit x y (8 * k + j) then (if (scan (dbit x y) (8 * k + j)).1 < 0 then ((8 * k + j : Nat) : Int) else (scan (dbit x y) (8 * k + j)).1, ((8 * k + j : Nat) : Int)) else scan (dbit x y) (8 * k + j)) := Lib.hid rfl
              have hne := bitV_ne x y (8 * k + j)
              have e8 : ((8 * k + j : Nat) : Int) = 8 * (k : Int) + (j : Int) := by omega
              have hbx : Hid (∀ W : World, Lies W B (some ⟨g, off, none⟩) (bytesV x) → Calls Try.prog 32 #[.slice (some ⟨g, off, none⟩) x.length cap, .int .i64 (8 * (k : Int) + (j : Int))] W fun e w' => e = .returned (.int .u8 (bitV x (8 * k + j))) ∧ W = w') :=
                Lib.hid (fun W h => by have := bit_any x (8 * k + j) _ _ cap W h (by omega) hm; rw [e8] at this; exact this)
              have hby : Hid (∀ W : World, Lies W B' (some ⟨g', off', none⟩) (bytesV y) → Calls Try.prog 32 #[.slice (some ⟨g', off', none⟩) y.length cap', .int .i64 (8 * (k : Int) + (j : Int))] W fun e w' => e = .returned (.int .u8 (bitV y (8 * k + j))) ∧ W = w') :=
                Lib.hid (fun W h => by have := bit_any y (8 * k + j) _ _ cap' W h (by omega) (by have := HL.out; omega); rw [e8] at this; exact this)
              clear e8
              generalize scan (dbit x y) (8 * k + j) = r at *
              go_wp2_with fail
              refine (hbx.out _ (hx2.drewN _)).mono ?_
              rintro e w' ⟨rfl, rfl⟩
              go_wp2_with fail
              refine (hby.out _ (hy2.drewN _)).mono ?_
              rintro e w' ⟨rfl, rfl⟩
              generalize bitV x (8 * k + j) = bx at *
              generalize bitV y (8 * k + j) = bv at *
              cases hd : dbit x y (8 * k + j) with
              | true =>
                rw [hd] at hs hne
                rw [if_pos rfl] at hs
                clear hd
                by_cases hneg : r.1 < 0
                · rw [if_pos hneg] at hs
                  go_wp2
                  go_round
                  case rel => exact ⟨j + 1, by omega, by go_num, by rw [hs.out]; go_num, by rw [hs.out]; go_num⟩
                  case measure => simp [intOf]; omega
                · rw [if_neg hneg] at hs
                  go_wp2
                  go_round
                  case rel => exact ⟨j + 1, by omega, by go_num, by rw [hs.out], by rw [hs.out]; go_num⟩
                  case measure => simp [intOf]; omega
              | false =>
                rw [hd] at hs hne
                rw [if_neg (by simp)] at hs
                clear hd
                go_wp2
                go_round
                case rel => exact ⟨j + 1, by omega, by go_num, by rw [hs.out], by rw [hs.out]⟩
                case measure => simp [intOf]; omega
            · have hj9 : 8 * k + j = 8 * (k + 1) := by omega
              have HJ := Lib.hid hj9; clear hj9
              go_wp2
              go_roundw
              case rel => exact ⟨k + 1, _, by omega, by go_num, by rw [HJ.out], by rw [HJ.out], rfl⟩
              case measure => simp [intOf]; omega
      · have hke : k = x.length := by omega
        have hlt'' : ¬ k < y.length := by omega
        by_cases hneg : (scan (dbit x y) (8 * k)).1 < 0
        · have hb : Hid (burst x y = (0, 0)) := Lib.hid (by unfold burst; rw [if_neg (by simp [hlen]), if_pos (by rw [← hke]; exact hneg)])
          have HL := Lib.hid hlen; clear hlen
          have HK := Lib.hid hke; clear hke
          generalize scan (dbit x y) (8 * k) = r at *
          go_wp2
          go_ret2
          exact ⟨by rw [hb.out]; rfl, belowN (Below.refl _ _) _⟩
        · have hb : Hid (burst x y = ((scan (dbit x y) (8 * k)).1, (scan (dbit x y) (8 * k)).2 - (scan (dbit x y) (8 * k)).1 + 1)) := Lib.hid (by unfold burst; rw [if_neg (by simp [hlen]), if_neg (by rw [← hke]; exact hneg), hke])
          have HL := Lib.hid hlen; clear hlen
          have HK := Lib.hid hke; clear hke
          generalize scan (dbit x y) (8 * k) = r at *
          go_wp2
          go_ret2
          exact ⟨by rw [hb.out]; rfl, belowN (Below.refl _ _) _⟩
  · have hb : Hid (burst x y = (-1, -1)) := Lib.hid (by unfold burst; rw [if_pos hlen])
    go_enter Try.func22, Try.ntmps22
    go_wp2
    go_ret2
    exact ⟨by rw [hb.out]; rfl, Below.refl _ _⟩
end Go.Proofs.Ytcdolkifahlakaa
