/-
  The walks of sums' small functions: the eight shifts, the turning of all bits, the tables. Conditions: none.
-/
import Derived.Test.YtcmbdnjcfneinaaGreatDoorMemM
import Derived.Test.YtcmbdnjcfneinaaGreatDoorPMa
import Derived.Test.YtcmbdnjcfneinaaGreatDoorProg
import Derived.WalkLawsBesides
import Derived.Outline
import Derived.LoopN
import Derived.Deep.LoopGhost
import Derived.Deep.QuietTactic
import Derived.BigQuiet
import Derived.Lib.Hide
import Derived.Test.YtcmbdnjcfneinaaGreatDoorBytes
import Derived.Deep.WholeRow
import Derived.Lib.SlBytesConst
namespace Go.Proofs.YtcmbdnjcfneinaaGreatDoor
open Go.RowKit Crc

/-- A word as a number: behind a name, so that no rule of simp's opens it. -/
def wn (x : W) : Int := (x.toNat : Int)
theorem wn_bd (x : W) : 0 ≤ wn x ∧ wn x ≤ 4294967295 := by unfold wn; have := x.isLt; omega
theorem and1_odd {x : W} (h : x.getLsbD 0 = true) : bits .and .u32 (wn x) 1 = 1 := by
  unfold wn
  have e := u32_and_nat x.toNat 1 (by have := x.isLt; omega) (by omega)
  rw [nat_mask1] at e
  have h2 : x.toNat % 2 = 1 := by
    have : x.toNat.testBit 0 = true := h
    rw [Nat.testBit_zero] at this
    simpa using this
  rw [h2] at e
  exact e
theorem and1_even {x : W} (h : x.getLsbD 0 = false) : bits .and .u32 (wn x) 1 = 0 := by
  unfold wn
  have e := u32_and_nat x.toNat 1 (by have := x.isLt; omega) (by omega)
  rw [nat_mask1] at e
  have h2 : x.toNat % 2 = 0 := by
    have : x.toNat.testBit 0 = false := h
    rw [Nat.testBit_zero] at this
    simpa using this
  rw [h2] at e
  exact e
theorem half_nat (x : W) : wn x / (2 : Int) = wn (x >>> 1) := by
  unfold wn
  rw [BitVec.toNat_ushiftRight, Nat.shiftRight_eq_div_pow]; simp
theorem xor_nat (x y : W) : bits .xor .u32 (wn x) (wn y) = wn (x ^^^ y) := by
  unfold wn
  rw [u32_xor_nat _ _ (by have := x.isLt; omega) (by have := y.isLt; omega), BitVec.toNat_xor]
theorem sh_odd {x : W} (h : x.getLsbD 0 = true) : bits .xor .u32 (wn x / (2 : Int)) 3988292384 = wn (sh x) := by
  unfold sh
  rw [half_nat, h, if_pos rfl, ← xor_nat]
  rfl
theorem sh_even {x : W} (h : x.getLsbD 0 = false) : wn x / (2 : Int) = wn (sh x) := by
  unfold sh
  rw [half_nat, h]
  simp

theorem mod2_odd {x : W} (h : x.getLsbD 0 = true) : wn x % (2 : Int) = 1 := by
  unfold wn
  have : x.toNat.testBit 0 = true := h
  rw [Nat.testBit_zero] at this
  simp at this
  omega
theorem mod2_even {x : W} (h : x.getLsbD 0 = false) : wn x % (2 : Int) = 0 := by
  unfold wn
  have : x.toNat.testBit 0 = false := h
  rw [Nat.testBit_zero] at this
  simp at this
  omega
theorem u32_eq {a b : Int} (h : a = b) : Value.int .u32 a = Value.int .u32 b := by rw [h]

set_option maxHeartbeats 400000 in
theorem refShifted (x : W) (w : World) :
    Calls Tryz.prog 136 #[.int .u32 (wn x)] w fun e w' => e = .returned (.int .u32 (wn (shn 8 x))) ∧ w = w' := by
  go_enter Tryz.func136, Tryz.ntmps136
  go_wp2
  go_loop [0, 3] (fun v k => ∃ n : Nat, n ≤ 8 ∧ k = .int .i64 n ∧ v = .int .u32 (wn (shn n x))) (fun _ k => 8 - (intOf k).toNat)
  case atStart => exact ⟨0, by omega, rfl, rfl⟩
  case round =>
    obtain ⟨n, hn, rfl, rfl⟩ := hrel
    by_cases hlt : n < 8
    · have hs := shn_succ' n x
      generalize shn n x = y at *
      cases hb : y.getLsbD 0 with
      | true =>
        have hbd := wn_bd y
        obtain ⟨hb0, hb1⟩ := hbd
        have h1 := mod2_odd hb
        have h2 := sh_odd hb
        clear hb
        have H := Lib.hid hs; clear hs
        go_wp2
        go_round
        case rel => exact ⟨n + 1, by omega, by go_num, u32_eq (by rw [H.out])⟩
        case measure => simp [intOf]; omega
      | false =>
        have hbd := wn_bd y
        obtain ⟨hb0, hb1⟩ := hbd
        have h1 := mod2_even hb
        have h2 := Lib.hid (sh_even hb)
        clear hb
        have H := Lib.hid hs; clear hs
        go_wp2
        go_round
        case rel => exact ⟨n + 1, by omega, by go_num, u32_eq (by rw [H.out, h2.out])⟩
        case measure => simp [intOf]; omega
    · obtain rfl : n = 8 := by omega
      go_wp2
      go_ret
      exact ⟨rfl, rfl⟩
end Go.Proofs.YtcmbdnjcfneinaaGreatDoor
/-
  The walks of sums' tables. Conditions: none.
-/
namespace Go.Proofs.YtcmbdnjcfneinaaGreatDoor
open Go.RowKit Crc

theorem not_nat (x : W) : bits .xor .u32 (wn x) 4294967295 = wn (~~~x) := by
  rw [not_eq_xor, ← xor_nat]; rfl
theorem ret_u32 {a b : Int} (h : a = b) : Ending.returned (.int .u32 a) = .returned (.int .u32 b) := by rw [h]
theorem refTurned (x : W) (w : World) :
    Calls Tryz.prog 135 #[.int .u32 (wn x)] w fun e w' => e = .returned (.int .u32 (wn (~~~x))) ∧ w = w' := by
  go_enter Tryz.func135, Tryz.ntmps135
  go_wp2
  go_ret
  exact ⟨ret_u32 (not_nat x), rfl⟩

/-- The table's values. -/
def tabAt (k i : Nat) : Value := .int .u32 (if i < k then wn (shn 8 (BitVec.ofNat 32 i)) else 0)
def tabTo (k : Nat) : Array Value := ((List.range 256).map (tabAt k)).toArray

theorem tabTo_size (k : Nat) : (tabTo k).size = 256 := by simp [tabTo]
theorem tabTo_get (k i : Nat) (h : i < 256) : (tabTo k)[i]? = some (tabAt k i) := by simp [tabTo, h]
theorem tabTo_step (k : Nat) (_hk : k < 256) : (tabTo k).setIfInBounds k (.int .u32 (wn (shn 8 (BitVec.ofNat 32 k)))) = tabTo (k + 1) := by
  apply Array.ext_getElem?
  intro i
  rw [Array.getElem?_setIfInBounds]
  by_cases hi : i < 256
  · rw [tabTo_get (k + 1) i hi]
    by_cases e : k = i
    · subst e
      rw [if_pos rfl, if_pos (by rw [tabTo_size]; exact hi)]
      unfold tabAt
      rw [if_pos (by omega)]
    · rw [if_neg e, tabTo_get k i hi]
      unfold tabAt
      by_cases hlt : i < k
      · rw [if_pos hlt, if_pos (by omega)]
      · rw [if_neg hlt, if_neg (by omega)]
  · have h1 : (tabTo (k + 1))[i]? = none := Array.getElem?_eq_none (by rw [tabTo_size]; omega)
    have h2 : (tabTo k)[i]? = none := Array.getElem?_eq_none (by rw [tabTo_size]; omega)
    rw [h1, h2, if_neg (by omega)]
theorem tabTo_one (k : Nat) : (tabTo k).all (·.oneCell') = true := by
  rw [Array.all_eq_true_iff_forall_mem]
  intro v hv
  simp only [tabTo, List.mem_toArray, List.mem_map] at hv
  obtain ⟨i, _, rfl⟩ := hv
  rfl
theorem zero_tab (w : World) : Sem.run Tryz.prog (zeroValue 205) w = .ok (.agg (tabTo 0)) w := by kernel_rfl
theorem size_tab : (Tryz.prog.info? 205).map (·.size) = some 256 := by kernel_rfl
theorem ofNat_toNat (k : Nat) (h : k < 256) : wn (BitVec.ofNat 32 k) = (k : Int) := by
  unfold wn
  rw [BitVec.toNat_ofNat, Nat.mod_eq_of_lt (by omega)]

set_option maxHeartbeats 400000 in
set_option maxRecDepth 100000 in
theorem table_any (w : World) :
    Calls Tryz.prog 126 #[] w fun e w' => e = .returned (.agg (tabTo 256)) ∧ Below w.heap.size w w' := by
  have hz := zero_tab
  go_enter Tryz.func126, Tryz.ntmps126
  go_wp2
  go_loopw [5] (fun i wr => ∃ k : Nat, k ≤ 256 ∧ i = .int .i64 k ∧ wr = (w.alloc (.cells (tabTo 0) 205)).alloc (.cells (tabTo k) 205)) (fun i _ => 256 - (intOf i).toNat)
  case atStart => exact ⟨0, by omega, rfl, rfl⟩
  case round =>
    obtain ⟨k, hk, rfl, rfl⟩ := hrel
    by_cases hlt : k < 256
    · have hcell := tabTo_get k k hlt
      go_wp2
      go_loop [3, 10] (fun v n => ∃ j : Nat, j ≤ 8 ∧ n = .int .i64 j ∧ v = .int .u32 (wn (shn j (BitVec.ofNat 32 k)))) (fun _ n => 8 - (intOf n).toNat)
      case atStart => exact ⟨0, by omega, rfl, u32_eq (ofNat_toNat k hlt).symm⟩
      case round =>
        obtain ⟨n, hn, rfl, rfl⟩ := hrel
        by_cases hlt8 : n < 8
        · have hs := shn_succ' n (BitVec.ofNat 32 k)
          generalize shn n (BitVec.ofNat 32 k) = y at *
          cases hb : y.getLsbD 0 with
          | true =>
            have hbd := wn_bd y
            obtain ⟨hb0, hb1⟩ := hbd
            have h1 := and1_odd hb
            have h2 := sh_odd hb
            clear hb
            have H := Lib.hid hs; clear hs
            go_wp2
            go_round
            case rel => exact ⟨n + 1, by omega, by go_num, u32_eq (by rw [H.out])⟩
            case measure => simp [intOf]; omega
          | false =>
            have hbd := wn_bd y
            obtain ⟨hb0, hb1⟩ := hbd
            have h1 := and1_even hb
            have h2 := Lib.hid (sh_even hb)
            clear hb
            have H := Lib.hid hs; clear hs
            go_wp2
            go_round
            case rel => exact ⟨n + 1, by omega, by go_num, u32_eq (by rw [H.out, h2.out])⟩
            case measure => simp [intOf]; omega
        · obtain rfl : n = 8 := by omega
          have hstep := tabTo_step k hlt
          go_wp2
          go_roundw
          case rel => exact ⟨k + 1, by omega, by go_num, rfl⟩
          case measure => simp [intOf]; omega
    · obtain rfl : k = 256 := by omega
      have g1 := heap_alloc2_new w (.cells (tabTo 0) 205) (.cells (tabTo 256) 205)
      have g0 : Whole ((w.alloc (.cells (tabTo 0) 205)).alloc (.cells (tabTo 256) 205)) w.heap.size 205 (tabTo 0) := heap_alloc2_old w _ _
      have hsz : (Tryz.prog.info? 205).map (·.size) = some (tabTo 256).size := by rw [tabTo_size]; exact size_tab
      have hb : Below w.heap.size w ((w.alloc (.cells (tabTo 0) 205)).alloc (.cells (tabTo 256) 205)) := ((Below.refl _ _).alloc (Nat.le_refl _) _).alloc (by simp) _
      have G1 := Lib.hid g1; clear g1
      have G0 := Lib.hid g0; clear g0
      have S := Lib.hid hsz; clear hsz
      have Z := Lib.hid hz; clear hz
      generalize (w.alloc (.cells (tabTo 0) 205)).alloc (.cells (tabTo 256) 205) = w1 at *
      go_wp2_with (first
        | (refine wpList_load_row rfl 205 _ rfl (w.heap.size + 1) rfl 205 _ (0, 0) _ G1.out Tryz.underlying205 rfl S.out ?_)
        | (refine wpList_store_whole rfl 205 _ _ rfl rfl w.heap.size rfl (tabTo 256) rfl 205 (tabTo 0) G0.out S.out (by rw [tabTo_size, tabTo_size]) (tabTo_one 256) ?_))
      exact bodyPost_ret (results_cell_row rfl _ _ w.heap.size _ _ (0, 0) _ rfl (heap_setRow_same G0.out _) Tryz.underlying205 rfl S.out) rfl ⟨rfl, belowRow hb (Nat.le_refl _) _⟩
end Go.Proofs.YtcmbdnjcfneinaaGreatDoor
/-
  The walks of sums' Go and Crc, the program's and the document's. Conditions: none.
-/
namespace Go.Proofs.YtcmbdnjcfneinaaGreatDoor
open Go.RowKit Crc

theorem xor_wide (x : W) (c : Byte) : bits .xor .u32 (wn x) (c.toNat : Int) = wn (x ^^^ wide c) := by
  rw [← xor_nat]
  unfold wn
  rw [wide_toNat]
theorem xor_max (x : W) : bits .xor .u32 IntKind.u32.max (wn x) = wn (~~~x) := by
  rw [not_eq_xor, BitVec.xor_comm, ← xor_nat]; rfl
def lookAt (x : W) (c : Byte) : Nat := ((x ^^^ wide c) &&& 255#32).toNat
theorem lookAt_lt (x : W) (c : Byte) : lookAt x c < 256 := by
  unfold lookAt
  rw [look_toNat]
  exact Nat.xor_lt_two_pow (n := 8) (by omega) c.isLt
theorem look_idx (x : W) (c : Byte) : bits .xor .u8 (wn x % 256) (c.toNat : Int) = (lookAt x c : Int) := by
  unfold lookAt wn
  rw [look_toNat, show ((x.toNat : Int) % 256) = ((x.toNat % 256 : Nat) : Int) by omega]
  exact u8_xor_nat _ _ (by omega) (by have := c.isLt; omega)
theorem look_cell (x : W) (c : Byte) : (tabTo 256)[lookAt x c]? = some (.int .u32 (wn (shn 8 ((x ^^^ wide c) &&& 255#32)))) := by
  rw [tabTo_get 256 _ (lookAt_lt x c)]
  unfold tabAt
  rw [if_pos (lookAt_lt x c)]
  unfold lookAt
  rw [BitVec.ofNat_toNat, BitVec.setWidth_eq]
theorem div256 (x : W) : wn x / (256 : Int) = wn (x >>> 8) := by
  unfold wn
  rw [BitVec.toNat_ushiftRight, Nat.shiftRight_eq_div_pow]; simp
theorem look_put (x : W) (c : Byte) : bits .xor .u32 (wn (shn 8 ((x ^^^ wide c) &&& 255#32))) (wn (x >>> 8)) = wn (byte x c) := by
  rw [xor_nat, byte_look]
set_option maxHeartbeats 400000 in
/-- The document's Go. -/
theorem refGo_any (s : W) (b : List Byte) (A : Option Addr) (B cap : Nat) (w : World) (hl : Lies w B A (bytesV b)) (hm : b.length ≤ 9223372036854775807) :
    Calls Tryz.prog 103 #[.int .u32 (wn s), .slice A b.length cap] w fun e w' => e = .returned (.int .u32 (wn (goOn s b))) ∧ w = w' := by
  go_enter Tryz.func103, Tryz.ntmps103
  go_wp2_with (go_at_call 135; refine (refTurned _ _).mono ?_; rintro e w' ⟨rfl, rfl⟩)
  go_loop [5, 6] (fun v n => ∃ k : Nat, k ≤ b.length ∧ n = .int .i64 k ∧ v = .int .u32 (wn (run (~~~s) (b.take k)))) (fun _ n => b.length - (intOf n).toNat)
  case atStart => exact ⟨0, by omega, rfl, rfl⟩
  case round =>
    obtain ⟨k, hk, rfl, rfl⟩ := hrel
    by_cases hlt : k < b.length
    · obtain ⟨g, off, rfl, _, hc⟩ := hl k _ (bytesV_get b k hlt)
      have hby := (b[k]).isLt
      have hx := xor_wide (run (~~~s) (b.take k)) b[k]
      have hs : Hid (run (~~~s) (b.take (k + 1)) = shn 8 (run (~~~s) (b.take k) ^^^ wide b[k])) := Lib.hid (by rw [take_snoc b k hlt, run_snoc]; rfl)
      go_wp2_with (go_at_call 136; refine (refShifted _ _).mono ?_; rintro e w' ⟨rfl, rfl⟩)
      go_round
      case rel => exact ⟨k + 1, by omega, by go_num, by rw [hs.out]⟩
      case measure => simp [intOf]; omega
    · obtain rfl : k = b.length := by omega
      rw [List.take_length]
      go_wp2_with (go_at_call 135; refine (refTurned _ _).mono ?_; rintro e w' ⟨rfl, rfl⟩)
      go_ret
      exact ⟨rfl, rfl⟩
theorem refCrc_any (b : List Byte) (A : Option Addr) (B cap : Nat) (w : World) (hl : Lies w B A (bytesV b)) (hm : b.length ≤ 9223372036854775807) :
    Calls Tryz.prog 76 #[.slice A b.length cap] w fun e w' => e = .returned (.int .u32 (wn (crc b))) ∧ w = w' := by
  have hc := refGo_any 0#32 b A B cap w hl hm
  have HC := Lib.hid hc; clear hc
  go_enter Tryz.func76, Tryz.ntmps76
  go_wp2_with (go_at_call 103; refine (HC.out).mono ?_; rintro e w' ⟨rfl, rfl⟩)
  go_ret
  exact ⟨rfl, rfl⟩

set_option maxHeartbeats 400000 in
set_option maxRecDepth 100000 in
/-- The program's Go. -/
theorem go_any (s : W) (b : List Byte) (A : Option Addr) (B cap : Nat) (w : World) (hl : Lies w B A (bytesV b)) (hB : B ≤ w.heap.size) (hm : b.length ≤ 9223372036854775807) :
    Calls Tryz.prog 95 #[.int .u32 (wn s), .slice A b.length cap] w fun e w' => e = .returned (.int .u32 (wn (goOn s b))) ∧ Below w.heap.size w w' := by
  have hz := zero_tab
  have hsz : (Tryz.prog.info? 205).map (·.size) = some (tabTo 256).size := by rw [tabTo_size]; exact size_tab
  have S := Lib.hid hsz; clear hsz
  go_enter Tryz.func95, Tryz.ntmps95
  go_wp2_with (first
    | (go_at_call 126; refine (table_any _).mono ?_; rintro e w1 ⟨rfl, hb1⟩)
    | (refine wpList_store_whole rfl 205 _ _ rfl rfl w1.heap.size rfl (tabTo 256) rfl 205 (tabTo 0) (Whole.made w1 _ _) S.out (by rw [tabTo_size, tabTo_size]) (tabTo_one 256) ?_; rw [World.setRow_alloc_new]))
  have hl2 : Lies (w1.alloc (.cells (tabTo 256) 205)) w.heap.size A (bytesV b) := ((hl.more hB).below hb1).alloc hb1.size _
  have hb2 : Below w.heap.size w (w1.alloc (.cells (tabTo 256) 205)) := hb1.alloc hb1.size _
  clear hz
  rw [xor_max]
  go_loop [6, 14] (fun v n => ∃ k : Nat, k ≤ b.length ∧ n = .int .i64 k ∧ v = .int .u32 (wn (run (~~~s) (b.take k)))) (fun _ n => b.length - (intOf n).toNat)
  case atStart => exact ⟨0, by omega, rfl, rfl⟩
  case round =>
    obtain ⟨k, hk, rfl, rfl⟩ := hrel
    by_cases hlt : k < b.length
    · obtain ⟨g, off, rfl, _, hc⟩ := hl2 k _ (bytesV_get b k hlt)
      have hby := (b[k]).isLt
      have hs : Hid (run (~~~s) (b.take (k + 1)) = byte (run (~~~s) (b.take k)) b[k]) := Lib.hid (by rw [take_snoc b k hlt, run_snoc])
      obtain ⟨y, hy⟩ : ∃ y, y = run (~~~s) (b.take k) := ⟨_, rfl⟩
      rw [← hy] at hs ⊢
      have hxx := Lib.hid hy; clear hy
      have hbd := wn_bd y
      obtain ⟨hb0, hb9⟩ := hbd
      have e1 := look_idx y b[k]
      have e2 := lookAt_lt y b[k]
      have e3 := look_cell y b[k]
      have e4 := div256 y
      have e5 := look_put y b[k]
      go_wp2
      go_round
      case rel => exact ⟨k + 1, by omega, by go_num, by rw [hs.out]⟩
      case measure => simp [intOf]; omega
    · obtain rfl : k = b.length := by omega
      rw [List.take_length]
      have e := xor_max (run (~~~s) b)
      go_wp2
      go_ret
      exact ⟨rfl, hb2⟩
theorem crc_any (b : List Byte) (A : Option Addr) (B cap : Nat) (w : World) (hl : Lies w B A (bytesV b)) (hB : B ≤ w.heap.size) (hm : b.length ≤ 9223372036854775807) :
    Calls Tryz.prog 37 #[.slice A b.length cap] w fun e w' => e = .returned (.int .u32 (wn (crc b))) ∧ Below w.heap.size w w' := by
  have hc := go_any 0#32 b A B cap w hl hB hm
  have HC := Lib.hid hc; clear hc
  go_enter Tryz.func37, Tryz.ntmps37
  go_wp2_with (go_at_call 95; refine (HC.out).mono ?_; rintro e w1 ⟨rfl, hb1⟩)
  go_ret
  exact ⟨rfl, hb1⟩

/-- The nine digits. -/
def digits : List Byte := [49, 50, 51, 52, 53, 54, 55, 56, 57]
theorem digits_crc : crc digits = 3421780262#32 := by decide +kernel
theorem digits_wn : (wn (crc digits) == 3421780262) = true := by rw [digits_crc]; rfl
end Go.Proofs.YtcmbdnjcfneinaaGreatDoor
