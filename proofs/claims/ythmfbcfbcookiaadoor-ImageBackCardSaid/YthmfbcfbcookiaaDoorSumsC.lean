/-
  The walks of sums' Go and Crc, the program's and the document's. Conditions: none.
-/
import Derived.Test.YthmfbcfbcookiaaDoorSumsB
import Derived.Test.YthmfbcfbcookiaaDoorBytes
import Derived.Deep.WholeRow
import Derived.Lib.SlBytesConst
namespace Go.Proofs.YthmfbcfbcookiaaDoor
open Go.RowKit Crc

theorem xor_wide (x : W) (c : Byte) : bits .xor .u32 (wn x) (c.toNat : Int) = wn (x ^^^ wide c) := by
  rw [← xor_nat]
  unfold wn
  rw [wide_toNat]
theorem xor_max (x : W) : bits .xor .u32 IntKind.u32.max (wn x) = wn (~~~x) := by
  rw [not_eq_xor, BitVec.xor_comm, ← xor_nat]; rfl
def lookAt (x : W) (c : Byte) : Nat := ((x ^^^ wide c) &&& 255#32).toNat
theorem lookAt_lt (x : W) (c : Byte) : lookAt x c < 256 := by
  unfold lookAt
  rw [look_toNat]
  exact Nat.xor_lt_two_pow (n := 8) (by omega) c.isLt
theorem look_idx (x : W) (c : Byte) : bits .xor .u8 (wn x % 256) (c.toNat : Int) = (lookAt x c : Int) := by
  unfold lookAt wn
  rw [look_toNat, show ((x.toNat : Int) % 256) = ((x.toNat % 256 : Nat) : Int) by omega]
  exact u8_xor_nat _ _ (by omega) (by have := c.isLt; omega)
theorem look_cell (x : W) (c : Byte) : (tabTo 256)[lookAt x c]? = some (.int .u32 (wn (shn 8 ((x ^^^ wide c) &&& 255#32)))) := by
  rw [tabTo_get 256 _ (lookAt_lt x c)]
  unfold tabAt
  rw [if_pos (lookAt_lt x c)]
  unfold lookAt
  rw [BitVec.ofNat_toNat, BitVec.setWidth_eq]
theorem div256 (x : W) : wn x / (256 : Int) = wn (x >>> 8) := by
  unfold wn
  rw [BitVec.toNat_ushiftRight, Nat.shiftRight_eq_div_pow]; simp
theorem look_put (x : W) (c : Byte) : bits .xor .u32 (wn (shn 8 ((x ^^^ wide c) &&& 255#32))) (wn (x >>> 8)) = wn (byte x c) := by
  rw [xor_nat, byte_look]
set_option maxHeartbeats 400000 in
set_option maxRecDepth 100000 in
/-- The program's Go. -/
theorem go_any (s : W) (b : List Byte) (A : Option Addr) (B cap : Nat) (w : World) (hl : Lies w B A (bytesV b)) (hB : B ≤ w.heap.size) (hm : b.length ≤ 9223372036854775807) :
    Calls Tryd.prog 37 #[.int .u32 (wn s), .slice A b.length cap] w fun e w' => e = .returned (.int .u32 (wn (goOn s b))) ∧ Below w.heap.size w w' := by
  have hz := zero_tab
  have hsz : (Tryd.prog.info? 119).map (·.size) = some (tabTo 256).size := by rw [tabTo_size]; exact size_tab
  have S := Lib.hid hsz; clear hsz
  go_enter Tryd.func37, Tryd.ntmps37
  go_wp2_with (first
    | (go_at_call 76; refine (table_any _).mono ?_; rintro e w1 ⟨rfl, hb1⟩)
    | (refine wpList_store_whole rfl 119 _ _ rfl rfl w1.heap.size rfl (tabTo 256) rfl 119 (tabTo 0) (Whole.made w1 _ _) S.out (by rw [tabTo_size, tabTo_size]) (tabTo_one 256) ?_; rw [World.setRow_alloc_new]))
  have hl2 : Lies (w1.alloc (.cells (tabTo 256) 119)) w.heap.size A (bytesV b) := ((hl.more hB).below hb1).alloc hb1.size _
  have hb2 : Below w.heap.size w (w1.alloc (.cells (tabTo 256) 119)) := hb1.alloc hb1.size _
  clear hz
  rw [xor_max]
  go_loop [6, 14] (fun v n => ∃ k : Nat, k ≤ b.length ∧ n = .int .i64 k ∧ v = .int .u32 (wn (run (~~~s) (b.take k)))) (fun _ n => b.length - (intOf n).toNat)
  case atStart => exact ⟨0, by omega, rfl, rfl⟩
  case round =>
    obtain ⟨k, hk, rfl, rfl⟩ := hrel
    by_cases hlt : k < b.length
    · obtain ⟨g, off, rfl, _, hc⟩ := hl2 k _ (bytesV_get b k hlt)
      have hby := (b[k]).isLt
      have hs : Hid (run (~~~s) (b.take (k + 1)) = byte (run (~~~s) (b.take k)) b[k]) := Lib.hid (by rw [take_snoc b k hlt, run_snoc])
      obtain ⟨y, hy⟩ : ∃ y, y = run (~~~s) (b.take k) := ⟨_, rfl⟩
      rw [← hy] at hs ⊢
      have hxx := Lib.hid hy; clear hy
      have hbd := wn_bd y
      obtain ⟨hb0, hb9⟩ := hbd
      have e1 := look_idx y b[k]
      have e2 := lookAt_lt y b[k]
      have e3 := look_cell y b[k]
      have e4 := div256 y
      have e5 := look_put y b[k]
      go_wp2
      go_round
      case rel => exact ⟨k + 1, by omega, by go_num, by rw [hs.out]⟩
      case measure => simp [intOf]; omega
    · obtain rfl : k = b.length := by omega
      rw [List.take_length]
      have e := xor_max (run (~~~s) b)
      go_wp2
      go_ret
      exact ⟨rfl, hb2⟩
theorem crc_any (b : List Byte) (A : Option Addr) (B cap : Nat) (w : World) (hl : Lies w B A (bytesV b)) (hB : B ≤ w.heap.size) (hm : b.length ≤ 9223372036854775807) :
    Calls Tryd.prog 14 #[.slice A b.length cap] w fun e w' => e = .returned (.int .u32 (wn (crc b))) ∧ Below w.heap.size w w' := by
  have hc := go_any 0#32 b A B cap w hl hB hm
  have HC := Lib.hid hc; clear hc
  go_enter Tryd.func14, Tryd.ntmps14
  go_wp2_with (go_at_call 37; refine (HC.out).mono ?_; rintro e w1 ⟨rfl, hb1⟩)
  go_ret
  exact ⟨rfl, hb1⟩

/-- The nine digits. -/
def digits : List Byte := [49, 50, 51, 52, 53, 54, 55, 56, 57]
theorem digits_crc : crc digits = 3421780262#32 := by decide +kernel
theorem digits_wn : (wn (crc digits) == 3421780262) = true := by rw [digits_crc]; rfl
end Go.Proofs.YthmfbcfbcookiaaDoor
