/-
  The walks of laid and turn. Conditions: none.
-/
import Derived.Test.YtcdolkifahlakaaSumsF
import Derived.Test.YtcdolkifahlakaaSumsC
import Derived.Test.YtcdolkifahlakaaFound
import Derived.Deep.Onto
namespace Go.Proofs.Ytcdolkifahlakaa
open Go.RowKit Crc

theorem sumV (s : W) : [Value.int .u8 (wn s % 256), .int .u8 (wn s / 256 % 256), .int .u8 (wn s / 65536 % 256), .int .u8 (wn s / 16777216 % 256)] = bytesV (sumBytes s) := by
  have h : ∀ k, ((s >>> k).setWidth 8).toNat = s.toNat / 2 ^ k % 256 := fun k => by simp [Nat.shiftRight_eq_div_pow]
  have h0 : (s.setWidth 8).toNat = s.toNat % 256 := by simp
  have h1 := h 8
  have h2 := h 16
  have h3 := h 24
  unfold bytesV sumBytes wn byteV
  simp only [List.map_cons, List.map_nil]
  rw [h0, h1, h2, h3]
  simp only [Int.natCast_emod, Int.natCast_ediv]
  rfl

set_option maxHeartbeats 1000000 in
theorem laid_any (b : List Byte) (A : Option Addr) (B cap : Nat) (w : World) (hl : Lies w B A (bytesV b)) (hB : B ≤ w.heap.size) (hm : b.length ≤ 16777216) :
    Calls Try.prog 23 #[.slice A b.length cap] w fun e w' => ∃ A' cap', e = .returned (.slice A' (laidL b).length cap') ∧ w'.ownsRow w.heap.size 5 1 (.slice A' (laidL b).length cap') (laidL b).length (bytesV (laidL b)) ∧ (laidL b).length ≤ cap' ∧ Below w.heap.size w w' := by
  have hlen := laidL_length b
  have hL : bytesV (laidL b) = bytesV b ++ bytesV (sumBytes (crc b)) := by unfold laidL; rw [bytesV_append]
  have hs := sumV (crc b)
  rw [hL, hlen]
  clear hL hlen
  have HS := Lib.hid hs; clear hs
  go_enter Try.func23, Try.ntmps23
  go_wp2_with fail
  refine (copyBytes_any b A B cap w hl (by omega)).mono ?_
  rintro e w1 ⟨A1, cap1, rfl, hown1, _, hb1⟩
  have hl1 := own_lies hown1
  have hB1 := hb1
  clear hown1 hb1
  go_wp2_with fail
  refine (crc_any b A1 _ cap1 w1 hl1 (Nat.le_refl _) (by omega)).mono ?_
  rintro e w2 ⟨rfl, hb2⟩
  have hB2 := belowThen' hB1 hb2
  clear hl1 hB1 hb2
  go_wp2_with fail
  refine (copyBytes_any b A _ cap w2 (hl.below (hB2.mono hB)) (by omega)).mono ?_
  rintro e w3 ⟨A3, cap3, rfl, hown3, _, hb3⟩
  have hB3 := belowThen' hB2 hb3
  have hown3' := hown3.mono hB2.size
  clear hb3 hown3
  go_wp2_with (first
    | (at_builtin
       go_loud (refine wpList_append_lies _ rfl _ _ 22 rfl w.heap.size 5 (.int .u8 0) 1 Try.underlying22 info_u8 rfl _ b.length _ rfl (hown3'.alloc _) (w3.heap.size + 1) (some ⟨w3.heap.size, 0, none⟩) 4 4 _ rfl (Lies.row (t := 5) (fr := (0, 0)) (heap_alloc_new w3 _) (Nat.lt_succ_self _)) rfl (by intro u hu; simp only [List.mem_cons, List.not_mem_nil, or_false] at hu; rcases hu with rfl | rfl | rfl | rfl <;> rfl) (by simp only [maxLen]; omega) (by omega) (Nat.le_of_lt (Nat.lt_of_le_of_lt hB3.size (Whole.made w3 _ _).inside)) ?_)
       intro A' cap' w4 hown hg hbl hc
       rw [HS.out] at hown))
  go_ret
  exact ⟨A', cap', rfl, hown, hc, (hB3.alloc hB3.size _).grown hg (Nat.le_of_lt (Nat.lt_of_le_of_lt hB3.size (Whole.made w3 _ _).inside)) (fun k hk => (hown3'.lt k hk).1)⟩

theorem wn_shr (T : W) (k : Nat) : wn T / 2 ^ k = wn (T >>> k) := by
  unfold wn
  rw [BitVec.toNat_ushiftRight, Nat.shiftRight_eq_div_pow, Int.natCast_ediv, Int.natCast_pow]; rfl
theorem bit_true {T : W} {k : Nat} (h : T.getLsbD k = true) : bits .and .u32 (wn T / 2 ^ k) 1 = 1 := by
  rw [wn_shr]; exact and1_odd (by simpa using h)
theorem bit_false {T : W} {k : Nat} (h : T.getLsbD k = false) : bits .and .u32 (wn T / 2 ^ k) 1 = 0 := by
  rw [wn_shr]; exact and1_even (by simpa using h)

theorem pow_byte (m : Nat) (h : m < 8) : (2 : Int) ^ m % 256 = ((BitVec.twoPow 8 m).toNat : Int) := by
  revert m; decide
theorem bytesV_set (l : List Byte) (j : Nat) (c : Byte) : (bytesV l).set j (.int .u8 (c.toNat : Int)) = bytesV (l.set j c) := by
  unfold bytesV; rw [List.map_set]; rfl

theorem far_cell (w : World) {g h : Nat} (i j : Nat) (v : Value) (hne : h ≠ g) : (w.setCell ⟨g, i, none⟩ v).cell? ⟨h, j, none⟩ = w.cell? ⟨h, j, none⟩ := by
  apply World.cell?_setCell_other
  intro e
  exact hne (congrArg Addr.block e).symm

set_option maxHeartbeats 1000000 in
theorem turn_any (b : List Byte) (z : Int) (T : W) (h0 : 0 < b.length) (A : Option Addr) (B cap : Nat) (w : World) (hl : Lies w B A (bytesV b)) (hB : B ≤ w.heap.size) (hm : b.length ≤ 16777220) :
    Calls Try.prog 24 #[.slice A b.length cap, .agg #[.int .i64 z, .int .u32 (wn T)]] w fun e w' => ∃ A' cap' p K, e = .returned (.slice A' (turnTo b p T K).length cap') ∧ w'.ownsRow w.heap.size 5 1 (.slice A' (turnTo b p T K).length cap') (turnTo b p T K).length (bytesV (turnTo b p T K)) ∧ p + K ≤ 8 * b.length ∧ K ≤ 32 ∧ Below w.heap.size w w' := by
  go_enter Try.func24, Try.ntmps24
  go_wp2_with fail
  have hW0 : Whole (w.alloc (.cells #[.int .i64 z, .int .u32 (wn T)] 38)) w.heap.size 38 #[.int .i64 z, .int .u32 (wn T)] := Whole.made _ _ _
  have hB0 : Below w.heap.size w (w.alloc (.cells #[.int .i64 z, .int .u32 (wn T)] 38)) := (Below.refl _ _).alloc (Nat.le_refl _) _
  have hl0 := hl.alloc hB (.cells #[.int .i64 z, .int .u32 (wn T)] 38)
  have hg0 : w.heap.size < (w.alloc (.cells #[.int .i64 z, .int .u32 (wn T)] 38)).heap.size := hW0.inside
  have hg1 : Hid (w.heap.size ≤ w.heap.size) := Lib.hid (Nat.le_refl _)
  clear hl
  generalize w.alloc (.cells #[.int .i64 z, .int .u32 (wn T)] 38) = w0 at *
  refine (copyBytes_any b A B cap w0 hl0 (by omega)).mono ?_
  rintro e w1 ⟨A1, cap1, rfl, hown1, _, hb1⟩
  have hW1 := hW0.past hb1
  have hown1' := hown1.mono (Nat.le_of_lt hg0)
  have hB1 : Below w.heap.size w w1 := hB0.trans (hb1.mono (Nat.le_of_lt hg0))
  obtain ⟨g, cs, rfl, hgb, hW2, hcs, hcap, htk⟩ := own_whole hown1 h0
  have hne : w.heap.size ≠ g := by omega
  have hbase : w.heap.size ≤ g := by omega
  have hcz := hW1.cellAt 0
  have hcT := hW1.cellAt 1
  rw [show (#[Value.int IntKind.i64 z, Value.int IntKind.u32 (wn T)])[0]? = some (Value.int IntKind.i64 z) from rfl] at hcz
  rw [show (#[Value.int IntKind.i64 z, Value.int IntKind.u32 (wn T)])[1]? = some (Value.int IntKind.u32 (wn T)) from rfl] at hcT
  generalize hgT : w.heap.size = gT at *
  clear hb1 hown1 hW1 hW0 hB0 hl0 hg0 hgb
  by_cases hneg : z.tmod (8 * (b.length : Int)) < 0
  · obtain ⟨p, hp, he⟩ : ∃ p : Nat, p < 8 * b.length ∧ z.tmod (8 * (b.length : Int)) + 8 * (b.length : Int) = p := by
      have h1 := Int.lt_tmod_of_pos z (b := 8 * (b.length : Int)) (by omega)
      exact ⟨(z.tmod (8 * (b.length : Int)) + 8 * (b.length : Int)).toNat, by omega, by omega⟩
    go_wp2_with fail
    clear hneg he hcz
    go_loopw [7] (fun vk wr => ∃ k : Nat, k ≤ 32 ∧ p + k ≤ 8 * b.length ∧ vk = .int .i64 k ∧ wr.ownsRow gT 5 1 (.slice (some ⟨g, 0, none⟩) b.length cap1) b.length (bytesV (turnTo b p T k)) ∧ wr.cell? ⟨gT, 1, none⟩ = some (.int .u32 (wn T)) ∧ Below gT w wr) (fun vk _ => 32 - (intOf vk).toNat)
    case atStart => exact ⟨0, by omega, by omega, rfl, hown1', hcT, hB1⟩
    case round =>
      obtain ⟨k, hk, hpk, rfl, hown, hcr, hBr⟩ := hrel
      have hcl : b.length ≤ cap1 := hcap
      by_cases h32 : k < 32
      · by_cases hin : p + k < 8 * b.length
        · have hq : (p + k) / 8 < (turnTo b p T k).length := by rw [turnTo_length]; omega
          have hcell := (hown.cellAt ((p + k) / 8) (by omega)).trans (bytesV_get (turnTo b p T k) _ hq)
          have hfree := hown.frozenAt ((p + k) / 8)
          cases hbit : T.getLsbD k with
          | true =>
            have hb1 := bit_true hbit
            have hst : Hid (turnTo b p T (k + 1) = (turnTo b p T k).set ((p + k) / 8) ((turnTo b p T k)[(p + k) / 8] ^^^ BitVec.twoPow 8 ((p + k) % 8))) := Lib.hid (by
              show (if _ then _ else _) = _
              rw [hbit, if_pos rfl, List.getD_eq_getElem?_getD, List.getElem?_eq_getElem hq]; rfl)
            generalize hy : (turnTo b p T k)[(p + k) / 8] = y at *
            have hx := xor_zero_iff y (BitVec.twoPow 8 ((p + k) % 8))
            rw [← pow_byte ((p + k) % 8) (by omega)] at hx
            generalize hv : y ^^^ BitVec.twoPow 8 ((p + k) % 8) = v at *
            have hyb := y.isLt
            clear hbit hv hy
            go_wp2_with fail
            go_roundw
            case rel =>
              refine ⟨k + 1, by omega, by omega, by go_num, ?_, (far_cell wr _ _ _ hne).trans hcr, hBr.setCell hbase _⟩
              rw [hst.out, ← bytesV_set]
              exact (hown.stored _ _).1
            case measure => simp [intOf]; omega
          | false =>
            have hb0 := bit_false hbit
            have hst : Hid (turnTo b p T (k + 1) = turnTo b p T k) := Lib.hid (by show (if _ then _ else _) = _; rw [hbit]; rfl)
            clear hbit
            go_wp2_with fail
            go_roundw
            case rel => exact ⟨k + 1, by omega, by omega, by go_num, by rw [hst.out]; exact hown, hcr, hBr⟩
            case measure => simp [intOf]; omega
        · go_wp2
          go_ret
          exact ⟨some ⟨g, 0, none⟩, cap1, p, k, by rw [turnTo_length]; rfl, by rw [turnTo_length]; first | exact hown | (rw [hgT]; exact hown), hpk, hk, by first | exact hBr | (rw [hgT]; exact hBr)⟩
      · go_wp2
        go_ret
        exact ⟨some ⟨g, 0, none⟩, cap1, p, k, by rw [turnTo_length]; rfl, by rw [turnTo_length]; first | exact hown | (rw [hgT]; exact hown), hpk, hk, by first | exact hBr | (rw [hgT]; exact hBr)⟩
  · obtain ⟨p, hp, he⟩ : ∃ p : Nat, p < 8 * b.length ∧ z.tmod (8 * (b.length : Int)) = p := by
      have h1 := Int.tmod_lt_of_pos z (b := 8 * (b.length : Int)) (by omega)
      exact ⟨(z.tmod (8 * (b.length : Int))).toNat, by omega, by omega⟩
    clear hneg
    go_wp2_with fail
    clear he hcz
    go_loopw [7] (fun vk wr => ∃ k : Nat, k ≤ 32 ∧ p + k ≤ 8 * b.length ∧ vk = .int .i64 k ∧ wr.ownsRow gT 5 1 (.slice (some ⟨g, 0, none⟩) b.length cap1) b.length (bytesV (turnTo b p T k)) ∧ wr.cell? ⟨gT, 1, none⟩ = some (.int .u32 (wn T)) ∧ Below gT w wr) (fun vk _ => 32 - (intOf vk).toNat)
    case atStart => exact ⟨0, by omega, by omega, rfl, hown1', hcT, hB1⟩
    case round =>
      obtain ⟨k, hk, hpk, rfl, hown, hcr, hBr⟩ := hrel
      have hcl : b.length ≤ cap1 := hcap
      by_cases h32 : k < 32
      · by_cases hin : p + k < 8 * b.length
        · have hq : (p + k) / 8 < (turnTo b p T k).length := by rw [turnTo_length]; omega
          have hcell := (hown.cellAt ((p + k) / 8) (by omega)).trans (bytesV_get (turnTo b p T k) _ hq)
          have hfree := hown.frozenAt ((p + k) / 8)
          cases hbit : T.getLsbD k with
          | true =>
            have hb1 := bit_true hbit
            have hst : Hid (turnTo b p T (k + 1) = (turnTo b p T k).set ((p + k) / 8) ((turnTo b p T k)[(p + k) / 8] ^^^ BitVec.twoPow 8 ((p + k) % 8))) := Lib.hid (by
              show (if _ then _ else _) = _
              rw [hbit, if_pos rfl, List.getD_eq_getElem?_getD, List.getElem?_eq_getElem hq]; rfl)
            generalize hy : (turnTo b p T k)[(p + k) / 8] = y at *
            have hx := xor_zero_iff y (BitVec.twoPow 8 ((p + k) % 8))
            rw [← pow_byte ((p + k) % 8) (by omega)] at hx
            generalize hv : y ^^^ BitVec.twoPow 8 ((p + k) % 8) = v at *
            have hyb := y.isLt
            clear hbit hv hy
            go_wp2_with fail
            go_roundw
            case rel =>
              refine ⟨k + 1, by omega, by omega, by go_num, ?_, (far_cell wr _ _ _ hne).trans hcr, hBr.setCell hbase _⟩
              rw [hst.out, ← bytesV_set]
              exact (hown.stored _ _).1
            case measure => simp [intOf]; omega
          | false =>
            have hb0 := bit_false hbit
            have hst : Hid (turnTo b p T (k + 1) = turnTo b p T k) := Lib.hid (by show (if _ then _ else _) = _; rw [hbit]; rfl)
            clear hbit
            go_wp2_with fail
            go_roundw
            case rel => exact ⟨k + 1, by omega, by omega, by go_num, by rw [hst.out]; exact hown, hcr, hBr⟩
            case measure => simp [intOf]; omega
        · go_wp2
          go_ret
          exact ⟨some ⟨g, 0, none⟩, cap1, p, k, by rw [turnTo_length]; rfl, by rw [turnTo_length]; first | exact hown | (rw [hgT]; exact hown), hpk, hk, by first | exact hBr | (rw [hgT]; exact hBr)⟩
      · go_wp2
        go_ret
        exact ⟨some ⟨g, 0, none⟩, cap1, p, k, by rw [turnTo_length]; rfl, by rw [turnTo_length]; first | exact hown | (rw [hgT]; exact hown), hpk, hk, by first | exact hBr | (rw [hgT]; exact hBr)⟩
end Go.Proofs.Ytcdolkifahlakaa
