/-
  The walk of the law SumsCrcs: for every list of bytes within the reach and every sum it returns true; what was there before it is as it was. Conditions: none.
-/
import Derived.Test.YtcdolkifahlakaaSumsC
namespace Go.Proofs.Ytcdolkifahlakaa
open Go.RowKit Crc

/-- The bytes that are written over the first ones. -/
def mixAt (b : List Byte) (i : Nat) : Byte := b.getD i 0 ^^^ BitVec.ofNat 8 (i * 7 + 1)
def mix (b : List Byte) : List Byte := (List.range b.length).map (mixAt b)
theorem mix_length (b : List Byte) : (mix b).length = b.length := by simp [mix]
def mixRow (b : List Byte) (k : Nat) : Array Value := full (b.length + 64) (fun i => if i < k then byteV (mixAt b i) else wideAt b i)
theorem mixRow_zero (b : List Byte) : mixRow b 0 = wideB b := full_congr fun i _ => by rw [if_neg (Nat.not_lt_zero i)]
theorem mixRow_here (b : List Byte) (k : Nat) (h : k < b.length) : (mixRow b k)[k]? = some (.int .u8 ((b[k]).toNat : Int)) := by
  unfold mixRow
  rw [full_get _ _ k (by omega), if_neg (Nat.lt_irrefl k), wideAt_in b k h]
theorem mixRow_step (b : List Byte) (k : Nat) : (mixRow b k).setIfInBounds k (byteV (mixAt b k)) = mixRow b (k + 1) := by
  unfold mixRow
  rw [full_put]
  refine full_congr fun i _ => ?_
  by_cases e : i = k
  · subst e; rw [if_pos rfl, if_pos (by omega)]
  · rw [if_neg e]
    by_cases hlt : i < k
    · rw [if_pos hlt, if_pos (by omega)]
    · rw [if_neg hlt, if_neg (by omega)]
theorem mixRow_end (b : List Byte) : mixRow b b.length = wideB (mix b) := by
  unfold mixRow wideB
  rw [mix_length]
  refine full_congr fun i _ => ?_
  by_cases h : i < b.length
  · rw [if_pos h]
    unfold wideAt
    rw [dif_pos (by rw [mix_length]; exact h)]
    simp [mix]
  · rw [if_neg h, wideAt_out b i (by omega), wideAt_out (mix b) i (by rw [mix_length]; omega)]
theorem mix_value (b : List Byte) (k : Nat) (h : k < b.length) : bits .xor .u8 ((b[k]).toNat : Int) (((k : Int) * 7 + 1) % 256) = ((mixAt b k).toNat : Int) := by
  have e1 : (((k : Int) * 7 + 1) % 256) = (((k * 7 + 1) % 256 : Nat) : Int) := by omega
  rw [e1, u8_xor_nat _ _ (by have := (b[k]).isLt; omega) (by omega)]
  unfold mixAt
  rw [BitVec.toNat_xor, BitVec.toNat_ofNat]
  simp [h]

set_option maxHeartbeats 200000 in
theorem sumsCrcs_any (b : List Byte) (s : W) (A : Option Addr) (cap : Nat) (w : World) (hl : Lies w w.heap.size A (bytesV b)) (hm : b.length ≤ 140737488351232) :
    Calls Try.prog 3 #[.slice A b.length cap, .int .u32 (wn s)] w fun e w' => e = .returned (.bool true) ∧ Below w.heap.size w w' := by
  by_cases hlong : 16777216 < b.length
  · go_enter Try.func3, Try.ntmps3
    go_wp2
    go_ret
    exact ⟨rfl, Below.refl _ _⟩
  · have hm63 : b.length ≤ 9223372036854775807 := by omega
    go_enter Try.func3, Try.ntmps3
    go_wp2_with (first
      | (go_at_call 9; go_in)
      | (go_at_call 10; refine (wideBytes_new b A _ cap w hl (Nat.le_refl _) hm).mono ?_; rintro e w1 ⟨g, rfl, hg, hW, hB⟩))
    have hg1 := hW.inside
    refine (crc_any b _ _ _ w1 (wideB_lies b hW hg1) (Nat.le_refl _) hm63).mono ?_
    rintro e w2 ⟨rfl, hb2⟩
    have hB2 := belowThen' hB hb2
    have hW2 := hW.past hb2
    have hl2 := hl.below hB2
    clear hb2 hB hW
    go_wp2_with fail
    refine (refCrc_any b _ _ _ _ hl2 hm63).mono ?_
    rintro e w' ⟨rfl, rfl⟩
    go_wp2_with fail
    refine (go_any s b _ _ _ w2 (wideB_lies b hW2 hW2.inside) (Nat.le_refl _) hm63).mono ?_
    rintro e w3 ⟨rfl, hb3⟩
    have hB3 := belowThen' hB2 hb3
    have hW3 := hW2.past hb3
    have hl3 := hl.below hB3
    clear hb3 hB2 hW2 hl2
    go_wp2_with fail
    refine (refGo_any s b _ _ _ _ hl3 hm63).mono ?_
    rintro e w' ⟨rfl, rfl⟩
    go_wp2_with fail
    refine (eqBytes_any b b _ _ _ _ _ _ w3 (wideB_lies b hW3 hW3.inside) hl3 hm63).mono ?_
    rintro e w4 ⟨rfl, hb4⟩
    have hB4 := belowThen' hB3 hb4
    have hW4 := hW3.past hb4
    clear hb4 hB3 hW3 hl3
    go_wp2_with fail
    refine (spareBytes_any b g _ hW4 hm).mono ?_
    rintro e w' ⟨rfl, rfl⟩
    go_wp2_with fail
    go_loopw [6] (fun i wr => ∃ k : Nat, k ≤ b.length ∧ i = .int .i64 k ∧ Whole wr g 5 (mixRow b k) ∧ Below w.heap.size w wr) (fun i _ => b.length - (intOf i).toNat)
    case atStart => exact ⟨0, by omega, rfl, by rw [mixRow_zero]; exact hW4, hB4⟩
    case round =>
      obtain ⟨k, hk, rfl, hWr, hBr⟩ := hrel
      clear hB4 hW4
      by_cases hlt : k < b.length
      · have hcell := (hWr.cellAt k).trans (mixRow_here b k hlt)
        have hfree := hWr.free k
        have hv := mix_value b k hlt
        have hby := (b[k]).isLt
        go_wp2
        go_roundw
        case rel => exact ⟨k + 1, by omega, by go_num, by rw [← mixRow_step b k]; exact hWr.put k _, hBr.setCell hg _⟩
        case measure => simp [intOf]; omega
      · obtain rfl : k = b.length := by omega
        rw [mixRow_end] at hWr
        have hml := mix_length b
        have hlr := wideB_lies (mix b) hWr hWr.inside
        have c1 := copyBytes_any (mix b) (some ⟨g, 0, none⟩) _ (b.length + 64) wr hlr (by omega)
        have c2 := fun w' (h : Below wr.heap.size wr w') => crc_any (mix b) (some ⟨g, 0, none⟩) _ (b.length + 64) w' ((hlr.past h)) (Nat.le_refl _) (by omega)
        have c3 := fun w' (h : Below wr.heap.size wr w') => go_any s (mix b) (some ⟨g, 0, none⟩) _ (b.length + 64) w' ((hlr.past h)) (Nat.le_refl _) (by omega)
        rw [hml] at c1
        simp only [hml] at c2 c3
        have C1 := Lib.hid c1; clear c1
        have C2 := Lib.hid c2; clear c2
        have C3 := Lib.hid c3; clear c3
        have HL := Lib.hid hml; clear hml
        go_wp2_with fail
        refine C1.out.mono ?_
        rintro e w5 ⟨A5, cap5, rfl, hown, _, hb5⟩
        have hl5 := own_lies hown
        go_wp2_with fail
        refine (C2.out w5 hb5).mono ?_
        rintro e w6 ⟨rfl, hb6⟩
        go_wp2_with fail
        have hl6 := hl5.past hb6
        have hb6' := belowThen' hb5 hb6
        have c4 := refCrc_any (mix b) A5 _ cap5 w6 hl6 (by rw [HL.out]; omega)
        rw [HL.out] at c4
        refine c4.mono ?_
        clear c4
        rintro e w' ⟨rfl, rfl⟩
        go_wp2_with fail
        refine (C3.out w6 hb6').mono ?_
        rintro e w7 ⟨rfl, hb7⟩
        have hl7 := hl6.past hb7
        have hb7' := belowThen' hb6' hb7
        go_wp2_with fail
        have c5 := refGo_any s (mix b) A5 _ cap5 w7 hl7 (by rw [HL.out]; omega)
        rw [HL.out] at c5
        refine c5.mono ?_
        clear c5
        rintro e w' ⟨rfl, rfl⟩
        go_wp2_with fail
        refine (works_any w7).mono ?_
        rintro e w8 ⟨rfl, hb8⟩
        go_wp2
        go_ret
        exact ⟨rfl, belowThen' hBr (belowThen' hb7' hb8)⟩
end Go.Proofs.Ytcdolkifahlakaa
