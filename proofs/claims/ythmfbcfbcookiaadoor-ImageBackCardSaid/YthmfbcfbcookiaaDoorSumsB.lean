/-
  The walks of sums' tables. Conditions: none.
-/
import Derived.Test.YthmfbcfbcookiaaDoorSumsA
namespace Go.Proofs.YthmfbcfbcookiaaDoor
open Go.RowKit Crc

theorem not_nat (x : W) : bits .xor .u32 (wn x) 4294967295 = wn (~~~x) := by
  rw [not_eq_xor, ← xor_nat]; rfl
theorem ret_u32 {a b : Int} (h : a = b) : Ending.returned (.int .u32 a) = .returned (.int .u32 b) := by rw [h]
/-- The table's values. -/
def tabAt (k i : Nat) : Value := .int .u32 (if i < k then wn (shn 8 (BitVec.ofNat 32 i)) else 0)
def tabTo (k : Nat) : Array Value := ((List.range 256).map (tabAt k)).toArray

theorem tabTo_size (k : Nat) : (tabTo k).size = 256 := by simp [tabTo]
theorem tabTo_get (k i : Nat) (h : i < 256) : (tabTo k)[i]? = some (tabAt k i) := by simp [tabTo, h]
theorem tabTo_step (k : Nat) (_hk : k < 256) : (tabTo k).setIfInBounds k (.int .u32 (wn (shn 8 (BitVec.ofNat 32 k)))) = tabTo (k + 1) := by
  apply Array.ext_getElem?
  intro i
  rw [Array.getElem?_setIfInBounds]
  by_cases hi : i < 256
  · rw [tabTo_get (k + 1) i hi]
    by_cases e : k = i
    · subst e
      rw [if_pos rfl, if_pos (by rw [tabTo_size]; exact hi)]
      unfold tabAt
      rw [if_pos (by omega)]
    · rw [if_neg e, tabTo_get k i hi]
      unfold tabAt
      by_cases hlt : i < k
      · rw [if_pos hlt, if_pos (by omega)]
      · rw [if_neg hlt, if_neg (by omega)]
  · have h1 : (tabTo (k + 1))[i]? = none := Array.getElem?_eq_none (by rw [tabTo_size]; omega)
    have h2 : (tabTo k)[i]? = none := Array.getElem?_eq_none (by rw [tabTo_size]; omega)
    rw [h1, h2, if_neg (by omega)]
theorem tabTo_one (k : Nat) : (tabTo k).all (·.oneCell') = true := by
  rw [Array.all_eq_true_iff_forall_mem]
  intro v hv
  simp only [tabTo, List.mem_toArray, List.mem_map] at hv
  obtain ⟨i, _, rfl⟩ := hv
  rfl
theorem zero_tab (w : World) : Sem.run Tryd.prog (zeroValue 119) w = .ok (.agg (tabTo 0)) w := by kernel_rfl
theorem size_tab : (Tryd.prog.info? 119).map (·.size) = some 256 := by kernel_rfl
theorem ofNat_toNat (k : Nat) (h : k < 256) : wn (BitVec.ofNat 32 k) = (k : Int) := by
  unfold wn
  rw [BitVec.toNat_ofNat, Nat.mod_eq_of_lt (by omega)]

set_option maxHeartbeats 400000 in
set_option maxRecDepth 100000 in
theorem table_any (w : World) :
    Calls Tryd.prog 76 #[] w fun e w' => e = .returned (.agg (tabTo 256)) ∧ Below w.heap.size w w' := by
  have hz := zero_tab
  go_enter Tryd.func76, Tryd.ntmps76
  go_wp2
  go_loopw [5] (fun i wr => ∃ k : Nat, k ≤ 256 ∧ i = .int .i64 k ∧ wr = (w.alloc (.cells (tabTo 0) 119)).alloc (.cells (tabTo k) 119)) (fun i _ => 256 - (intOf i).toNat)
  case atStart => exact ⟨0, by omega, rfl, rfl⟩
  case round =>
    obtain ⟨k, hk, rfl, rfl⟩ := hrel
    by_cases hlt : k < 256
    · have hcell := tabTo_get k k hlt
      go_wp2
      go_loop [3, 10] (fun v n => ∃ j : Nat, j ≤ 8 ∧ n = .int .i64 j ∧ v = .int .u32 (wn (shn j (BitVec.ofNat 32 k)))) (fun _ n => 8 - (intOf n).toNat)
      case atStart => exact ⟨0, by omega, rfl, u32_eq (ofNat_toNat k hlt).symm⟩
      case round =>
        obtain ⟨n, hn, rfl, rfl⟩ := hrel
        by_cases hlt8 : n < 8
        · have hs := shn_succ' n (BitVec.ofNat 32 k)
          generalize shn n (BitVec.ofNat 32 k) = y at *
          cases hb : y.getLsbD 0 with
          | true =>
            have hbd := wn_bd y
            obtain ⟨hb0, hb1⟩ := hbd
            have h1 := and1_odd hb
            have h2 := sh_odd hb
            clear hb
            have H := Lib.hid hs; clear hs
            go_wp2
            go_round
            case rel => exact ⟨n + 1, by omega, by go_num, u32_eq (by rw [H.out])⟩
            case measure => simp [intOf]; omega
          | false =>
            have hbd := wn_bd y
            obtain ⟨hb0, hb1⟩ := hbd
            have h1 := and1_even hb
            have h2 := Lib.hid (sh_even hb)
            clear hb
            have H := Lib.hid hs; clear hs
            go_wp2
            go_round
            case rel => exact ⟨n + 1, by omega, by go_num, u32_eq (by rw [H.out, h2.out])⟩
            case measure => simp [intOf]; omega
        · obtain rfl : n = 8 := by omega
          have hstep := tabTo_step k hlt
          go_wp2
          go_roundw
          case rel => exact ⟨k + 1, by omega, by go_num, rfl⟩
          case measure => simp [intOf]; omega
    · obtain rfl : k = 256 := by omega
      have g1 := heap_alloc2_new w (.cells (tabTo 0) 119) (.cells (tabTo 256) 119)
      have g0 : Whole ((w.alloc (.cells (tabTo 0) 119)).alloc (.cells (tabTo 256) 119)) w.heap.size 119 (tabTo 0) := heap_alloc2_old w _ _
      have hsz : (Tryd.prog.info? 119).map (·.size) = some (tabTo 256).size := by rw [tabTo_size]; exact size_tab
      have hb : Below w.heap.size w ((w.alloc (.cells (tabTo 0) 119)).alloc (.cells (tabTo 256) 119)) := ((Below.refl _ _).alloc (Nat.le_refl _) _).alloc (by simp) _
      have G1 := Lib.hid g1; clear g1
      have G0 := Lib.hid g0; clear g0
      have S := Lib.hid hsz; clear hsz
      have Z := Lib.hid hz; clear hz
      generalize (w.alloc (.cells (tabTo 0) 119)).alloc (.cells (tabTo 256) 119) = w1 at *
      go_wp2_with (first
        | (refine wpList_load_row rfl 119 _ rfl (w.heap.size + 1) rfl 119 _ (0, 0) _ G1.out Tryd.underlying119 rfl S.out ?_)
        | (refine wpList_store_whole rfl 119 _ _ rfl rfl w.heap.size rfl (tabTo 256) rfl 119 (tabTo 0) G0.out S.out (by rw [tabTo_size, tabTo_size]) (tabTo_one 256) ?_))
      exact bodyPost_ret (results_cell_row rfl _ _ w.heap.size _ _ (0, 0) _ rfl (heap_setRow_same G0.out _) Tryd.underlying119 rfl S.out) rfl ⟨rfl, belowRow hb (Nat.le_refl _) _⟩
end Go.Proofs.YthmfbcfbcookiaaDoor
