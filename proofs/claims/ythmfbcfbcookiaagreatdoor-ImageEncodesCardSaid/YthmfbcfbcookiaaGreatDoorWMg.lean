/-
  The marked copies of a list of numbers, and are the marks there: the walks. Conditions: a length within 2 ^ 40.
-/
import Derived.Test.YthmfbcfbcookiaaGreatDoorMem
import Derived.Test.YthmfbcfbcookiaaGreatDoorProg
import Derived.WalkKit
import Derived.Deep.OwnRows
import Derived.LoopN
import Derived.Test.YthmfbcfbcookiaaGreatDoorKeep
namespace Go.Proofs.YthmfbcfbcookiaaGreatDoor
open Go.RowKit
theorem info_int : (Tryz.prog.info? 3).map (fun i => (i.zero, i.size, i.bytes)) = some (some (.int .i64 0), 1, 8) := by kernel_rfl
theorem num_any (n i : Int) (w : World) (hn : 0 ≤ n ∧ n ≤ 1000000) (hi : 0 ≤ i ∧ i ≤ 1000000000000) : Calls Tryz.prog 65 #[.int .i64 n, .int .i64 i] w fun e w' => e = .returned (.int .i64 (1048576 * n + i + 1)) ∧ w = w' := by
  go_enter Tryz.func65, Tryz.ntmps65
  go_wp2_with fail
  go_ret
  exact ⟨rfl, rfl⟩
theorem num_same (n i : Int) (w : World) (hn : 0 ≤ n ∧ n ≤ 1000000) (hi : 0 ≤ i ∧ i ≤ 1000000000000) : Calls Tryz.prog 65 #[.int .i64 n, .int .i64 i] w fun e w' => e = .returned (.int .i64 (1048576 * n + i + 1)) ∧ w' = w := (num_any n i w hn hi).mono fun _ _ h => ⟨h.1, h.2.symm⟩
/-- A list with marks behind it. -/
def wideL (xs : List Int) : List Int := xs ++ (List.range 64).map (fun i => 1048576 * 9 + ((xs.length + i : Nat) : Int) + 1)
theorem wideL_length (xs : List Int) : (wideL xs).length = xs.length + 64 := by simp [wideL]
theorem wideL_low (xs : List Int) (i : Nat) (h : i < xs.length) : (ints (wideL xs))[i]? = some (.int .i64 xs[i]) := by
  rw [ints_get, wideL, List.getElem?_append_left h, List.getElem?_eq_getElem h]; rfl
theorem wideL_high (xs : List Int) (i : Nat) (h : ¬ i < xs.length) (h2 : i < xs.length + 64) : (ints (wideL xs))[i]? = some (.int .i64 (1048576 * 9 + (i : Int) + 1)) := by
  rw [ints_get, wideL, List.getElem?_append_right (by omega), List.getElem?_map, List.getElem?_range (by omega)]
  simp only [Option.map_some]
  rw [show xs.length + (i - xs.length) = i by omega]
/-- The first i cells are those of the other. -/
def Filled (full : Array Value) (cs : Array Value) (i : Nat) : Prop := cs.size = full.size ∧ ∀ j, j < i → cs[j]? = full[j]?
theorem Filled.zero {full cs : Array Value} (h : cs.size = full.size) : Filled full cs 0 := ⟨h, fun _ hj => absurd hj (Nat.not_lt_zero _)⟩
theorem Filled.step {full cs : Array Value} {i : Nat} {v : Value} (h : Filled full cs i) (hv : full[i]? = some v) : Filled full (cs.setIfInBounds i v) (i + 1) := by
  have hi : i < full.size := (Array.getElem?_eq_some_iff.1 hv).1
  refine ⟨by rw [Array.size_setIfInBounds]; exact h.1, fun j hj => ?_⟩
  rw [Array.getElem?_setIfInBounds]
  by_cases e : i = j
  · subst e; rw [if_pos rfl, if_pos (by rw [h.1]; exact hi), hv]
  · rw [if_neg e]; exact h.2 j (by omega)
theorem Filled.full {full cs : Array Value} {i : Nat} (h : Filled full cs i) (hi : full.size ≤ i) : cs = full := by
  apply Array.ext_getElem?
  intro j
  by_cases hj : j < i
  · exact h.2 j hj
  · rw [Array.getElem?_eq_none (by have := h.1; omega), Array.getElem?_eq_none (by omega)]
set_option maxHeartbeats 1000000 in
theorem wideInts_any (xs : List Int) (A : Option Addr) (cap : Nat) (w : World) (hx : Lies w w.heap.size A (xs.map (Value.int .i64))) (hl : xs.length ≤ 1000000000) :
    Calls Tryz.prog 66 #[.slice A xs.length cap] w fun e w' => e = .returned (.slice (some ⟨w.heap.size, 0, none⟩) xs.length (xs.length + 64)) ∧ Whole w' w.heap.size 3 (ints (wideL xs)) ∧ Keeps (fun _ => False) w w' := by
  have HX := Lib.hid hx; clear hx
  have hmk : ∀ w : World, (Instr.makeSlice 90 (.int .i64 ((xs.length : Int) + 64)) (.int .i64 ((xs.length : Int) + 64))).run Tryz.prog w = .ok (.slice (some ⟨w.heap.size, 0, none⟩) (xs.length + 64) (xs.length + 64)) (w.alloc (.cells (madeCells #[.int .i64 0] (xs.length + 64)) 3)) := fun w => run_make_row' 90 3 (.int .i64 0) 8 Tryz.underlying90 info_int rfl .i64 .i64 (xs.length + 64) (by omega) (by omega) w
  go_enter Tryz.func66, Tryz.ntmps66
  go_wp2_with fail
  clear hmk
  have HW0 : Hid (Whole (w.alloc (.cells (madeCells #[.int .i64 0] (xs.length + 64)) 3)) w.heap.size 3 (madeCells #[.int .i64 0] (xs.length + 64))) := Lib.hid (Whole.made w _ _)
  have HK0 : Hid (Keeps (fun b => b = w.heap.size) w (w.alloc (.cells (madeCells #[.int .i64 0] (xs.length + 64)) 3))) := Lib.hid ((Keeps.refl _ w).alloc _)
  have hms : (madeCells #[.int .i64 0] (xs.length + 64)).size = (ints (wideL xs)).size := by rw [size_madeCells, ints_size, wideL_length]
  go_loopw [4] (fun vi wr => ∃ (i : Nat) (cs : Array Value), i ≤ xs.length + 64 ∧ vi = .int .i64 i ∧ Hid (Filled (ints (wideL xs)) cs i) ∧ Hid (Whole wr w.heap.size 3 cs) ∧ Hid (Keeps (fun b => b = w.heap.size) w wr)) (fun vi _ => xs.length + 64 - (intOf vi).toNat)
  case atStart => exact ⟨0, _, by omega, rfl, Lib.hid (Filled.zero hms), HW0, HK0⟩
  case round =>
    clear HW0 HK0 hms
    obtain ⟨i, cs, hi, rfl, HF, HW, HK⟩ := hrel
    by_cases hlt : i < xs.length
    · obtain ⟨g, off, rfl, hg, hc⟩ := HX.out i (.int .i64 xs[i]) (by simp [hlt])
      have hc0 : wr.cell? ⟨g, off + i, none⟩ = some (.int .i64 xs[i]) := (HK.out.cell hg (by omega)).trans hc
      have hv := wideL_low xs i hlt
      obtain ⟨u, hu⟩ : ∃ u, wr.cell? ⟨w.heap.size, i, none⟩ = some u := ⟨_, (HW.out.cellAt i).trans (Array.getElem?_eq_getElem (by rw [HF.out.1, ints_size, wideL_length]; omega))⟩
      have hf := HW.out.free i
      have HF' := Lib.hid (HF.out.step hv)
      clear hc hv HF
      generalize xs[i] = x at *
      have HW' := Lib.hid (HW.out.put i (.int .i64 x))
      have HK' := Lib.hid (HK.out.setCell (p := ⟨w.heap.size, i, none⟩) (fun _ => rfl) (.int .i64 x))
      clear HW HK
      go_wp2_with fail
      go_roundw
      case rel => exact ⟨i + 1, _, by omega, by go_num, HF', HW', HK'⟩
      case measure => simp [intOf]; omega
    · by_cases hlt2 : i < xs.length + 64
      · obtain ⟨u, hu⟩ : ∃ u, wr.cell? ⟨w.heap.size, i, none⟩ = some u := ⟨_, (HW.out.cellAt i).trans (Array.getElem?_eq_getElem (by rw [HF.out.1, ints_size, wideL_length]; omega))⟩
        have hf := HW.out.free i
        have HF' := Lib.hid (HF.out.step (wideL_high xs i hlt hlt2))
        have HW' := Lib.hid (HW.out.put i (.int .i64 (1048576 * 9 + (i : Int) + 1)))
        have HK' := Lib.hid (HK.out.setCell (p := ⟨w.heap.size, i, none⟩) (fun _ => rfl) (.int .i64 (1048576 * 9 + (i : Int) + 1)))
        clear HF HW HK
        go_wp2_with fail
        refine (num_any 9 i _ (by omega) (by omega)).mono ?_
        rintro e w1 ⟨rfl, rfl⟩
        go_wp2_with fail
        go_roundw
        case rel => exact ⟨i + 1, _, by omega, by go_num, HF', HW', HK'⟩
        case measure => simp [intOf]; omega
      · obtain rfl : i = xs.length + 64 := by omega
        have hfull := HF.out.full (by rw [ints_size, wideL_length]; omega)
        subst hfull
        go_wp2_with fail
        go_ret
        exact ⟨rfl, HW.out, HK.out.mono (fun b hb e => absurd e (by omega))⟩
end Go.Proofs.YthmfbcfbcookiaaGreatDoor
/-
  Do the marks stand behind a list of numbers: the walk. Conditions: a length within 10 ^ 9.
-/
namespace Go.Proofs.YthmfbcfbcookiaaGreatDoor
open Go.RowKit
set_option maxHeartbeats 1000000 in
theorem spareInts_any (g n : Nat) (cs : Array Value) (w : World) (hW : Whole w g 3 cs) (hl : n ≤ 1000000000) (hm : ∀ i, n ≤ i → i < n + 64 → cs[i]? = some (.int .i64 (1048576 * 9 + (i : Int) + 1))) :
    Calls Tryz.prog 77 #[.slice (some ⟨g, 0, none⟩) n (n + 64)] w fun e w' => e = .returned (.bool true) ∧ ∃ d, w' = w.drewN d := by
  have HW := Lib.hid hW; have HM := Lib.hid hm
  clear hW hm
  go_enter Tryz.func77, Tryz.ntmps77
  go_wp2_with fail
  go_loopw [4] (fun vi wr => ∃ i d : Nat, n ≤ i ∧ i ≤ n + 64 ∧ vi = .int .i64 i ∧ wr = w.drewN d) (fun vi _ => n + 64 - (intOf vi).toNat)
  case atStart => exact ⟨n, 0, by omega, by omega, rfl, rfl⟩
  case round =>
    obtain ⟨i, d, hn, hi, rfl, rfl⟩ := hrel
    by_cases hlt : i < n + 64
    · have hc : (w.drewN d).cell? ⟨g, i, none⟩ = some (.int .i64 (1048576 * 9 + (i : Int) + 1)) := (HW.out.cellAt i).trans (HM.out i hn hlt)
      have he : ((1048576 * 9 + (i : Int) + 1) == (1048576 * 9 + (i : Int) + 1)) = true := by simp
      go_wp2_with fail
      refine (num_any 9 i _ (by omega) (by omega)).mono ?_
      rintro e w1 ⟨rfl, rfl⟩
      go_wp2_with fail
      go_roundw
      case rel => exact ⟨i + 1, d, by omega, by omega, by go_num, rfl⟩
      case measure => simp [intOf]; omega
    · obtain rfl : i = n + 64 := by omega
      go_wp2_with fail
      go_ret
      exact ⟨rfl, d, rfl⟩
end Go.Proofs.YthmfbcfbcookiaaGreatDoor
