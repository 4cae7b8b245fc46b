/-
  The marked copies of lists of int64, of int8, and are the marks there; the text of a mark: the walks. Conditions: lengths within 10 ^ 9.
-/
import Derived.Test.YtcmbdnjcfneinaaGreatDoorWdM
import Derived.Test.YtcmbdnjcfneinaaGreatDoorLay2
import Derived.Shelf.Strconv.Itoa3
import Derived.Lib.AppendIntMem
import Derived.Lib.ItoaLen
namespace Go.Proofs.YtcmbdnjcfneinaaGreatDoor
open Go.RowKit
theorem info_long : (Tryz.prog.info? 2).map (fun i => (i.zero, i.size, i.bytes)) = some (some (.int .i64 0), 1, 8) := by kernel_rfl
theorem info_small : (Tryz.prog.info? 80).map (fun i => (i.zero, i.size, i.bytes)) = some (some (.int .i8 0), 1, 1) := by kernel_rfl
set_option maxHeartbeats 1000000 in
theorem wideLongs_any (xs : List Int) (A : Option Addr) (cap : Nat) (w : World) (hx : Lies w w.heap.size A (xs.map (Value.int .i64))) (hl : xs.length ≤ 1000000000) :
    Calls Tryz.prog 24 #[.slice A xs.length cap] w fun e w' => e = .returned (.slice (some ⟨w.heap.size, 0, none⟩) xs.length (xs.length + 64)) ∧ Whole w' w.heap.size 2 (ints (wideL xs)) ∧ Keeps (fun _ => False) w w' := by
  have HX := Lib.hid hx; clear hx
  have hmk : ∀ w : World, (Instr.makeSlice 22 (.int .i64 ((xs.length : Int) + 64)) (.int .i64 ((xs.length : Int) + 64))).run Tryz.prog w = .ok (.slice (some ⟨w.heap.size, 0, none⟩) (xs.length + 64) (xs.length + 64)) (w.alloc (.cells (madeCells #[.int .i64 0] (xs.length + 64)) 2)) := fun w => run_make_row' 22 2 (.int .i64 0) 8 Tryz.underlying22 info_long rfl .i64 .i64 (xs.length + 64) (by omega) (by omega) w
  go_enter Tryz.func24, Tryz.ntmps24
  go_wp2_with fail
  clear hmk
  have HW0 : Hid (Whole (w.alloc (.cells (madeCells #[.int .i64 0] (xs.length + 64)) 2)) w.heap.size 2 (madeCells #[.int .i64 0] (xs.length + 64))) := Lib.hid (Whole.made w _ _)
  have HK0 : Hid (Keeps (fun b => b = w.heap.size) w (w.alloc (.cells (madeCells #[.int .i64 0] (xs.length + 64)) 2))) := Lib.hid ((Keeps.refl _ w).alloc _)
  have hms : (madeCells #[.int .i64 0] (xs.length + 64)).size = (ints (wideL xs)).size := by rw [size_madeCells, ints_size, wideL_length]
  go_loopw [4] (fun vi wr => ∃ (i : Nat) (cs : Array Value), i ≤ xs.length + 64 ∧ vi = .int .i64 i ∧ Hid (Filled (ints (wideL xs)) cs i) ∧ Hid (Whole wr w.heap.size 2 cs) ∧ Hid (Keeps (fun b => b = w.heap.size) w wr)) (fun vi _ => xs.length + 64 - (intOf vi).toNat)
  case atStart => exact ⟨0, _, by omega, rfl, Lib.hid (Filled.zero hms), HW0, HK0⟩
  case round =>
    clear HW0 HK0 hms
    obtain ⟨i, cs, hi, rfl, HF, HW, HK⟩ := hrel
    by_cases hlt : i < xs.length
    · obtain ⟨g, off, rfl, hg, hc⟩ := HX.out i (.int .i64 xs[i]) (by simp [hlt])
      have hc0 : wr.cell? ⟨g, off + i, none⟩ = some (.int .i64 xs[i]) := (HK.out.cell hg (by omega)).trans hc
      have hv := wideL_low xs i hlt
      obtain ⟨u, hu⟩ : ∃ u, wr.cell? ⟨w.heap.size, i, none⟩ = some u := ⟨_, (HW.out.cellAt i).trans (Array.getElem?_eq_getElem (by rw [HF.out.1, ints_size, wideL_length]; omega))⟩
      have hf := HW.out.free i
      have HF' := Lib.hid (HF.out.step hv)
      clear hc hv HF
      generalize xs[i] = x at *
      have HW' := Lib.hid (HW.out.put i (.int .i64 x))
      have HK' := Lib.hid (HK.out.setCell (p := ⟨w.heap.size, i, none⟩) (fun _ => rfl) (.int .i64 x))
      clear HW HK
      go_wp2_with fail
      go_roundw
      case rel => exact ⟨i + 1, _, by omega, by go_num, HF', HW', HK'⟩
      case measure => simp [intOf]; omega
    · by_cases hlt2 : i < xs.length + 64
      · obtain ⟨u, hu⟩ : ∃ u, wr.cell? ⟨w.heap.size, i, none⟩ = some u := ⟨_, (HW.out.cellAt i).trans (Array.getElem?_eq_getElem (by rw [HF.out.1, ints_size, wideL_length]; omega))⟩
        have hf := HW.out.free i
        have HF' := Lib.hid (HF.out.step (wideL_high xs i hlt hlt2))
        have HW' := Lib.hid (HW.out.put i (.int .i64 (1048576 * 9 + (i : Int) + 1)))
        have HK' := Lib.hid (HK.out.setCell (p := ⟨w.heap.size, i, none⟩) (fun _ => rfl) (.int .i64 (1048576 * 9 + (i : Int) + 1)))
        clear HF HW HK
        go_wp2_with fail
        refine (num_any 9 i _ (by omega) (by omega)).mono ?_
        rintro e w1 ⟨rfl, rfl⟩
        go_wp2_with fail
        go_roundw
        case rel => exact ⟨i + 1, _, by omega, by go_num, HF', HW', HK'⟩
        case measure => simp [intOf]; omega
      · obtain rfl : i = xs.length + 64 := by omega
        have hfull := HF.out.full (by rw [ints_size, wideL_length]; omega)
        subst hfull
        go_wp2_with fail
        go_ret
        exact ⟨rfl, HW.out, HK.out.mono (fun b hb e => absurd e (by omega))⟩
set_option maxHeartbeats 1000000 in
theorem spareLongs_any (g n : Nat) (cs : Array Value) (w : World) (hW : Whole w g 2 cs) (hl : n ≤ 1000000000) (hm : ∀ i, n ≤ i → i < n + 64 → cs[i]? = some (.int .i64 (1048576 * 9 + (i : Int) + 1))) :
    Calls Tryz.prog 48 #[.slice (some ⟨g, 0, none⟩) n (n + 64)] w fun e w' => e = .returned (.bool true) ∧ ∃ d, w' = w.drewN d := by
  have HW := Lib.hid hW; have HM := Lib.hid hm
  clear hW hm
  go_enter Tryz.func48, Tryz.ntmps48
  go_wp2_with fail
  go_loopw [4] (fun vi wr => ∃ i d : Nat, n ≤ i ∧ i ≤ n + 64 ∧ vi = .int .i64 i ∧ wr = w.drewN d) (fun vi _ => n + 64 - (intOf vi).toNat)
  case atStart => exact ⟨n, 0, by omega, by omega, rfl, rfl⟩
  case round =>
    obtain ⟨i, d, hn, hi, rfl, rfl⟩ := hrel
    by_cases hlt : i < n + 64
    · have hc : (w.drewN d).cell? ⟨g, i, none⟩ = some (.int .i64 (1048576 * 9 + (i : Int) + 1)) := (HW.out.cellAt i).trans (HM.out i hn hlt)
      have he : ((1048576 * 9 + (i : Int) + 1) == (1048576 * 9 + (i : Int) + 1)) = true := by simp
      go_wp2_with fail
      refine (num_any 9 i _ (by omega) (by omega)).mono ?_
      rintro e w1 ⟨rfl, rfl⟩
      go_wp2_with fail
      go_roundw
      case rel => exact ⟨i + 1, d, by omega, by omega, by go_num, rfl⟩
      case measure => simp [intOf]; omega
    · obtain rfl : i = n + 64 := by omega
      go_wp2_with fail
      go_ret
      exact ⟨rfl, d, rfl⟩
/-- The mark of a place, as an int8 holds it. -/
def markS (i : Nat) : Int := IntKind.i8.wrap (1048576 * 279 + 7 * (i : Int) + 1)
def smalls (l : List Int) : Array Value := (l.map (Value.int .i8)).toArray
theorem smalls_size (l : List Int) : (smalls l).size = l.length := by simp [smalls]
theorem smalls_get (l : List Int) (i : Nat) : (smalls l)[i]? = (l[i]?).map (Value.int .i8) := by simp [smalls]
def wideSm (xs : List Int) : List Int := xs ++ (List.range 64).map (fun i => markS (xs.length + i))
theorem wideSm_length (xs : List Int) : (wideSm xs).length = xs.length + 64 := by simp [wideSm]
theorem wideSm_low (xs : List Int) (i : Nat) (h : i < xs.length) : (smalls (wideSm xs))[i]? = some (.int .i8 xs[i]) := by
  rw [smalls_get, wideSm, List.getElem?_append_left h, List.getElem?_eq_getElem h]; rfl
theorem wideSm_high (xs : List Int) (i : Nat) (h : ¬ i < xs.length) (h2 : i < xs.length + 64) : (smalls (wideSm xs))[i]? = some (.int .i8 (markS i)) := by
  rw [smalls_get, wideSm, List.getElem?_append_right (by omega), List.getElem?_map, List.getElem?_range (by omega)]
  simp only [Option.map_some]
  rw [show xs.length + (i - xs.length) = i by omega]
set_option maxHeartbeats 1000000 in
theorem wideSmalls_any (xs : List Int) (A : Option Addr) (cap : Nat) (w : World) (hx : Lies w w.heap.size A (xs.map (Value.int .i8))) (hl : xs.length ≤ 1000000000) :
    Calls Tryz.prog 161 #[.slice A xs.length cap] w fun e w' => e = .returned (.slice (some ⟨w.heap.size, 0, none⟩) xs.length (xs.length + 64)) ∧ Whole w' w.heap.size 80 (smalls (wideSm xs)) ∧ Keeps (fun _ => False) w w' := by
  have HX := Lib.hid hx; clear hx
  have hmk : ∀ w : World, (Instr.makeSlice 41 (.int .i64 ((xs.length : Int) + 64)) (.int .i64 ((xs.length : Int) + 64))).run Tryz.prog w = .ok (.slice (some ⟨w.heap.size, 0, none⟩) (xs.length + 64) (xs.length + 64)) (w.alloc (.cells (madeCells #[.int .i8 0] (xs.length + 64)) 80)) := fun w => run_make_row' 41 80 (.int .i8 0) 1 Tryz.underlying41 info_small rfl .i64 .i64 (xs.length + 64) (by omega) (by omega) w
  go_enter Tryz.func161, Tryz.ntmps161
  go_wp2_with fail
  clear hmk
  have HW0 : Hid (Whole (w.alloc (.cells (madeCells #[.int .i8 0] (xs.length + 64)) 80)) w.heap.size 80 (madeCells #[.int .i8 0] (xs.length + 64))) := Lib.hid (Whole.made w _ _)
  have HK0 : Hid (Keeps (fun b => b = w.heap.size) w (w.alloc (.cells (madeCells #[.int .i8 0] (xs.length + 64)) 80))) := Lib.hid ((Keeps.refl _ w).alloc _)
  have hms : (madeCells #[.int .i8 0] (xs.length + 64)).size = (smalls (wideSm xs)).size := by rw [size_madeCells, smalls_size, wideSm_length]
  go_loopw [4] (fun vi wr => ∃ (i : Nat) (cs : Array Value), i ≤ xs.length + 64 ∧ vi = .int .i64 i ∧ Hid (Filled (smalls (wideSm xs)) cs i) ∧ Hid (Whole wr w.heap.size 80 cs) ∧ Hid (Keeps (fun b => b = w.heap.size) w wr)) (fun vi _ => xs.length + 64 - (intOf vi).toNat)
  case atStart => exact ⟨0, _, by omega, rfl, Lib.hid (Filled.zero hms), HW0, HK0⟩
  case round =>
    clear HW0 HK0 hms
    obtain ⟨i, cs, hi, rfl, HF, HW, HK⟩ := hrel
    by_cases hlt : i < xs.length
    · obtain ⟨g, off, rfl, hg, hc⟩ := HX.out i (.int .i8 xs[i]) (by simp [hlt])
      have hc0 : wr.cell? ⟨g, off + i, none⟩ = some (.int .i8 xs[i]) := (HK.out.cell hg (by omega)).trans hc
      have hv := wideSm_low xs i hlt
      obtain ⟨u, hu⟩ : ∃ u, wr.cell? ⟨w.heap.size, i, none⟩ = some u := ⟨_, (HW.out.cellAt i).trans (Array.getElem?_eq_getElem (by rw [HF.out.1, smalls_size, wideSm_length]; omega))⟩
      have hf := HW.out.free i
      have HF' := Lib.hid (HF.out.step hv)
      clear hc hv HF
      generalize xs[i] = x at *
      have HW' := Lib.hid (HW.out.put i (.int .i8 x))
      have HK' := Lib.hid (HK.out.setCell (p := ⟨w.heap.size, i, none⟩) (fun _ => rfl) (.int .i8 x))
      clear HW HK
      go_wp2_with fail
      go_roundw
      case rel => exact ⟨i + 1, _, by omega, by go_num, HF', HW', HK'⟩
      case measure => simp [intOf]; omega
    · by_cases hlt2 : i < xs.length + 64
      · obtain ⟨u, hu⟩ : ∃ u, wr.cell? ⟨w.heap.size, i, none⟩ = some u := ⟨_, (HW.out.cellAt i).trans (Array.getElem?_eq_getElem (by rw [HF.out.1, smalls_size, wideSm_length]; omega))⟩
        have hf := HW.out.free i
        have HF' := Lib.hid (HF.out.step (wideSm_high xs i hlt hlt2))
        have HW' := Lib.hid (HW.out.put i (.int .i8 (markS i)))
        have HK' := Lib.hid (HK.out.setCell (p := ⟨w.heap.size, i, none⟩) (fun _ => rfl) (.int .i8 (markS i)))
        clear HF HW HK
        go_wp2_with fail
        refine (num_any 279 (7 * (i : Int)) _ (by omega) (by omega)).mono ?_
        rintro e w1 ⟨rfl, rfl⟩
        go_wp2_with fail
        go_roundw
        case rel => exact ⟨i + 1, _, by omega, by go_num, HF', HW', HK'⟩
        case measure => simp [intOf]; omega
      · obtain rfl : i = xs.length + 64 := by omega
        have hfull := HF.out.full (by rw [smalls_size, wideSm_length]; omega)
        subst hfull
        go_wp2_with fail
        go_ret
        exact ⟨rfl, HW.out, HK.out.mono (fun b hb e => absurd e (by omega))⟩
set_option maxHeartbeats 1000000 in
theorem spareSmalls_any (g n : Nat) (cs : Array Value) (w : World) (hW : Whole w g 80 cs) (hl : n ≤ 1000000000) (hm : ∀ i, n ≤ i → i < n + 64 → cs[i]? = some (.int .i8 (markS i))) :
    Calls Tryz.prog 163 #[.slice (some ⟨g, 0, none⟩) n (n + 64)] w fun e w' => e = .returned (.bool true) ∧ ∃ d, w' = w.drewN d := by
  have HW := Lib.hid hW; have HM := Lib.hid hm
  clear hW hm
  go_enter Tryz.func163, Tryz.ntmps163
  go_wp2_with fail
  go_loopw [4] (fun vi wr => ∃ i d : Nat, n ≤ i ∧ i ≤ n + 64 ∧ vi = .int .i64 i ∧ wr = w.drewN d) (fun vi _ => n + 64 - (intOf vi).toNat)
  case atStart => exact ⟨n, 0, by omega, by omega, rfl, rfl⟩
  case round =>
    obtain ⟨i, d, hn, hi, rfl, rfl⟩ := hrel
    by_cases hlt : i < n + 64
    · have hc : (w.drewN d).cell? ⟨g, i, none⟩ = some (.int .i8 (markS i)) := (HW.out.cellAt i).trans (HM.out i hn hlt)
      have he : (markS i == IntKind.i8.wrap (292552704 + 7 * (i : Int) + 1)) = true := beq_self_eq_true (markS i)
      go_wp2_with fail
      refine (num_any 279 (7 * (i : Int)) _ (by omega) (by omega)).mono ?_
      rintro e w1 ⟨rfl, rfl⟩
      go_wp2_with fail
      exact ⟨⟨i + 1, d, by omega, by omega, by go_num, rfl⟩, by simp [intOf]; omega⟩
    · obtain rfl : i = n + 64 := by omega
      go_wp2_with fail
      go_ret
      exact ⟨rfl, d, rfl⟩
/-- The table of powers of ten, as the library lays it. -/
def Pow (w : World) : Prop := Lib.TabIs Tryz.prog w "internal/strconv.uint64pow10" .u64 Lib.pow10Tab
theorem Pow.past {w w' : World} (h : Pow w) (hk : Keeps (fun _ => False) w w') : Pow w' := Lib.tabBelow_of_tabIs h w' (hk.below (Nat.le_refl _) (fun _ h => h.elim))
theorem Pow.below {w w' : World} (h : Pow w) (hb : Below w.heap.size w w') : Pow w' := Lib.tabBelow_of_tabIs h w' hb
theorem grow_keeps (w : World) (k : Nat) (os : Array Obj) : Keeps (fun _ => False) w (Sort.grow (w.drewN k) os) :=
  ⟨rfl, rfl, rfl, by simp [Sort.grow], fun i hi _ => by simp [Sort.grow, Array.getElem?_append_left hi]⟩
/-- The mark of a place, as a string. -/
def markT (i : Nat) : ByteArray := (ByteArray.mk #[33]) ++ ByteArray.mk (Lib.itoa (9437184 + (i : Int) + 1)).toArray
set_option maxRecDepth 4000 in
set_option maxHeartbeats 1000000 in
theorem text_any (i : Nat) (w : World) (hi : i ≤ 1000000000000) (hp : Pow w) :
    Calls Tryz.prog 87 #[.int .i64 9, .int .i64 i] w fun e w' => e = .returned (.string (markT i)) ∧ Keeps (fun _ => False) w w' := by
  have HC := fun (w : World) (h : Lib.TabIs Tryz.prog w "internal/strconv.uint64pow10" .u64 Lib.pow10Tab) => Any.strconv_Itoa Tryz.layNm171 (9437184 + (i : Int) + 1) (by omega) (by omega) w h
  obtain ⟨m, hm⟩ : ∃ m, m = ByteArray.mk (Lib.itoa (9437184 + (i : Int) + 1)).toArray := ⟨_, rfl⟩
  have HM : Hid (markT i = ByteArray.mk #[33] ++ m) := Lib.hid (by rw [hm]; rfl)
  have hms : m.size ≤ 21 := by rw [hm]; exact Lib.itoa_length_le (9437184 + (i : Int) + 1) (by omega) (by omega)
  rw [← hm] at HC
  have HP := Lib.hid hp
  clear hp hm
  go_enter Tryz.func87, Tryz.ntmps87
  go_wp2_with fail
  refine (num_any 9 i _ (by omega) (by omega)).mono ?_
  rintro e w1 ⟨rfl, rfl⟩
  go_wp2_with fail
  refine (HC _ HP.out).mono ?_
  rintro e w1 ⟨rfl, k, os, rfl⟩
  clear HC
  go_wp2_with fail
  go_ret
  exact ⟨by rw [HM.out]; rfl, grow_keeps _ _ _⟩
end Go.Proofs.YtcmbdnjcfneinaaGreatDoor
