/-
  The marked copies of lists of int64, of int8, and are the marks there; the text of a mark: the walks. Conditions: lengths within 10 ^ 9.
-/
import Derived.Test.YtcmbdnjcfneinaaGreatDoorWdM
import Derived.Test.YtcmbdnjcfneinaaGreatDoorLay2
import Derived.Shelf.Strconv.Itoa3
import Derived.Lib.AppendIntMem
import Derived.Lib.ItoaLen
import Derived.Test.YtcmbdnjcfneinaaGreatDoorWvMa
import Derived.Test.YtcmbdnjcfneinaaGreatDoorPkM
namespace Go.Proofs.YtcmbdnjcfneinaaGreatDoor
open Go.RowKit
theorem info_long : (Tryz.prog.info? 2).map (fun i => (i.zero, i.size, i.bytes)) = some (some (.int .i64 0), 1, 8) := by kernel_rfl
theorem info_small : (Tryz.prog.info? 80).map (fun i => (i.zero, i.size, i.bytes)) = some (some (.int .i8 0), 1, 1) := by kernel_rfl
set_option maxHeartbeats 1000000 in
theorem wideLongs_any (xs : List Int) (A : Option Addr) (cap : Nat) (w : World) (hx : Lies w w.heap.size A (xs.map (Value.int .i64))) (hl : xs.length ≤ 1000000000) :
    Calls Tryz.prog 24 #[.slice A xs.length cap] w fun e w' => e = .returned (.slice (some ⟨w.heap.size, 0, none⟩) xs.length (xs.length + 64)) ∧ Whole w' w.heap.size 2 (ints (wideL xs)) ∧ Keeps (fun _ => False) w w' := by
  have HX := Lib.hid hx; clear hx
  have hmk : ∀ w : World, (Instr.makeSlice 22 (.int .i64 ((xs.length : Int) + 64)) (.int .i64 ((xs.length : Int) + 64))).run Tryz.prog w = .ok (.slice (some ⟨w.heap.size, 0, none⟩) (xs.length + 64) (xs.length + 64)) (w.alloc (.cells (madeCells #[.int .i64 0] (xs.length + 64)) 2)) := fun w => run_make_row' 22 2 (.int .i64 0) 8 Tryz.underlying22 info_long rfl .i64 .i64 (xs.length + 64) (by omega) (by omega) w
  go_enter Tryz.func24, Tryz.ntmps24
  go_wp2_with fail
  clear hmk
  have HW0 : Hid (Whole (w.alloc (.cells (madeCells #[.int .i64 0] (xs.length + 64)) 2)) w.heap.size 2 (madeCells #[.int .i64 0] (xs.length + 64))) := Lib.hid (Whole.made w _ _)
  have HK0 : Hid (Keeps (fun b => b = w.heap.size) w (w.alloc (.cells (madeCells #[.int .i64 0] (xs.length + 64)) 2))) := Lib.hid ((Keeps.refl _ w).alloc _)
  have hms : (madeCells #[.int .i64 0] (xs.length + 64)).size = (ints (wideL xs)).size := by rw [size_madeCells, ints_size, wideL_length]
  go_loopw [4] (fun vi wr => ∃ (i : Nat) (cs : Array Value), i ≤ xs.length + 64 ∧ vi = .int .i64 i ∧ Hid (Filled (ints (wideL xs)) cs i) ∧ Hid (Whole wr w.heap.size 2 cs) ∧ Hid (Keeps (fun b => b = w.heap.size) w wr)) (fun vi _ => xs.length + 64 - (intOf vi).toNat)
  case atStart => exact ⟨0, _, by omega, rfl, Lib.hid (Filled.zero hms), HW0, HK0⟩
  case round =>
    clear HW0 HK0 hms
    obtain ⟨i, cs, hi, rfl, HF, HW, HK⟩ := hrel
    by_cases hlt : i < xs.length
    · obtain ⟨g, off, rfl, hg, hc⟩ := HX.out i (.int .i64 xs[i]) (by simp [hlt])
      have hc0 : wr.cell? ⟨g, off + i, none⟩ = some (.int .i64 xs[i]) := (HK.out.cell hg (by omega)).trans hc
      have hv := wideL_low xs i hlt
      obtain ⟨u, hu⟩ : ∃ u, wr.cell? ⟨w.heap.size, i, none⟩ = some u := ⟨_, (HW.out.cellAt i).trans (Array.getElem?_eq_getElem (by rw [HF.out.1, ints_size, wideL_length]; omega))⟩
      have hf := HW.out.free i
      have HF' := Lib.hid (HF.out.step hv)
      clear hc hv HF
      generalize xs[i] = x at *
      have HW' := Lib.hid (HW.out.put i (.int .i64 x))
      have HK' := Lib.hid (HK.out.setCell (p := ⟨w.heap.size, i, none⟩) (fun _ => rfl) (.int .i64 x))
      clear HW HK
      go_wp2_with fail
      go_roundw
      case rel => exact ⟨i + 1, _, by omega, by go_num, HF', HW', HK'⟩
      case measure => simp [intOf]; omega
    · by_cases hlt2 : i < xs.length + 64
      · obtain ⟨u, hu⟩ : ∃ u, wr.cell? ⟨w.heap.size, i, none⟩ = some u := ⟨_, (HW.out.cellAt i).trans (Array.getElem?_eq_getElem (by rw [HF.out.1, ints_size, wideL_length]; omega))⟩
        have hf := HW.out.free i
        have HF' := Lib.hid (HF.out.step (wideL_high xs i hlt hlt2))
        have HW' := Lib.hid (HW.out.put i (.int .i64 (1048576 * 9 + (i : Int) + 1)))
        have HK' := Lib.hid (HK.out.setCell (p := ⟨w.heap.size, i, none⟩) (fun _ => rfl) (.int .i64 (1048576 * 9 + (i : Int) + 1)))
        clear HF HW HK
        go_wp2_with fail
        refine (num_any 9 i _ (by omega) (by omega)).mono ?_
        rintro e w1 ⟨rfl, rfl⟩
        go_wp2_with fail
        go_roundw
        case rel => exact ⟨i + 1, _, by omega, by go_num, HF', HW', HK'⟩
        case measure => simp [intOf]; omega
      · obtain rfl : i = xs.length + 64 := by omega
        have hfull := HF.out.full (by rw [ints_size, wideL_length]; omega)
        subst hfull
        go_wp2_with fail
        go_ret
        exact ⟨rfl, HW.out, HK.out.mono (fun b hb e => absurd e (by omega))⟩
set_option maxHeartbeats 1000000 in
theorem spareLongs_any (g n : Nat) (cs : Array Value) (w : World) (hW : Whole w g 2 cs) (hl : n ≤ 1000000000) (hm : ∀ i, n ≤ i → i < n + 64 → cs[i]? = some (.int .i64 (1048576 * 9 + (i : Int) + 1))) :
    Calls Tryz.prog 48 #[.slice (some ⟨g, 0, none⟩) n (n + 64)] w fun e w' => e = .returned (.bool true) ∧ ∃ d, w' = w.drewN d := by
  have HW := Lib.hid hW; have HM := Lib.hid hm
  clear hW hm
  go_enter Tryz.func48, Tryz.ntmps48
  go_wp2_with fail
  go_loopw [4] (fun vi wr => ∃ i d : Nat, n ≤ i ∧ i ≤ n + 64 ∧ vi = .int .i64 i ∧ wr = w.drewN d) (fun vi _ => n + 64 - (intOf vi).toNat)
  case atStart => exact ⟨n, 0, by omega, by omega, rfl, rfl⟩
  case round =>
    obtain ⟨i, d, hn, hi, rfl, rfl⟩ := hrel
    by_cases hlt : i < n + 64
    · have hc : (w.drewN d).cell? ⟨g, i, none⟩ = some (.int .i64 (1048576 * 9 + (i : Int) + 1)) := (HW.out.cellAt i).trans (HM.out i hn hlt)
      have he : ((1048576 * 9 + (i : Int) + 1) == (1048576 * 9 + (i : Int) + 1)) = true := by simp
      go_wp2_with fail
      refine (num_any 9 i _ (by omega) (by omega)).mono ?_
      rintro e w1 ⟨rfl, rfl⟩
      go_wp2_with fail
      go_roundw
      case rel => exact ⟨i + 1, d, by omega, by omega, by go_num, rfl⟩
      case measure => simp [intOf]; omega
    · obtain rfl : i = n + 64 := by omega
      go_wp2_with fail
      go_ret
      exact ⟨rfl, d, rfl⟩
/-- The mark of a place, as an int8 holds it. -/
def markS (i : Nat) : Int := IntKind.i8.wrap (1048576 * 279 + 7 * (i : Int) + 1)
def smalls (l : List Int) : Array Value := (l.map (Value.int .i8)).toArray
theorem smalls_size (l : List Int) : (smalls l).size = l.length := by simp [smalls]
theorem smalls_get (l : List Int) (i : Nat) : (smalls l)[i]? = (l[i]?).map (Value.int .i8) := by simp [smalls]
def wideSm (xs : List Int) : List Int := xs ++ (List.range 64).map (fun i => markS (xs.length + i))
theorem wideSm_length (xs : List Int) : (wideSm xs).length = xs.length + 64 := by simp [wideSm]
theorem wideSm_low (xs : List Int) (i : Nat) (h : i < xs.length) : (smalls (wideSm xs))[i]? = some (.int .i8 xs[i]) := by
  rw [smalls_get, wideSm, List.getElem?_append_left h, List.getElem?_eq_getElem h]; rfl
theorem wideSm_high (xs : List Int) (i : Nat) (h : ¬ i < xs.length) (h2 : i < xs.length + 64) : (smalls (wideSm xs))[i]? = some (.int .i8 (markS i)) := by
  rw [smalls_get, wideSm, List.getElem?_append_right (by omega), List.getElem?_map, List.getElem?_range (by omega)]
  simp only [Option.map_some]
  rw [show xs.length + (i - xs.length) = i by omega]
set_option maxHeartbeats 1000000 in
theorem wideSmalls_any (xs : List Int) (A : Option Addr) (cap : Nat) (w : World) (hx : Lies w w.heap.size A (xs.map (Value.int .i8))) (hl : xs.length ≤ 1000000000) :
    Calls Tryz.prog 161 #[.slice A xs.length cap] w fun e w' => e = .returned (.slice (some ⟨w.heap.size, 0, none⟩) xs.length (xs.length + 64)) ∧ Whole w' w.heap.size 80 (smalls (wideSm xs)) ∧ Keeps (fun _ => False) w w' := by
  have HX := Lib.hid hx; clear hx
  have hmk : ∀ w : World, (Instr.makeSlice 41 (.int .i64 ((xs.length : Int) + 64)) (.int .i64 ((xs.length : Int) + 64))).run Tryz.prog w = .ok (.slice (some ⟨w.heap.size, 0, none⟩) (xs.length + 64) (xs.length + 64)) (w.alloc (.cells (madeCells #[.int .i8 0] (xs.length + 64)) 80)) := fun w => run_make_row' 41 80 (.int .i8 0) 1 Tryz.underlying41 info_small rfl .i64 .i64 (xs.length + 64) (by omega) (by omega) w
  go_enter Tryz.func161, Tryz.ntmps161
  go_wp2_with fail
  clear hmk
  have HW0 : Hid (Whole (w.alloc (.cells (madeCells #[.int .i8 0] (xs.length + 64)) 80)) w.heap.size 80 (madeCells #[.int .i8 0] (xs.length + 64))) := Lib.hid (Whole.made w _ _)
  have HK0 : Hid (Keeps (fun b => b = w.heap.size) w (w.alloc (.cells (madeCells #[.int .i8 0] (xs.length + 64)) 80))) := Lib.hid ((Keeps.refl _ w).alloc _)
  have hms : (madeCells #[.int .i8 0] (xs.length + 64)).size = (smalls (wideSm xs)).size := by rw [size_madeCells, smalls_size, wideSm_length]
  go_loopw [4] (fun vi wr => ∃ (i : Nat) (cs : Array Value), i ≤ xs.length + 64 ∧ vi = .int .i64 i ∧ Hid (Filled (smalls (wideSm xs)) cs i) ∧ Hid (Whole wr w.heap.size 80 cs) ∧ Hid (Keeps (fun b => b = w.heap.size) w wr)) (fun vi _ => xs.length + 64 - (intOf vi).toNat)
  case atStart => exact ⟨0, _, by omega, rfl, Lib.hid (Filled.zero hms), HW0, HK0⟩
  case round =>
    clear HW0 HK0 hms
    obtain ⟨i, cs, hi, rfl, HF, HW, HK⟩ := hrel
    by_cases hlt : i < xs.length
    · obtain ⟨g, off, rfl, hg, hc⟩ := HX.out i (.int .i8 xs[i]) (by simp [hlt])
      have hc0 : wr.cell? ⟨g, off + i, none⟩ = some (.int .i8 xs[i]) := (HK.out.cell hg (by omega)).trans hc
      have hv := wideSm_low xs i hlt
      obtain ⟨u, hu⟩ : ∃ u, wr.cell? ⟨w.heap.size, i, none⟩ = some u := ⟨_, (HW.out.cellAt i).trans (Array.getElem?_eq_getElem (by rw [HF.out.1, smalls_size, wideSm_length]; omega))⟩
      have hf := HW.out.free i
      have HF' := Lib.hid (HF.out.step hv)
      clear hc hv HF
      generalize xs[i] = x at *
      have HW' := Lib.hid (HW.out.put i (.int .i8 x))
      have HK' := Lib.hid (HK.out.setCell (p := ⟨w.heap.size, i, none⟩) (fun _ => rfl) (.int .i8 x))
      clear HW HK
      go_wp2_with fail
      go_roundw
      case rel => exact ⟨i + 1, _, by omega, by go_num, HF', HW', HK'⟩
      case measure => simp [intOf]; omega
    · by_cases hlt2 : i < xs.length + 64
      · obtain ⟨u, hu⟩ : ∃ u, wr.cell? ⟨w.heap.size, i, none⟩ = some u := ⟨_, (HW.out.cellAt i).trans (Array.getElem?_eq_getElem (by rw [HF.out.1, smalls_size, wideSm_length]; omega))⟩
        have hf := HW.out.free i
        have HF' := Lib.hid (HF.out.step (wideSm_high xs i hlt hlt2))
        have HW' := Lib.hid (HW.out.put i (.int .i8 (markS i)))
        have HK' := Lib.hid (HK.out.setCell (p := ⟨w.heap.size, i, none⟩) (fun _ => rfl) (.int .i8 (markS i)))
        clear HF HW HK
        go_wp2_with fail
        refine (num_any 279 (7 * (i : Int)) _ (by omega) (by omega)).mono ?_
        rintro e w1 ⟨rfl, rfl⟩
        go_wp2_with fail
        go_roundw
        case rel => exact ⟨i + 1, _, by omega, by go_num, HF', HW', HK'⟩
        case measure => simp [intOf]; omega
      · obtain rfl : i = xs.length + 64 := by omega
        have hfull := HF.out.full (by rw [smalls_size, wideSm_length]; omega)
        subst hfull
        go_wp2_with fail
        go_ret
        exact ⟨rfl, HW.out, HK.out.mono (fun b hb e => absurd e (by omega))⟩
set_option maxHeartbeats 1000000 in
theorem spareSmalls_any (g n : Nat) (cs : Array Value) (w : World) (hW : Whole w g 80 cs) (hl : n ≤ 1000000000) (hm : ∀ i, n ≤ i → i < n + 64 → cs[i]? = some (.int .i8 (markS i))) :
    Calls Tryz.prog 163 #[.slice (some ⟨g, 0, none⟩) n (n + 64)] w fun e w' => e = .returned (.bool true) ∧ ∃ d, w' = w.drewN d := by
  have HW := Lib.hid hW; have HM := Lib.hid hm
  clear hW hm
  go_enter Tryz.func163, Tryz.ntmps163
  go_wp2_with fail
  go_loopw [4] (fun vi wr => ∃ i d : Nat, n ≤ i ∧ i ≤ n + 64 ∧ vi = .int .i64 i ∧ wr = w.drewN d) (fun vi _ => n + 64 - (intOf vi).toNat)
  case atStart => exact ⟨n, 0, by omega, by omega, rfl, rfl⟩
  case round =>
    obtain ⟨i, d, hn, hi, rfl, rfl⟩ := hrel
    by_cases hlt : i < n + 64
    · have hc : (w.drewN d).cell? ⟨g, i, none⟩ = some (.int .i8 (markS i)) := (HW.out.cellAt i).trans (HM.out i hn hlt)
      have he : (markS i == IntKind.i8.wrap (292552704 + 7 * (i : Int) + 1)) = true := beq_self_eq_true (markS i)
      go_wp2_with fail
      refine (num_any 279 (7 * (i : Int)) _ (by omega) (by omega)).mono ?_
      rintro e w1 ⟨rfl, rfl⟩
      go_wp2_with fail
      exact ⟨⟨i + 1, d, by omega, by omega, by go_num, rfl⟩, by simp [intOf]; omega⟩
    · obtain rfl : i = n + 64 := by omega
      go_wp2_with fail
      go_ret
      exact ⟨rfl, d, rfl⟩
/-- The table of powers of ten, as the library lays it. -/
def Pow (w : World) : Prop := Lib.TabIs Tryz.prog w "internal/strconv.uint64pow10" .u64 Lib.pow10Tab
theorem Pow.past {w w' : World} (h : Pow w) (hk : Keeps (fun _ => False) w w') : Pow w' := Lib.tabBelow_of_tabIs h w' (hk.below (Nat.le_refl _) (fun _ h => h.elim))
theorem Pow.below {w w' : World} (h : Pow w) (hb : Below w.heap.size w w') : Pow w' := Lib.tabBelow_of_tabIs h w' hb
theorem grow_keeps (w : World) (k : Nat) (os : Array Obj) : Keeps (fun _ => False) w (Sort.grow (w.drewN k) os) :=
  ⟨rfl, rfl, rfl, by simp [Sort.grow], fun i hi _ => by simp [Sort.grow, Array.getElem?_append_left hi]⟩
/-- The mark of a place, as a string. -/
def markT (i : Nat) : ByteArray := (ByteArray.mk #[33]) ++ ByteArray.mk (Lib.itoa (9437184 + (i : Int) + 1)).toArray
set_option maxRecDepth 4000 in
set_option maxHeartbeats 1000000 in
theorem text_any (i : Nat) (w : World) (hi : i ≤ 1000000000000) (hp : Pow w) :
    Calls Tryz.prog 87 #[.int .i64 9, .int .i64 i] w fun e w' => e = .returned (.string (markT i)) ∧ Keeps (fun _ => False) w w' := by
  have HC := fun (w : World) (h : Lib.TabIs Tryz.prog w "internal/strconv.uint64pow10" .u64 Lib.pow10Tab) => Any.strconv_Itoa Tryz.layNm171 (9437184 + (i : Int) + 1) (by omega) (by omega) w h
  obtain ⟨m, hm⟩ : ∃ m, m = ByteArray.mk (Lib.itoa (9437184 + (i : Int) + 1)).toArray := ⟨_, rfl⟩
  have HM : Hid (markT i = ByteArray.mk #[33] ++ m) := Lib.hid (by rw [hm]; rfl)
  have hms : m.size ≤ 21 := by rw [hm]; exact Lib.itoa_length_le (9437184 + (i : Int) + 1) (by omega) (by omega)
  rw [← hm] at HC
  have HP := Lib.hid hp
  clear hp hm
  go_enter Tryz.func87, Tryz.ntmps87
  go_wp2_with fail
  refine (num_any 9 i _ (by omega) (by omega)).mono ?_
  rintro e w1 ⟨rfl, rfl⟩
  go_wp2_with fail
  refine (HC _ HP.out).mono ?_
  rintro e w1 ⟨rfl, k, os, rfl⟩
  clear HC
  go_wp2_with fail
  go_ret
  exact ⟨by rw [HM.out]; rfl, grow_keeps _ _ _⟩
end Go.Proofs.YtcmbdnjcfneinaaGreatDoor
/-
  The marked copies of lists of texts, of effects: what they are; and are the marks there: the walks. Conditions: lengths within 10 ^ 9.
-/
namespace Go.Proofs.YtcmbdnjcfneinaaGreatDoor
open Go.RowKit
theorem info_strW : (Tryz.prog.info? 9).map (fun i => (i.zero, i.size, i.bytes)) = some (some (.string ⟨#[]⟩), 1, 16) := by kernel_rfl
/-- A text's cell. -/
def ElT (_ : World) (_ : Nat) (v : List Value) (x : List Oct) : Prop := v = [.string (strB x)]
theorem elT_k : ElK ElT := ⟨fun _ _ _ _ _ _ h _ _ => h, fun _ _ _ _ _ h _ => h⟩
def markTx (i : Nat) : List Value := [.string (markT i)]
abbrev TxUp (g : Nat) (l : List (List Oct)) (w : World) (cs : Array Value) (i : Nat) : Prop := WUp ElT markTx 1 9 g l w cs i
set_option maxHeartbeats 1000000 in
theorem wideTexts_any (xs : List (List Oct)) (A : Option Addr) (cap : Nat) (w : World) (hx : Lies w w.heap.size A (textsV xs)) (hl : xs.length ≤ 1000000000) (hp : Pow w) :
    Calls Tryz.prog 25 #[.slice A xs.length cap] w fun e w' => e = .returned (.slice (some ⟨w.heap.size, 0, none⟩) xs.length (xs.length + 64)) ∧ Keeps (fun _ => False) w w' ∧ ∃ cs, TxUp w.heap.size xs w' cs (xs.length + 64) := by
  have HX := Lib.hid hx
  have HP := Lib.hid hp
  clear hx hp
  have hmk : ∀ w : World, (Instr.makeSlice 23 (.int .i64 ((xs.length : Int) + 64)) (.int .i64 ((xs.length : Int) + 64))).run Tryz.prog w = .ok (.slice (some ⟨w.heap.size, 0, none⟩) (xs.length + 64) (xs.length + 64)) (w.alloc (.cells (madeCells #[.string ⟨#[]⟩] (xs.length + 64)) 9)) := fun w => run_make_row' 23 9 (.string ⟨#[]⟩) 16 Tryz.underlying23 info_strW rfl .i64 .i64 (xs.length + 64) (by omega) (by omega) w
  go_enter Tryz.func25, Tryz.ntmps25
  go_wp2_with fail
  clear hmk
  have HK0 : Hid (Keeps (fun b => b = w.heap.size) w (w.alloc (.cells (madeCells #[.string ⟨#[]⟩] (xs.length + 64)) 9))) := Lib.hid ((Keeps.refl _ w).alloc _)
  have HU0 : Hid (TxUp w.heap.size xs (w.alloc (.cells (madeCells #[.string ⟨#[]⟩] (xs.length + 64)) 9)) (madeCells #[.string ⟨#[]⟩] (xs.length + 64)) 0) := Lib.hid (WUp.start (Whole.made w _ _) (by rw [size_madeCells, Nat.mul_one]))
  generalize madeCells #[.string ⟨#[]⟩] (xs.length + 64) = c0 at *
  go_loopw [4] (fun vi wr => ∃ (i : Nat) (cs : Array Value), i ≤ xs.length + 64 ∧ vi = .int .i64 i ∧ Hid (TxUp w.heap.size xs wr cs i) ∧ Hid (Keeps (fun b => b = w.heap.size) w wr)) (fun vi _ => xs.length + 64 - (intOf vi).toNat)
  case atStart => exact ⟨0, _, by omega, rfl, HU0, HK0⟩
  case round =>
    clear HK0 HU0
    obtain ⟨i, cs, hi, rfl, HU, HK⟩ := hrel
    have hin : w.heap.size < wr.heap.size := HU.out.whole.inside
    by_cases hlt : i < xs.length
    · have hxi : xs[i]? = some xs[i] := List.getElem?_eq_getElem hlt
      obtain ⟨g, off, rfl, hg, hc⟩ := HX.out i (.string (strB xs[i])) (by simp [textsV, hlt])
      have hc0 : wr.cell? ⟨g, off + i, none⟩ = some (.string (strB xs[i])) := (HK.out.cell hg (by omega)).trans hc
      obtain ⟨⟨u, hu⟩, hf⟩ := HU.out.cells (by omega) 0 (by omega)
      rw [Nat.mul_one, Nat.add_zero] at hu hf
      have HN := Lib.hid (HU.out.next elT_k (by omega) [.string (strB xs[i])] rfl (fun x hx => by rw [hxi] at hx; injection hx with hx; subst hx; rfl) (fun h => absurd hlt (by omega)))
      rw [Nat.mul_one] at HN
      clear hc hxi
      generalize strB xs[i] = x at *
      have HK' := Lib.hid (HK.out.setCell (p := ⟨w.heap.size, i, none⟩) (fun _ => rfl) (.string x))
      clear HU HK
      go_wp2_with fail
      go_roundw
      case rel => exact ⟨i + 1, _, by omega, by go_num, HN, HK'⟩
      case measure => simp [intOf]; omega
    · by_cases hlt2 : i < xs.length + 64
      · obtain ⟨⟨u, hu⟩, hf⟩ := HU.out.cells hlt2 0 (by omega)
        rw [Nat.mul_one, Nat.add_zero] at hu hf
        have HPr : Hid (Pow wr) := Lib.hid (HP.out.below (HK.out.below (Nat.le_refl _) (fun k h => by omega)))
        go_wp2_with fail
        refine (text_any i wr (by omega) HPr.out).mono ?_
        rintro e w1 ⟨rfl, k1⟩
        have HU1 := Lib.hid (HU.out.keeps elT_k k1 (fun _ _ => id))
        have HN := Lib.hid (HU1.out.next elT_k hlt2 [.string (markT i)] rfl (fun x hx => by rw [List.getElem?_eq_none (by omega)] at hx; cases hx) (fun _ => rfl))
        rw [Nat.mul_one] at HN
        have HK' := Lib.hid ((HK.out.trans (k1.mono fun _ _ h => h.elim)).setCell (p := ⟨w.heap.size, i, none⟩) (fun _ => rfl) (.string (markT i)))
        have hu1 := (k1.cell (o := i) hin id).trans hu
        obtain ⟨_, hf1⟩ := HU1.out.cells hlt2 0 (by omega)
        rw [Nat.mul_one, Nat.add_zero] at hf1
        clear HU HK k1 hu hf HPr HU1
        generalize markT i = m at *
        go_wp2_with fail
        go_roundw
        case rel => exact ⟨i + 1, _, by omega, by go_num, HN, HK'⟩
        case measure => simp [intOf]; omega
      · obtain rfl : i = xs.length + 64 := by omega
        go_wp2_with fail
        go_ret
        exact ⟨rfl, HK.out.mono (fun b hb e => absurd e (by omega)), cs, HU.out⟩
set_option maxHeartbeats 1000000 in
theorem spareTexts_any (g : Nat) (xs : List (List Oct)) (cs : Array Value) (w : World) (hU : TxUp g xs w cs (xs.length + 64)) (hl : xs.length ≤ 1000000000) (hp : Pow w) :
    Calls Tryz.prog 49 #[.slice (some ⟨g, 0, none⟩) xs.length (xs.length + 64)] w fun e w' => e = .returned (.bool true) ∧ Keeps (fun _ => False) w w' := by
  have HU := Lib.hid hU
  have HP := Lib.hid hp
  clear hU hp
  go_enter Tryz.func49, Tryz.ntmps49
  go_wp2_with fail
  go_loopw [4] (fun vi wr => ∃ i : Nat, xs.length ≤ i ∧ i ≤ xs.length + 64 ∧ vi = .int .i64 i ∧ Hid (Keeps (fun _ => False) w wr)) (fun vi _ => xs.length + 64 - (intOf vi).toNat)
  case atStart => exact ⟨xs.length, by omega, by omega, rfl, Lib.hid (Keeps.refl _ w)⟩
  case round =>
    obtain ⟨i, hn, hi, rfl, HK⟩ := hrel
    by_cases hlt : i < xs.length + 64
    · have hc : wr.cell? ⟨g, i, none⟩ = some (.string (markT i)) := by
        have h1 := HU.out.marks i hlt hn 0 (by omega)
        rw [Nat.mul_one, Nat.add_zero] at h1
        exact ((HK.out.cell HU.out.whole.inside id).trans (HU.out.whole.cellAt i)).trans h1
      have HPr : Hid (Pow wr) := Lib.hid (HP.out.past HK.out)
      go_wp2_with fail
      refine (text_any i wr (by omega) HPr.out).mono ?_
      rintro e w1 ⟨rfl, k1⟩
      have HK' := Lib.hid (HK.out.trans k1)
      clear HK k1 HPr
      generalize markT i = m at *
      go_wp2_with fail
      go_roundw
      case rel => exact ⟨i + 1, by omega, by omega, by go_num, HK'⟩
      case measure => simp [intOf]; omega
    · obtain rfl : i = xs.length + 64 := by omega
      go_wp2_with fail
      go_ret
      exact ⟨rfl, HK.out⟩
end Go.Proofs.YtcmbdnjcfneinaaGreatDoor
/-
  Lists with marks behind them, told in one form. Conditions: lengths within 10 ^ 9.
-/
namespace Go.Proofs.YtcmbdnjcfneinaaGreatDoor
open Go.RowKit
/-- A list with marks behind it, in a block of its own from B on. -/
def InW {α : Type} (t : TypeId) (F : List α → Array Value) (w : World) (B : Nat) (v : Value) (l : List α) : Prop := ∃ g, v = .slice (some ⟨g, 0, none⟩) l.length (l.length + 64) ∧ B ≤ g ∧ Whole w g t (F l)
def InRow {α : Type} (El : World → Nat → List Value → α → Prop) (mark : Nat → List Value) (k : Nat) (t : TypeId) (w : World) (B : Nat) (v : Value) (l : List α) : Prop := ∃ g cs, v = .slice (some ⟨g, 0, none⟩) l.length (l.length + 64) ∧ B ≤ g ∧ WUp El mark k t g l w cs (l.length + 64)
section
variable {α : Type} {t : TypeId} {F : List α → Array Value} {El : World → Nat → List Value → α → Prop} {mark : Nat → List Value} {k : Nat} {w w' : World} {B B' : Nat} {v : Value} {l : List α} {S : Nat → Prop}
theorem InW.keeps (h : InW t F w B v l) (hk : Keeps S w w') (hS : ∀ b, B ≤ b → ¬ S b) : InW t F w' B v l := by
  obtain ⟨g, e, hB, hw⟩ := h
  exact ⟨g, e, hB, hw.keeps hk (hS g hB)⟩
theorem InW.less (h : InW t F w B v l) (hB : B' ≤ B) : InW t F w B' v l := by
  obtain ⟨g, e, hB1, hw⟩ := h
  exact ⟨g, e, by omega, hw⟩
theorem InRow.keepsOf (hE : ElK El) (h : InRow El mark k t w B v l) (hk : Keeps S w w') (hS : ∀ b, B ≤ b → ¬ S b) : InRow El mark k t w' B v l := by
  obtain ⟨g, cs, e, hB, hw⟩ := h
  exact ⟨g, cs, e, hB, hw.keeps hE hk fun b hb => hS b (by omega)⟩
theorem InRow.less (h : InRow El mark k t w B v l) (hB : B' ≤ B) : InRow El mark k t w B' v l := by
  obtain ⟨g, cs, e, hB1, hw⟩ := h
  exact ⟨g, cs, e, by omega, hw⟩
end
def WSm (w : World) (B : Nat) (v : Value) (l : List Int) : Prop := InW 80 (fun l => smalls (wideSm l)) w B v l
def WIn (w : World) (B : Nat) (v : Value) (l : List Int) : Prop := InW 3 (fun l => ints (wideL l)) w B v l
def WLo (w : World) (B : Nat) (v : Value) (l : List Int) : Prop := InW 2 (fun l => ints (wideL l)) w B v l
def WBy (w : World) (B : Nat) (v : Value) (l : List Oct) : Prop := InW 5 wideB w B v l
def WTx (w : World) (B : Nat) (v : Value) (l : List (List Oct)) : Prop := InRow ElT markTx 1 9 w B v l
section
variable {w w' : World} {B B' : Nat} {v : Value} {S : Nat → Prop}
theorem WSm.keeps {l : List Int} (h : WSm w B v l) (hk : Keeps S w w') (hS : ∀ b, B ≤ b → ¬ S b) : WSm w' B v l := InW.keeps h hk hS
theorem WSm.less {l : List Int} (h : WSm w B v l) (hB : B' ≤ B) : WSm w B' v l := InW.less h hB
theorem WIn.keeps {l : List Int} (h : WIn w B v l) (hk : Keeps S w w') (hS : ∀ b, B ≤ b → ¬ S b) : WIn w' B v l := InW.keeps h hk hS
theorem WIn.less {l : List Int} (h : WIn w B v l) (hB : B' ≤ B) : WIn w B' v l := InW.less h hB
theorem WLo.keeps {l : List Int} (h : WLo w B v l) (hk : Keeps S w w') (hS : ∀ b, B ≤ b → ¬ S b) : WLo w' B v l := InW.keeps h hk hS
theorem WLo.less {l : List Int} (h : WLo w B v l) (hB : B' ≤ B) : WLo w B' v l := InW.less h hB
theorem WBy.keeps {l : List Oct} (h : WBy w B v l) (hk : Keeps S w w') (hS : ∀ b, B ≤ b → ¬ S b) : WBy w' B v l := InW.keeps h hk hS
theorem WBy.less {l : List Oct} (h : WBy w B v l) (hB : B' ≤ B) : WBy w B' v l := InW.less h hB
theorem WTx.keeps {l : List (List Oct)} (h : WTx w B v l) (hk : Keeps S w w') (hS : ∀ b, B ≤ b → ¬ S b) : WTx w' B v l := InRow.keepsOf elT_k h hk hS
theorem WTx.less {l : List (List Oct)} (h : WTx w B v l) (hB : B' ≤ B) : WTx w B' v l := InRow.less h hB
end
theorem wideSmalls_in (l : List Int) (A : Option Addr) (cap : Nat) (w : World) (hx : Lies w w.heap.size A (l.map (Value.int .i8))) (hl : l.length ≤ 1000000000) :
    Calls Tryz.prog 161 #[.slice A l.length cap] w fun e w' => ∃ A' c', e = .returned (.slice A' l.length c') ∧ WSm w' w.heap.size (.slice A' l.length c') l ∧ Keeps (fun _ => False) w w' :=
  (wideSmalls_any l A cap w hx hl).mono fun _ _ ⟨h1, h2, h3⟩ => ⟨_, _, h1, ⟨_, rfl, Nat.le_refl _, h2⟩, h3⟩
theorem wideInts_in (l : List Int) (A : Option Addr) (cap : Nat) (w : World) (hx : Lies w w.heap.size A (l.map (Value.int .i64))) (hl : l.length ≤ 1000000000) :
    Calls Tryz.prog 122 #[.slice A l.length cap] w fun e w' => ∃ A' c', e = .returned (.slice A' l.length c') ∧ WIn w' w.heap.size (.slice A' l.length c') l ∧ Keeps (fun _ => False) w w' :=
  (wideInts_any l A cap w hx hl).mono fun _ _ ⟨h1, h2, h3⟩ => ⟨_, _, h1, ⟨_, rfl, Nat.le_refl _, h2⟩, h3⟩
theorem wideLongs_in (l : List Int) (A : Option Addr) (cap : Nat) (w : World) (hx : Lies w w.heap.size A (l.map (Value.int .i64))) (hl : l.length ≤ 1000000000) :
    Calls Tryz.prog 24 #[.slice A l.length cap] w fun e w' => ∃ A' c', e = .returned (.slice A' l.length c') ∧ WLo w' w.heap.size (.slice A' l.length c') l ∧ Keeps (fun _ => False) w w' :=
  (wideLongs_any l A cap w hx hl).mono fun _ _ ⟨h1, h2, h3⟩ => ⟨_, _, h1, ⟨_, rfl, Nat.le_refl _, h2⟩, h3⟩
theorem wideBytes_in (l : List Oct) (A : Option Addr) (cap : Nat) (w : World) (hx : Lies w w.heap.size A (bytesV l)) (hl : l.length ≤ 1000000000) :
    Calls Tryz.prog 18 #[.slice A l.length cap] w fun e w' => ∃ A' c', e = .returned (.slice A' l.length c') ∧ WBy w' w.heap.size (.slice A' l.length c') l ∧ Keeps (fun _ => False) w w' :=
  (wideBytes_any l A _ cap w hx (Nat.le_refl _) (by omega)).mono fun _ _ ⟨h1, h2⟩ => ⟨_, _, h1, ⟨_, rfl, Nat.le_refl _, h2 ▸ Whole.made w _ _⟩, h2 ▸ (Keeps.refl _ w).alloc _⟩
theorem wideTexts_in (l : List (List Oct)) (A : Option Addr) (cap : Nat) (w : World) (hx : Lies w w.heap.size A (textsV l)) (hl : l.length ≤ 1000000000) (hp : Pow w) :
    Calls Tryz.prog 25 #[.slice A l.length cap] w fun e w' => ∃ A' c', e = .returned (.slice A' l.length c') ∧ WTx w' w.heap.size (.slice A' l.length c') l ∧ Keeps (fun _ => False) w w' :=
  (wideTexts_any l A cap w hx hl hp).mono fun _ _ ⟨h1, h2, cs, h3⟩ => ⟨_, _, h1, ⟨_, cs, rfl, Nat.le_refl _, h3⟩, h2⟩
theorem spareSmalls_in (l : List Int) (v : Value) (B : Nat) (w : World) (h : WSm w B v l) (hl : l.length ≤ 1000000000) :
    Calls Tryz.prog 163 #[v] w fun e w' => e = .returned (.bool true) ∧ Keeps (fun _ => False) w w' := by
  obtain ⟨g, rfl, _, hw⟩ := h
  exact (spareSmalls_any g l.length _ w hw hl fun i h1 h2 => wideSm_high l i (by omega) h2).mono fun _ _ ⟨h1, d, h2⟩ => ⟨h1, h2 ▸ (Keeps.refl _ w).drewN d⟩
theorem spareInts_in (l : List Int) (v : Value) (B : Nat) (w : World) (h : WIn w B v l) (hl : l.length ≤ 1000000000) :
    Calls Tryz.prog 131 #[v] w fun e w' => e = .returned (.bool true) ∧ Keeps (fun _ => False) w w' := by
  obtain ⟨g, rfl, _, hw⟩ := h
  exact (spareInts_any g l.length _ w hw hl fun i h1 h2 => wideL_high l i (by omega) h2).mono fun _ _ ⟨h1, d, h2⟩ => ⟨h1, h2 ▸ (Keeps.refl _ w).drewN d⟩
theorem spareLongs_in (l : List Int) (v : Value) (B : Nat) (w : World) (h : WLo w B v l) (hl : l.length ≤ 1000000000) :
    Calls Tryz.prog 48 #[v] w fun e w' => e = .returned (.bool true) ∧ Keeps (fun _ => False) w w' := by
  obtain ⟨g, rfl, _, hw⟩ := h
  exact (spareLongs_any g l.length _ w hw hl fun i h1 h2 => wideL_high l i (by omega) h2).mono fun _ _ ⟨h1, d, h2⟩ => ⟨h1, h2 ▸ (Keeps.refl _ w).drewN d⟩
theorem spareBytes_in (l : List Oct) (v : Value) (B : Nat) (w : World) (h : WBy w B v l) (hl : l.length ≤ 1000000000) :
    Calls Tryz.prog 21 #[v] w fun e w' => e = .returned (.bool true) ∧ Keeps (fun _ => False) w w' := by
  obtain ⟨g, rfl, _, hw⟩ := h
  exact (spareBytes_any l g w hw (by omega)).mono fun _ _ ⟨h1, h2⟩ => ⟨h1, h2 ▸ Keeps.refl _ w⟩
theorem spareTexts_in (l : List (List Oct)) (v : Value) (B : Nat) (w : World) (h : WTx w B v l) (hl : l.length ≤ 1000000000) (hp : Pow w) :
    Calls Tryz.prog 49 #[v] w fun e w' => e = .returned (.bool true) ∧ Keeps (fun _ => False) w w' := by
  obtain ⟨g, cs, rfl, _, hw⟩ := h
  exact spareTexts_any g l cs w hw hl hp
end Go.Proofs.YtcmbdnjcfneinaaGreatDoor
/-
  The marked copies of effects: the walks. Conditions: lengths within 10 ^ 9.
-/
namespace Go.Proofs.YtcmbdnjcfneinaaGreatDoor
open Go.RowKit
theorem info_effW : (Tryz.prog.info? 43).map (fun i => (i.zero, i.size, i.bytes)) = some (some (.agg #[.int .i64 0, .slice none 0 0, .slice none 0 0, .int .i64 0]), 4, 64) := by kernel_rfl
/-- An element's cells, and what its slices lead to. -/
def ElE (w : World) (B : Nat) (v : List Value) (e : Eff) : Prop := ∃ (A1 A2 : Option Addr) (c1 c2 : Nat), v = [.int .i64 e.on, .slice A1 e.slots.length c1, .slice A2 e.code.length c2, .int .i64 e.bound] ∧ WSm w B (.slice A1 e.slots.length c1) e.slots ∧ WBy w B (.slice A2 e.code.length c2) e.code
theorem elE_k : ElK ElE := ⟨fun _ _ _ _ _ _ ⟨A1, A2, c1, c2, e, h1, h2⟩ hk hS => ⟨A1, A2, c1, c2, e, h1.keeps hk hS, h2.keeps hk hS⟩, fun _ _ _ _ _ ⟨A1, A2, c1, c2, e, h1, h2⟩ hB => ⟨A1, A2, c1, c2, e, h1.less hB, h2.less hB⟩⟩
def markE (i : Nat) : List Value := [.int .i64 (1048576 * 9 + (i : Int) + 1), .slice none 0 0, .slice none 0 0, .int .i64 0]
set_option maxRecDepth 4000 in
set_option maxHeartbeats 1000000 in
theorem wideEffect_any (e : Eff) (A1 A2 : Option Addr) (c1 c2 : Nat) (w : World) (h1 : Lies w w.heap.size A1 (e.slots.map (Value.int .i8))) (h2 : Lies w w.heap.size A2 (bytesV e.code)) (hm : EffFew e) :
    Calls Tryz.prog 153 #[.agg (effV e A1 A2 c1 c2)] w fun r w' => ∃ (B1 B2 : Option Addr) (d1 d2 : Nat), r = .returned (.agg (effV e B1 B2 d1 d2)) ∧ WSm w' w.heap.size (.slice B1 e.slots.length d1) e.slots ∧ WBy w' w.heap.size (.slice B2 e.code.length d2) e.code ∧ Keeps (fun _ => False) w w' := by
  unfold effV
  have P := Lib.hid ((Whole.made w 43 #[.int .i64 e.on, .slice A1 e.slots.length c1, .slice A2 e.code.length c2, .int .i64 e.bound]).alloc (.cells #[.int .i64 0, .slice none 0 0, .slice none 0 0, .int .i64 0] 43))
  have R := Lib.hid (Whole.made (w.alloc (.cells #[.int .i64 e.on, .slice A1 e.slots.length c1, .slice A2 e.code.length c2, .int .i64 e.bound] 43)) 43 #[.int .i64 0, .slice none 0 0, .slice none 0 0, .int .i64 0])
  rw [show (w.alloc (.cells #[.int .i64 e.on, .slice A1 e.slots.length c1, .slice A2 e.code.length c2, .int .i64 e.bound] 43)).heap.size = w.heap.size + 1 by simp] at R
  have K := Lib.hid (((Keeps.refl (fun _ => False) w).alloc (.cells #[.int .i64 e.on, .slice A1 e.slots.length c1, .slice A2 e.code.length c2, .int .i64 e.bound] 43)).alloc (.cells #[.int .i64 0, .slice none 0 0, .slice none 0 0, .int .i64 0] 43))
  have Z : Hid (w.heap.size + 2 ≤ ((w.alloc (.cells (#[.int .i64 e.on, .slice A1 e.slots.length c1, .slice A2 e.code.length c2, .int .i64 e.bound]) 43)).alloc (.cells #[.int .i64 0, .slice none 0 0, .slice none 0 0, .int .i64 0] 43)).heap.size) := Lib.hid (by simp)
  have H1 := Lib.hid h1
  have H2 := Lib.hid h2
  clear h1 h2
  go_enter Tryz.func153, Tryz.ntmps153
  go_wp2_with fail
  generalize ((w.alloc (.cells (#[.int .i64 e.on, .slice A1 e.slots.length c1, .slice A2 e.code.length c2, .int .i64 e.bound]) 43)).alloc (.cells #[.int .i64 0, .slice none 0 0, .slice none 0 0, .int .i64 0] 43)) = w0 at *
  refine (wideSmalls_in e.slots A1 c1 w0 ((H1.out.keeps K.out (fun _ _ => id) (Nat.le_refl _)).more (by have := Z.out; omega)) (hm.slots)).mono ?_
  rintro r w1 ⟨B1, d1, rfl, E1n, kk⟩
  have E1 := Lib.hid (E1n.less Z.out)
  clear E1n
  replace P := Lib.hid (P.out.keeps kk id)
  replace R := Lib.hid (R.out.keeps kk id)
  replace K := Lib.hid (K.out.trans kk)
  replace Z : Hid (w.heap.size + 2 ≤ w1.heap.size) := Lib.hid (Nat.le_trans Z.out kk.size)
  clear kk
  obtain ⟨a0, a1, a2, a3⟩ := four P.out
  have pf := P.out.free 1
  go_wp2_with fail
  clear a0 a1 a2 a3 pf
  replace K := Lib.hid (K.out.setCell (p := ⟨w.heap.size, 1, none⟩) (fun h => absurd h (Nat.lt_irrefl _)) (.slice B1 e.slots.length d1))
  have ks := (Keeps.refl (fun b => b = w.heap.size) w1).setCell (p := ⟨w.heap.size, 1, none⟩) (fun _ => rfl) (.slice B1 e.slots.length d1)
  replace P := Lib.hid (P.out.put 1 (.slice B1 e.slots.length d1))
  replace R := Lib.hid (R.out.keeps ks (by omega))
  replace Z := Lib.hid (Nat.le_trans Z.out ks.size)
  replace E1 := Lib.hid (E1.out.keeps ks (fun b hb e => by omega))
  clear ks
  generalize w1.setCell ⟨w.heap.size, 1, none⟩ (.slice B1 e.slots.length d1) = v1 at *
  refine (wideBytes_in e.code A2 c2 v1 ((H2.out.keeps K.out (fun _ _ => id) (Nat.le_refl _)).more (by have := Z.out; omega)) (hm.code)).mono ?_
  rintro r w2 ⟨B2, d2, rfl, E2n, kk⟩
  have E2 := Lib.hid (E2n.less Z.out)
  clear E2n
  replace E1 := Lib.hid (E1.out.keeps kk (fun _ _ => id))
  replace P := Lib.hid (P.out.keeps kk id)
  replace R := Lib.hid (R.out.keeps kk id)
  replace K := Lib.hid (K.out.trans kk)
  replace Z : Hid (w.heap.size + 2 ≤ w2.heap.size) := Lib.hid (Nat.le_trans Z.out kk.size)
  clear kk
  obtain ⟨a0, a1, a2, a3⟩ := four P.out
  have pf := P.out.free 2
  obtain ⟨b0, b1, b2, b3⟩ := four R.out
  have rf0 := R.out.free 0
  have rf1 := R.out.free 1
  have rf2 := R.out.free 2
  have rf3 := R.out.free 3
  have RF := Lib.hid (((((R.out.putFar (p := ⟨w.heap.size, 2, none⟩) (by show w.heap.size + 1 ≠ w.heap.size; omega) (.slice B2 e.code.length d2)).put 0 (.int .i64 e.on)).put 1 (.slice B1 e.slots.length d1)).put 2 (.slice B2 e.code.length d2)).put 3 (.int .i64 e.bound))
  have KF := Lib.hid ((((((Keeps.refl (fun b => b = w.heap.size ∨ b = w.heap.size + 1) w2).setCell (p := ⟨w.heap.size, 2, none⟩) (fun _ => .inl rfl) (.slice B2 e.code.length d2)).setCell (p := ⟨w.heap.size + 1, 0, none⟩) (fun _ => .inr rfl) (.int .i64 e.on)).setCell (p := ⟨w.heap.size + 1, 1, none⟩) (fun _ => .inr rfl) (.slice B1 e.slots.length d1)).setCell (p := ⟨w.heap.size + 1, 2, none⟩) (fun _ => .inr rfl) (.slice B2 e.code.length d2)).setCell (p := ⟨w.heap.size + 1, 3, none⟩) (fun _ => .inr rfl) (.int .i64 e.bound))
  clear P R
  go_wp2_with fail
  refine bodyPost_ret (results_cell rfl _ (w.heap.size + 1) rfl (#[.int .i64 e.on, .slice B1 e.slots.length d1, .slice B2 e.code.length d2, .int .i64 e.bound]) _ RF.out _ Tryz.underlying43 rfl (by kernel_rfl)) rfl ?_
  refine ⟨B1, B2, d1, d2, rfl, (E1.out.keeps KF.out (fun b hb e => by omega)).less (by omega), (E2.out.keeps KF.out (fun b hb e => by omega)).less (by omega), K.out.and KF.out (fun b hb e => by omega)⟩
set_option maxRecDepth 4000 in
set_option maxHeartbeats 1000000 in
theorem wideEffects_any (xs : List Eff) (A : Option Addr) (cap : Nat) (w : World) (hx : EfLies w w.heap.size A xs) (hl : xs.length ≤ 1000000000) (hr : ∀ r ∈ xs, EffFew r) :
    Calls Tryz.prog 123 #[.slice A xs.length cap] w fun e w' => e = .returned (.slice (some ⟨w.heap.size, 0, none⟩) xs.length (xs.length + 64)) ∧ Keeps (fun _ => False) w w' ∧ ∃ cs, WUp ElE markE 4 43 w.heap.size xs w' cs (xs.length + 64) := by
  have HX := Lib.hid hx; clear hx
  have hmk : ∀ w : World, (Instr.makeSlice 38 (.int .i64 ((xs.length : Int) + 64)) (.int .i64 ((xs.length : Int) + 64))).run Tryz.prog w = .ok (.slice (some ⟨w.heap.size, 0, none⟩) (xs.length + 64) (xs.length + 64)) (w.alloc (.cells (madeCells #[.int .i64 0, .slice none 0 0, .slice none 0 0, .int .i64 0] ((xs.length + 64) * 4)) 43)) := fun w => make_rows 38 43 _ 4 64 Tryz.underlying38 info_effW (xs.length + 64) (by omega) (by omega) w
  go_enter Tryz.func123, Tryz.ntmps123
  go_wp2_with fail
  clear hmk
  have HK0 : Hid (Keeps (fun b => b = w.heap.size) w (w.alloc (.cells (madeCells #[.int .i64 0, .slice none 0 0, .slice none 0 0, .int .i64 0] ((xs.length + 64) * 4)) 43))) := Lib.hid ((Keeps.refl _ w).alloc _)
  have HU0 : Hid (WUp ElE markE 4 43 w.heap.size xs (w.alloc (.cells (madeCells #[.int .i64 0, .slice none 0 0, .slice none 0 0, .int .i64 0] ((xs.length + 64) * 4)) 43)) (madeCells #[.int .i64 0, .slice none 0 0, .slice none 0 0, .int .i64 0] ((xs.length + 64) * 4)) 0) := Lib.hid (WUp.start (Whole.made w _ _) (by rw [size_madeCells]))
  generalize madeCells #[.int .i64 0, .slice none 0 0, .slice none 0 0, .int .i64 0] ((xs.length + 64) * 4) = c0 at *
  go_loopw [4] (fun vi wr => ∃ (i : Nat) (cs : Array Value), i ≤ xs.length + 64 ∧ vi = .int .i64 i ∧ Hid (WUp ElE markE 4 43 w.heap.size xs wr cs i) ∧ Hid (Keeps (fun b => b = w.heap.size) w wr)) (fun vi _ => xs.length + 64 - (intOf vi).toNat)
  case atStart => exact ⟨0, _, by omega, rfl, HU0, HK0⟩
  case round =>
    clear HK0 HU0
    obtain ⟨i, cs, hi, rfl, HU, HK⟩ := hrel
    have hin : w.heap.size < wr.heap.size := HU.out.whole.inside
    by_cases hlt : i < xs.length
    · have hxi : xs[i]? = some xs[i] := List.getElem?_eq_getElem hlt
      obtain ⟨g, off, A1, c1, A2, c2, rfl, hg, k0, k1, k2, k3, hs, hc⟩ := (HX.out.keeps HK.out (fun b hb e => by omega) (Nat.le_refl _)) i xs[i] hxi
      have hri := hr xs[i] (List.getElem_mem hlt)
      generalize xs[i] = x at *
      go_wp2_with fail
      refine (wideEffect_any x A1 A2 c1 c2 wr (hs.more (by omega)) (hc.more (by omega)) hri).mono ?_
      rintro e w1 ⟨B1, B2, d1, d2, rfl, E1, E2, kk⟩
      clear k0 k1 k2 k3 hs hc
      replace HU := Lib.hid (HU.out.keeps elE_k kk (fun _ _ => id))
      replace HK := Lib.hid (HK.out.trans (kk.mono fun _ _ h => h.elim))
      obtain ⟨⟨u0, hu0⟩, hf0⟩ := HU.out.cells (by omega) 0 (by omega)
      obtain ⟨⟨u1, hu1⟩, hf1⟩ := HU.out.cells (by omega) 1 (by omega)
      obtain ⟨⟨u2, hu2⟩, hf2⟩ := HU.out.cells (by omega) 2 (by omega)
      obtain ⟨⟨u3, hu3⟩, hf3⟩ := HU.out.cells (by omega) 3 (by omega)
      rw [Nat.add_zero] at hu0 hf0
      have HN : Hid (WUp ElE markE 4 43 w.heap.size xs ((((w1.setCell ⟨w.heap.size, i * 4, none⟩ (.int .i64 x.on)).setCell ⟨w.heap.size, i * 4 + 1, none⟩ (.slice B1 x.slots.length d1)).setCell ⟨w.heap.size, i * 4 + 2, none⟩ (.slice B2 x.code.length d2)).setCell ⟨w.heap.size, i * 4 + 3, none⟩ (.int .i64 x.bound)) _ (i + 1)) := Lib.hid (HU.out.next elE_k (by omega) [.int .i64 x.on, .slice B1 x.slots.length d1, .slice B2 x.code.length d2, .int .i64 x.bound] rfl (fun y hy => by rw [hxi] at hy; injection hy with hy; subst hy; exact ⟨B1, B2, d1, d2, rfl, E1.less (by omega), E2.less (by omega)⟩) (fun h => absurd hlt (by omega)))
      have HK' := Lib.hid ((((HK.out.setCell (p := ⟨w.heap.size, i * 4, none⟩) (fun _ => rfl) (.int .i64 x.on)).setCell (p := ⟨w.heap.size, i * 4 + 1, none⟩) (fun _ => rfl) (.slice B1 x.slots.length d1)).setCell (p := ⟨w.heap.size, i * 4 + 2, none⟩) (fun _ => rfl) (.slice B2 x.code.length d2)).setCell (p := ⟨w.heap.size, i * 4 + 3, none⟩) (fun _ => rfl) (.int .i64 x.bound))
      clear HU HK E1 E2 kk hxi
      unfold effV at *
      go_wp2_with fail
      go_roundw
      case rel => exact ⟨i + 1, _, by omega, by go_num, HN, HK'⟩
      case measure => simp [intOf]; omega
    · by_cases hlt2 : i < xs.length + 64
      · obtain ⟨⟨u0, hu0⟩, hf0⟩ := HU.out.cells hlt2 0 (by omega)
        obtain ⟨⟨u1, hu1⟩, hf1⟩ := HU.out.cells hlt2 1 (by omega)
        obtain ⟨⟨u2, hu2⟩, hf2⟩ := HU.out.cells hlt2 2 (by omega)
        obtain ⟨⟨u3, hu3⟩, hf3⟩ := HU.out.cells hlt2 3 (by omega)
        rw [Nat.add_zero] at hu0 hf0
        have HN : Hid (WUp ElE markE 4 43 w.heap.size xs ((((wr.setCell ⟨w.heap.size, i * 4, none⟩ (.int .i64 (1048576 * 9 + (i : Int) + 1))).setCell ⟨w.heap.size, i * 4 + 1, none⟩ (.slice none 0 0)).setCell ⟨w.heap.size, i * 4 + 2, none⟩ (.slice none 0 0)).setCell ⟨w.heap.size, i * 4 + 3, none⟩ (.int .i64 0)) _ (i + 1)) := Lib.hid (HU.out.next elE_k hlt2 [.int .i64 (1048576 * 9 + (i : Int) + 1), .slice none 0 0, .slice none 0 0, .int .i64 0] rfl (fun y hy => by rw [List.getElem?_eq_none (by omega)] at hy; cases hy) (fun _ => rfl))
        have HK' := Lib.hid ((((HK.out.setCell (p := ⟨w.heap.size, i * 4, none⟩) (fun _ => rfl) (.int .i64 (1048576 * 9 + (i : Int) + 1))).setCell (p := ⟨w.heap.size, i * 4 + 1, none⟩) (fun _ => rfl) (.slice none 0 0)).setCell (p := ⟨w.heap.size, i * 4 + 2, none⟩) (fun _ => rfl) (.slice none 0 0)).setCell (p := ⟨w.heap.size, i * 4 + 3, none⟩) (fun _ => rfl) (.int .i64 0))
        clear HU HK
        go_wp2_with fail
        refine (num_any 9 i _ (by omega) (by omega)).mono ?_
        rintro e w1 ⟨rfl, rfl⟩
        go_wp2_with fail
        go_roundw
        case rel => exact ⟨i + 1, _, by omega, by go_num, HN, HK'⟩
        case measure => simp [intOf]; omega
      · obtain rfl : i = xs.length + 64 := by omega
        go_wp2_with fail
        go_ret
        exact ⟨rfl, HK.out.mono (fun b hb e => absurd e (by omega)), cs, HU.out⟩
def WEf (w : World) (B : Nat) (v : Value) (l : List Eff) : Prop := InRow ElE markE 4 43 w B v l
theorem WEf.keeps {S : Nat → Prop} {w w' : World} {B : Nat} {v : Value} {l : List Eff} (h : WEf w B v l) (hk : Keeps S w w') (hS : ∀ b, B ≤ b → ¬ S b) : WEf w' B v l := InRow.keepsOf elE_k h hk hS
theorem WEf.less {w : World} {B B' : Nat} {v : Value} {l : List Eff} (h : WEf w B v l) (hB : B' ≤ B) : WEf w B' v l := InRow.less h hB
theorem wideEffects_in (l : List Eff) (A : Option Addr) (cap : Nat) (w : World) (hx : EfLies w w.heap.size A l) (hl : l.length ≤ 1000000000) (hr : ∀ r ∈ l, EffFew r) :
    Calls Tryz.prog 123 #[.slice A l.length cap] w fun e w' => ∃ A' c', e = .returned (.slice A' l.length c') ∧ WEf w' w.heap.size (.slice A' l.length c') l ∧ Keeps (fun _ => False) w w' :=
  (wideEffects_any l A cap w hx hl hr).mono fun _ _ ⟨h1, h2, cs, h3⟩ => ⟨_, _, h1, ⟨_, cs, rfl, Nat.le_refl _, h3⟩, h2⟩
end Go.Proofs.YtcmbdnjcfneinaaGreatDoor
/-
  The marked copies of kinds: the walks. Conditions: lengths within 10 ^ 9.
-/
namespace Go.Proofs.YtcmbdnjcfneinaaGreatDoor
open Go.RowKit
theorem info_kndW : (Tryz.prog.info? 40).map (fun i => (i.zero, i.size, i.bytes)) = some (some (.agg #[.int .i64 0, .int .i64 0, .int .i64 0, .int .i64 0, .slice none 0 0, .slice none 0 0]), 6, 80) := by kernel_rfl
/-- An element's cells, and what its slices lead to. -/
def ElKd (w : World) (B : Nat) (v : List Value) (k : Knd) : Prop := ∃ (A1 A2 : Option Addr) (c1 c2 : Nat), v = [.int .i64 k.name, .int .i64 k.cost, .int .i64 k.power, .int .i64 k.health, .slice A1 k.tags.length c1, .slice A2 k.effs.length c2] ∧ WIn w B (.slice A1 k.tags.length c1) k.tags ∧ WEf w B (.slice A2 k.effs.length c2) k.effs
theorem elKd_k : ElK ElKd := ⟨fun _ _ _ _ _ _ ⟨A1, A2, c1, c2, e, h1, h2⟩ hk hS => ⟨A1, A2, c1, c2, e, h1.keeps hk hS, h2.keeps hk hS⟩, fun _ _ _ _ _ ⟨A1, A2, c1, c2, e, h1, h2⟩ hB => ⟨A1, A2, c1, c2, e, h1.less hB, h2.less hB⟩⟩
def markKd (i : Nat) : List Value := [.int .i64 (1048576 * 9 + (i : Int) + 1), .int .i64 0, .int .i64 0, .int .i64 0, .slice none 0 0, .slice none 0 0]
set_option maxRecDepth 4000 in
set_option maxHeartbeats 1000000 in
theorem wideKind_any (k : Knd) (A1 A2 : Option Addr) (c1 c2 : Nat) (w : World) (h1 : Lies w w.heap.size A1 (k.tags.map (Value.int .i64))) (h2 : EfLies w w.heap.size A2 k.effs) (hm : KndFew k) :
    Calls Tryz.prog 88 #[.agg (kndV k A1 A2 c1 c2)] w fun r w' => ∃ (B1 B2 : Option Addr) (d1 d2 : Nat), r = .returned (.agg (kndV k B1 B2 d1 d2)) ∧ WIn w' w.heap.size (.slice B1 k.tags.length d1) k.tags ∧ WEf w' w.heap.size (.slice B2 k.effs.length d2) k.effs ∧ Keeps (fun _ => False) w w' := by
  unfold kndV
  have P := Lib.hid ((Whole.made w 40 #[.int .i64 k.name, .int .i64 k.cost, .int .i64 k.power, .int .i64 k.health, .slice A1 k.tags.length c1, .slice A2 k.effs.length c2]).alloc (.cells #[.int .i64 0, .int .i64 0, .int .i64 0, .int .i64 0, .slice none 0 0, .slice none 0 0] 40))
  have R := Lib.hid (Whole.made (w.alloc (.cells #[.int .i64 k.name, .int .i64 k.cost, .int .i64 k.power, .int .i64 k.health, .slice A1 k.tags.length c1, .slice A2 k.effs.length c2] 40)) 40 #[.int .i64 0, .int .i64 0, .int .i64 0, .int .i64 0, .slice none 0 0, .slice none 0 0])
  rw [show (w.alloc (.cells #[.int .i64 k.name, .int .i64 k.cost, .int .i64 k.power, .int .i64 k.health, .slice A1 k.tags.length c1, .slice A2 k.effs.length c2] 40)).heap.size = w.heap.size + 1 by simp] at R
  have K := Lib.hid (((Keeps.refl (fun _ => False) w).alloc (.cells #[.int .i64 k.name, .int .i64 k.cost, .int .i64 k.power, .int .i64 k.health, .slice A1 k.tags.length c1, .slice A2 k.effs.length c2] 40)).alloc (.cells #[.int .i64 0, .int .i64 0, .int .i64 0, .int .i64 0, .slice none 0 0, .slice none 0 0] 40))
  have Z : Hid (w.heap.size + 2 ≤ ((w.alloc (.cells (#[.int .i64 k.name, .int .i64 k.cost, .int .i64 k.power, .int .i64 k.health, .slice A1 k.tags.length c1, .slice A2 k.effs.length c2]) 40)).alloc (.cells #[.int .i64 0, .int .i64 0, .int .i64 0, .int .i64 0, .slice none 0 0, .slice none 0 0] 40)).heap.size) := Lib.hid (by simp)
  have H1 := Lib.hid h1
  have H2 := Lib.hid h2
  clear h1 h2
  go_enter Tryz.func88, Tryz.ntmps88
  go_wp2_with fail
  generalize ((w.alloc (.cells (#[.int .i64 k.name, .int .i64 k.cost, .int .i64 k.power, .int .i64 k.health, .slice A1 k.tags.length c1, .slice A2 k.effs.length c2]) 40)).alloc (.cells #[.int .i64 0, .int .i64 0, .int .i64 0, .int .i64 0, .slice none 0 0, .slice none 0 0] 40)) = w0 at *
  refine (wideInts_in k.tags A1 c1 w0 ((H1.out.keeps K.out (fun _ _ => id) (Nat.le_refl _)).more (by have := Z.out; omega)) (hm.tags)).mono ?_
  rintro r w1 ⟨B1, d1, rfl, E1n, kk⟩
  have E1 := Lib.hid (E1n.less Z.out)
  clear E1n
  replace P := Lib.hid (P.out.keeps kk id)
  replace R := Lib.hid (R.out.keeps kk id)
  replace K := Lib.hid (K.out.trans kk)
  replace Z : Hid (w.heap.size + 2 ≤ w1.heap.size) := Lib.hid (Nat.le_trans Z.out kk.size)
  clear kk
  obtain ⟨a0, a1, a2, a3, a4, a5⟩ := six P.out
  have pf := P.out.free 4
  go_wp2_with fail
  clear a0 a1 a2 a3 a4 a5 pf
  replace K := Lib.hid (K.out.setCell (p := ⟨w.heap.size, 4, none⟩) (fun h => absurd h (Nat.lt_irrefl _)) (.slice B1 k.tags.length d1))
  have ks := (Keeps.refl (fun b => b = w.heap.size) w1).setCell (p := ⟨w.heap.size, 4, none⟩) (fun _ => rfl) (.slice B1 k.tags.length d1)
  replace P := Lib.hid (P.out.put 4 (.slice B1 k.tags.length d1))
  replace R := Lib.hid (R.out.keeps ks (by omega))
  replace Z := Lib.hid (Nat.le_trans Z.out ks.size)
  replace E1 := Lib.hid (E1.out.keeps ks (fun b hb e => by omega))
  clear ks
  generalize w1.setCell ⟨w.heap.size, 4, none⟩ (.slice B1 k.tags.length d1) = v1 at *
  refine (wideEffects_in k.effs A2 c2 v1 ((H2.out.keeps K.out (fun _ _ => id) (Nat.le_refl _)).more (by have := Z.out; omega)) (hm.effs) (hm.each)).mono ?_
  rintro r w2 ⟨B2, d2, rfl, E2n, kk⟩
  have E2 := Lib.hid (E2n.less Z.out)
  clear E2n
  replace E1 := Lib.hid (E1.out.keeps kk (fun _ _ => id))
  replace P := Lib.hid (P.out.keeps kk id)
  replace R := Lib.hid (R.out.keeps kk id)
  replace K := Lib.hid (K.out.trans kk)
  replace Z : Hid (w.heap.size + 2 ≤ w2.heap.size) := Lib.hid (Nat.le_trans Z.out kk.size)
  clear kk
  obtain ⟨a0, a1, a2, a3, a4, a5⟩ := six P.out
  have pf := P.out.free 5
  obtain ⟨b0, b1, b2, b3, b4, b5⟩ := six R.out
  have rf0 := R.out.free 0
  have rf1 := R.out.free 1
  have rf2 := R.out.free 2
  have rf3 := R.out.free 3
  have rf4 := R.out.free 4
  have rf5 := R.out.free 5
  have RF := Lib.hid (((((((R.out.putFar (p := ⟨w.heap.size, 5, none⟩) (by show w.heap.size + 1 ≠ w.heap.size; omega) (.slice B2 k.effs.length d2)).put 0 (.int .i64 k.name)).put 1 (.int .i64 k.cost)).put 2 (.int .i64 k.power)).put 3 (.int .i64 k.health)).put 4 (.slice B1 k.tags.length d1)).put 5 (.slice B2 k.effs.length d2))
  have KF := Lib.hid ((((((((Keeps.refl (fun b => b = w.heap.size ∨ b = w.heap.size + 1) w2).setCell (p := ⟨w.heap.size, 5, none⟩) (fun _ => .inl rfl) (.slice B2 k.effs.length d2)).setCell (p := ⟨w.heap.size + 1, 0, none⟩) (fun _ => .inr rfl) (.int .i64 k.name)).setCell (p := ⟨w.heap.size + 1, 1, none⟩) (fun _ => .inr rfl) (.int .i64 k.cost)).setCell (p := ⟨w.heap.size + 1, 2, none⟩) (fun _ => .inr rfl) (.int .i64 k.power)).setCell (p := ⟨w.heap.size + 1, 3, none⟩) (fun _ => .inr rfl) (.int .i64 k.health)).setCell (p := ⟨w.heap.size + 1, 4, none⟩) (fun _ => .inr rfl) (.slice B1 k.tags.length d1)).setCell (p := ⟨w.heap.size + 1, 5, none⟩) (fun _ => .inr rfl) (.slice B2 k.effs.length d2))
  clear P R
  go_wp2_with fail
  refine bodyPost_ret (results_cell rfl _ (w.heap.size + 1) rfl (#[.int .i64 k.name, .int .i64 k.cost, .int .i64 k.power, .int .i64 k.health, .slice B1 k.tags.length d1, .slice B2 k.effs.length d2]) _ RF.out _ Tryz.underlying40 rfl (by kernel_rfl)) rfl ?_
  refine ⟨B1, B2, d1, d2, rfl, (E1.out.keeps KF.out (fun b hb e => by omega)).less (by omega), (E2.out.keeps KF.out (fun b hb e => by omega)).less (by omega), K.out.and KF.out (fun b hb e => by omega)⟩
set_option maxRecDepth 4000 in
set_option maxHeartbeats 1000000 in
theorem wideKinds_any (xs : List Knd) (A : Option Addr) (cap : Nat) (w : World) (hx : KdLies w w.heap.size A xs) (hl : xs.length ≤ 1000000000) (hr : ∀ r ∈ xs, KndFew r) :
    Calls Tryz.prog 26 #[.slice A xs.length cap] w fun e w' => e = .returned (.slice (some ⟨w.heap.size, 0, none⟩) xs.length (xs.length + 64)) ∧ Keeps (fun _ => False) w w' ∧ ∃ cs, WUp ElKd markKd 6 40 w.heap.size xs w' cs (xs.length + 64) := by
  have HX := Lib.hid hx; clear hx
  have hmk : ∀ w : World, (Instr.makeSlice 24 (.int .i64 ((xs.length : Int) + 64)) (.int .i64 ((xs.length : Int) + 64))).run Tryz.prog w = .ok (.slice (some ⟨w.heap.size, 0, none⟩) (xs.length + 64) (xs.length + 64)) (w.alloc (.cells (madeCells #[.int .i64 0, .int .i64 0, .int .i64 0, .int .i64 0, .slice none 0 0, .slice none 0 0] ((xs.length + 64) * 6)) 40)) := fun w => make_rows 24 40 _ 6 80 Tryz.underlying24 info_kndW (xs.length + 64) (by omega) (by omega) w
  go_enter Tryz.func26, Tryz.ntmps26
  go_wp2_with fail
  clear hmk
  have HK0 : Hid (Keeps (fun b => b = w.heap.size) w (w.alloc (.cells (madeCells #[.int .i64 0, .int .i64 0, .int .i64 0, .int .i64 0, .slice none 0 0, .slice none 0 0] ((xs.length + 64) * 6)) 40))) := Lib.hid ((Keeps.refl _ w).alloc _)
  have HU0 : Hid (WUp ElKd markKd 6 40 w.heap.size xs (w.alloc (.cells (madeCells #[.int .i64 0, .int .i64 0, .int .i64 0, .int .i64 0, .slice none 0 0, .slice none 0 0] ((xs.length + 64) * 6)) 40)) (madeCells #[.int .i64 0, .int .i64 0, .int .i64 0, .int .i64 0, .slice none 0 0, .slice none 0 0] ((xs.length + 64) * 6)) 0) := Lib.hid (WUp.start (Whole.made w _ _) (by rw [size_madeCells]))
  generalize madeCells #[.int .i64 0, .int .i64 0, .int .i64 0, .int .i64 0, .slice none 0 0, .slice none 0 0] ((xs.length + 64) * 6) = c0 at *
  go_loopw [4] (fun vi wr => ∃ (i : Nat) (cs : Array Value), i ≤ xs.length + 64 ∧ vi = .int .i64 i ∧ Hid (WUp ElKd markKd 6 40 w.heap.size xs wr cs i) ∧ Hid (Keeps (fun b => b = w.heap.size) w wr)) (fun vi _ => xs.length + 64 - (intOf vi).toNat)
  case atStart => exact ⟨0, _, by omega, rfl, HU0, HK0⟩
  case round =>
    clear HK0 HU0
    obtain ⟨i, cs, hi, rfl, HU, HK⟩ := hrel
    have hin : w.heap.size < wr.heap.size := HU.out.whole.inside
    by_cases hlt : i < xs.length
    · have hxi : xs[i]? = some xs[i] := List.getElem?_eq_getElem hlt
      obtain ⟨g, off, A1, c1, A2, c2, rfl, hg, k0, k1, k2, k3, k4, k5, hs, hc⟩ := (HX.out.keeps HK.out (fun b hb e => by omega) (Nat.le_refl _)) i xs[i] hxi
      have hri := hr xs[i] (List.getElem_mem hlt)
      generalize xs[i] = x at *
      go_wp2_with fail
      refine (wideKind_any x A1 A2 c1 c2 wr (hs.more (by omega)) (hc.more (by omega)) hri).mono ?_
      rintro e w1 ⟨B1, B2, d1, d2, rfl, E1, E2, kk⟩
      clear k0 k1 k2 k3 k4 k5 hs hc
      replace HU := Lib.hid (HU.out.keeps elKd_k kk (fun _ _ => id))
      replace HK := Lib.hid (HK.out.trans (kk.mono fun _ _ h => h.elim))
      obtain ⟨⟨u0, hu0⟩, hf0⟩ := HU.out.cells (by omega) 0 (by omega)
      obtain ⟨⟨u1, hu1⟩, hf1⟩ := HU.out.cells (by omega) 1 (by omega)
      obtain ⟨⟨u2, hu2⟩, hf2⟩ := HU.out.cells (by omega) 2 (by omega)
      obtain ⟨⟨u3, hu3⟩, hf3⟩ := HU.out.cells (by omega) 3 (by omega)
      obtain ⟨⟨u4, hu4⟩, hf4⟩ := HU.out.cells (by omega) 4 (by omega)
      obtain ⟨⟨u5, hu5⟩, hf5⟩ := HU.out.cells (by omega) 5 (by omega)
      rw [Nat.add_zero] at hu0 hf0
      have HN : Hid (WUp ElKd markKd 6 40 w.heap.size xs ((((((w1.setCell ⟨w.heap.size, i * 6, none⟩ (.int .i64 x.name)).setCell ⟨w.heap.size, i * 6 + 1, none⟩ (.int .i64 x.cost)).setCell ⟨w.heap.size, i * 6 + 2, none⟩ (.int .i64 x.power)).setCell ⟨w.heap.size, i * 6 + 3, none⟩ (.int .i64 x.health)).setCell ⟨w.heap.size, i * 6 + 4, none⟩ (.slice B1 x.tags.length d1)).setCell ⟨w.heap.size, i * 6 + 5, none⟩ (.slice B2 x.effs.length d2)) _ (i + 1)) := Lib.hid (HU.out.next elKd_k (by omega) [.int .i64 x.name, .int .i64 x.cost, .int .i64 x.power, .int .i64 x.health, .slice B1 x.tags.length d1, .slice B2 x.effs.length d2] rfl (fun y hy => by rw [hxi] at hy; injection hy with hy; subst hy; exact ⟨B1, B2, d1, d2, rfl, E1.less (by omega), E2.less (by omega)⟩) (fun h => absurd hlt (by omega)))
      have HK' := Lib.hid ((((((HK.out.setCell (p := ⟨w.heap.size, i * 6, none⟩) (fun _ => rfl) (.int .i64 x.name)).setCell (p := ⟨w.heap.size, i * 6 + 1, none⟩) (fun _ => rfl) (.int .i64 x.cost)).setCell (p := ⟨w.heap.size, i * 6 + 2, none⟩) (fun _ => rfl) (.int .i64 x.power)).setCell (p := ⟨w.heap.size, i * 6 + 3, none⟩) (fun _ => rfl) (.int .i64 x.health)).setCell (p := ⟨w.heap.size, i * 6 + 4, none⟩) (fun _ => rfl) (.slice B1 x.tags.length d1)).setCell (p := ⟨w.heap.size, i * 6 + 5, none⟩) (fun _ => rfl) (.slice B2 x.effs.length d2))
      clear HU HK E1 E2 kk hxi
      unfold kndV at *
      go_wp2_with fail
      go_roundw
      case rel => exact ⟨i + 1, _, by omega, by go_num, HN, HK'⟩
      case measure => simp [intOf]; omega
    · by_cases hlt2 : i < xs.length + 64
      · obtain ⟨⟨u0, hu0⟩, hf0⟩ := HU.out.cells hlt2 0 (by omega)
        obtain ⟨⟨u1, hu1⟩, hf1⟩ := HU.out.cells hlt2 1 (by omega)
        obtain ⟨⟨u2, hu2⟩, hf2⟩ := HU.out.cells hlt2 2 (by omega)
        obtain ⟨⟨u3, hu3⟩, hf3⟩ := HU.out.cells hlt2 3 (by omega)
        obtain ⟨⟨u4, hu4⟩, hf4⟩ := HU.out.cells hlt2 4 (by omega)
        obtain ⟨⟨u5, hu5⟩, hf5⟩ := HU.out.cells hlt2 5 (by omega)
        rw [Nat.add_zero] at hu0 hf0
        have HN : Hid (WUp ElKd markKd 6 40 w.heap.size xs ((((((wr.setCell ⟨w.heap.size, i * 6, none⟩ (.int .i64 (1048576 * 9 + (i : Int) + 1))).setCell ⟨w.heap.size, i * 6 + 1, none⟩ (.int .i64 0)).setCell ⟨w.heap.size, i * 6 + 2, none⟩ (.int .i64 0)).setCell ⟨w.heap.size, i * 6 + 3, none⟩ (.int .i64 0)).setCell ⟨w.heap.size, i * 6 + 4, none⟩ (.slice none 0 0)).setCell ⟨w.heap.size, i * 6 + 5, none⟩ (.slice none 0 0)) _ (i + 1)) := Lib.hid (HU.out.next elKd_k hlt2 [.int .i64 (1048576 * 9 + (i : Int) + 1), .int .i64 0, .int .i64 0, .int .i64 0, .slice none 0 0, .slice none 0 0] rfl (fun y hy => by rw [List.getElem?_eq_none (by omega)] at hy; cases hy) (fun _ => rfl))
        have HK' := Lib.hid ((((((HK.out.setCell (p := ⟨w.heap.size, i * 6, none⟩) (fun _ => rfl) (.int .i64 (1048576 * 9 + (i : Int) + 1))).setCell (p := ⟨w.heap.size, i * 6 + 1, none⟩) (fun _ => rfl) (.int .i64 0)).setCell (p := ⟨w.heap.size, i * 6 + 2, none⟩) (fun _ => rfl) (.int .i64 0)).setCell (p := ⟨w.heap.size, i * 6 + 3, none⟩) (fun _ => rfl) (.int .i64 0)).setCell (p := ⟨w.heap.size, i * 6 + 4, none⟩) (fun _ => rfl) (.slice none 0 0)).setCell (p := ⟨w.heap.size, i * 6 + 5, none⟩) (fun _ => rfl) (.slice none 0 0))
        clear HU HK
        go_wp2_with fail
        refine (num_any 9 i _ (by omega) (by omega)).mono ?_
        rintro e w1 ⟨rfl, rfl⟩
        go_wp2_with fail
        go_roundw
        case rel => exact ⟨i + 1, _, by omega, by go_num, HN, HK'⟩
        case measure => simp [intOf]; omega
      · obtain rfl : i = xs.length + 64 := by omega
        go_wp2_with fail
        go_ret
        exact ⟨rfl, HK.out.mono (fun b hb e => absurd e (by omega)), cs, HU.out⟩
def WKd (w : World) (B : Nat) (v : Value) (l : List Knd) : Prop := InRow ElKd markKd 6 40 w B v l
theorem WKd.keeps {S : Nat → Prop} {w w' : World} {B : Nat} {v : Value} {l : List Knd} (h : WKd w B v l) (hk : Keeps S w w') (hS : ∀ b, B ≤ b → ¬ S b) : WKd w' B v l := InRow.keepsOf elKd_k h hk hS
theorem WKd.less {w : World} {B B' : Nat} {v : Value} {l : List Knd} (h : WKd w B v l) (hB : B' ≤ B) : WKd w B' v l := InRow.less h hB
theorem wideKinds_in (l : List Knd) (A : Option Addr) (cap : Nat) (w : World) (hx : KdLies w w.heap.size A l) (hl : l.length ≤ 1000000000) (hr : ∀ r ∈ l, KndFew r) :
    Calls Tryz.prog 26 #[.slice A l.length cap] w fun e w' => ∃ A' c', e = .returned (.slice A' l.length c') ∧ WKd w' w.heap.size (.slice A' l.length c') l ∧ Keeps (fun _ => False) w w' :=
  (wideKinds_any l A cap w hx hl hr).mono fun _ _ ⟨h1, h2, cs, h3⟩ => ⟨_, _, h1, ⟨_, cs, rfl, Nat.le_refl _, h3⟩, h2⟩
end Go.Proofs.YtcmbdnjcfneinaaGreatDoor
/-
  The marked copy of a pack: the walk. Conditions: lengths within 10 ^ 9.
-/
namespace Go.Proofs.YtcmbdnjcfneinaaGreatDoor
open Go.RowKit
set_option maxRecDepth 4000 in
set_option maxHeartbeats 1000000 in
theorem widePack_any (p : Pk) (A1 A2 A3 : Option Addr) (c1 c2 c3 : Nat) (w : World) (h1 : Lies w w.heap.size A1 (p.ints.map (Value.int .i64))) (h2 : Lies w w.heap.size A2 (textsV p.texts)) (h3 : KdLies w w.heap.size A3 p.kinds) (hm : PkFew p) (hp : Pow w) :
    Calls Tryz.prog 7 #[.agg (pkC p A1 A2 A3 c1 c2 c3)] w fun r w' => ∃ (B1 B2 B3 : Option Addr) (d1 d2 d3 : Nat), r = .returned (.agg (pkC p B1 B2 B3 d1 d2 d3)) ∧ WLo w' w.heap.size (.slice B1 p.ints.length d1) p.ints ∧ WTx w' w.heap.size (.slice B2 p.texts.length d2) p.texts ∧ WKd w' w.heap.size (.slice B3 p.kinds.length d3) p.kinds ∧ Keeps (fun _ => False) w w' := by
  unfold pkC
  have P := Lib.hid ((Whole.made w 26 #[.int .i64 p.cards, .slice A1 p.ints.length c1, .slice A2 p.texts.length c2, .slice A3 p.kinds.length c3]).alloc (.cells #[.int .i64 0, .slice none 0 0, .slice none 0 0, .slice none 0 0] 26))
  have R := Lib.hid (Whole.made (w.alloc (.cells #[.int .i64 p.cards, .slice A1 p.ints.length c1, .slice A2 p.texts.length c2, .slice A3 p.kinds.length c3] 26)) 26 #[.int .i64 0, .slice none 0 0, .slice none 0 0, .slice none 0 0])
  rw [show (w.alloc (.cells #[.int .i64 p.cards, .slice A1 p.ints.length c1, .slice A2 p.texts.length c2, .slice A3 p.kinds.length c3] 26)).heap.size = w.heap.size + 1 by simp] at R
  have K := Lib.hid (((Keeps.refl (fun _ => False) w).alloc (.cells #[.int .i64 p.cards, .slice A1 p.ints.length c1, .slice A2 p.texts.length c2, .slice A3 p.kinds.length c3] 26)).alloc (.cells #[.int .i64 0, .slice none 0 0, .slice none 0 0, .slice none 0 0] 26))
  have Z : Hid (w.heap.size + 2 ≤ ((w.alloc (.cells (#[.int .i64 p.cards, .slice A1 p.ints.length c1, .slice A2 p.texts.length c2, .slice A3 p.kinds.length c3]) 26)).alloc (.cells #[.int .i64 0, .slice none 0 0, .slice none 0 0, .slice none 0 0] 26)).heap.size) := Lib.hid (by simp)
  have H1 := Lib.hid h1
  have H2 := Lib.hid h2
  have H3 := Lib.hid h3
  have HP := Lib.hid hp
  clear h1 h2 h3 hp
  go_enter Tryz.func7, Tryz.ntmps7
  go_wp2_with fail
  generalize ((w.alloc (.cells (#[.int .i64 p.cards, .slice A1 p.ints.length c1, .slice A2 p.texts.length c2, .slice A3 p.kinds.length c3]) 26)).alloc (.cells #[.int .i64 0, .slice none 0 0, .slice none 0 0, .slice none 0 0] 26)) = w0 at *
  refine (wideLongs_in p.ints A1 c1 w0 ((H1.out.keeps K.out (fun _ _ => id) (Nat.le_refl _)).more (by have := Z.out; omega)) (hm.ints)).mono ?_
  rintro r w1 ⟨B1, d1, rfl, E1n, kk⟩
  have E1 := Lib.hid (E1n.less Z.out)
  clear E1n
  replace P := Lib.hid (P.out.keeps kk id)
  replace R := Lib.hid (R.out.keeps kk id)
  replace K := Lib.hid (K.out.trans kk)
  replace Z : Hid (w.heap.size + 2 ≤ w1.heap.size) := Lib.hid (Nat.le_trans Z.out kk.size)
  clear kk
  obtain ⟨a0, a1, a2, a3⟩ := four P.out
  have pf := P.out.free 1
  go_wp2_with fail
  clear a0 a1 a2 a3 pf
  replace K := Lib.hid (K.out.setCell (p := ⟨w.heap.size, 1, none⟩) (fun h => absurd h (Nat.lt_irrefl _)) (.slice B1 p.ints.length d1))
  have ks := (Keeps.refl (fun b => b = w.heap.size) w1).setCell (p := ⟨w.heap.size, 1, none⟩) (fun _ => rfl) (.slice B1 p.ints.length d1)
  replace P := Lib.hid (P.out.put 1 (.slice B1 p.ints.length d1))
  replace R := Lib.hid (R.out.keeps ks (by omega))
  replace Z := Lib.hid (Nat.le_trans Z.out ks.size)
  replace E1 := Lib.hid (E1.out.keeps ks (fun b hb e => by omega))
  clear ks
  generalize w1.setCell ⟨w.heap.size, 1, none⟩ (.slice B1 p.ints.length d1) = v1 at *
  refine (wideTexts_in p.texts A2 c2 v1 ((H2.out.keeps K.out (fun _ _ => id) (Nat.le_refl _)).more (by have := Z.out; omega)) (hm.texts) (HP.out.past K.out)).mono ?_
  rintro r w2 ⟨B2, d2, rfl, E2n, kk⟩
  have E2 := Lib.hid (E2n.less Z.out)
  clear E2n
  replace E1 := Lib.hid (E1.out.keeps kk (fun _ _ => id))
  replace P := Lib.hid (P.out.keeps kk id)
  replace R := Lib.hid (R.out.keeps kk id)
  replace K := Lib.hid (K.out.trans kk)
  replace Z : Hid (w.heap.size + 2 ≤ w2.heap.size) := Lib.hid (Nat.le_trans Z.out kk.size)
  clear kk
  obtain ⟨a0, a1, a2, a3⟩ := four P.out
  have pf := P.out.free 2
  go_wp2_with fail
  clear a0 a1 a2 a3 pf
  replace K := Lib.hid (K.out.setCell (p := ⟨w.heap.size, 2, none⟩) (fun h => absurd h (Nat.lt_irrefl _)) (.slice B2 p.texts.length d2))
  have ks := (Keeps.refl (fun b => b = w.heap.size) w2).setCell (p := ⟨w.heap.size, 2, none⟩) (fun _ => rfl) (.slice B2 p.texts.length d2)
  replace P := Lib.hid (P.out.put 2 (.slice B2 p.texts.length d2))
  replace R := Lib.hid (R.out.keeps ks (by omega))
  replace Z := Lib.hid (Nat.le_trans Z.out ks.size)
  replace E1 := Lib.hid (E1.out.keeps ks (fun b hb e => by omega))
  replace E2 := Lib.hid (E2.out.keeps ks (fun b hb e => by omega))
  clear ks
  generalize w2.setCell ⟨w.heap.size, 2, none⟩ (.slice B2 p.texts.length d2) = v2 at *
  refine (wideKinds_in p.kinds A3 c3 v2 ((H3.out.keeps K.out (fun _ _ => id) (Nat.le_refl _)).more (by have := Z.out; omega)) (hm.kinds) (hm.each)).mono ?_
  rintro r w3 ⟨B3, d3, rfl, E3n, kk⟩
  have E3 := Lib.hid (E3n.less Z.out)
  clear E3n
  replace E1 := Lib.hid (E1.out.keeps kk (fun _ _ => id))
  replace E2 := Lib.hid (E2.out.keeps kk (fun _ _ => id))
  replace P := Lib.hid (P.out.keeps kk id)
  replace R := Lib.hid (R.out.keeps kk id)
  replace K := Lib.hid (K.out.trans kk)
  replace Z : Hid (w.heap.size + 2 ≤ w3.heap.size) := Lib.hid (Nat.le_trans Z.out kk.size)
  clear kk
  obtain ⟨a0, a1, a2, a3⟩ := four P.out
  have pf := P.out.free 3
  obtain ⟨b0, b1, b2, b3⟩ := four R.out
  have rf0 := R.out.free 0
  have rf1 := R.out.free 1
  have rf2 := R.out.free 2
  have rf3 := R.out.free 3
  have RF := Lib.hid (((((R.out.putFar (p := ⟨w.heap.size, 3, none⟩) (by show w.heap.size + 1 ≠ w.heap.size; omega) (.slice B3 p.kinds.length d3)).put 0 (.int .i64 p.cards)).put 1 (.slice B1 p.ints.length d1)).put 2 (.slice B2 p.texts.length d2)).put 3 (.slice B3 p.kinds.length d3))
  have KF := Lib.hid ((((((Keeps.refl (fun b => b = w.heap.size ∨ b = w.heap.size + 1) w3).setCell (p := ⟨w.heap.size, 3, none⟩) (fun _ => .inl rfl) (.slice B3 p.kinds.length d3)).setCell (p := ⟨w.heap.size + 1, 0, none⟩) (fun _ => .inr rfl) (.int .i64 p.cards)).setCell (p := ⟨w.heap.size + 1, 1, none⟩) (fun _ => .inr rfl) (.slice B1 p.ints.length d1)).setCell (p := ⟨w.heap.size + 1, 2, none⟩) (fun _ => .inr rfl) (.slice B2 p.texts.length d2)).setCell (p := ⟨w.heap.size + 1, 3, none⟩) (fun _ => .inr rfl) (.slice B3 p.kinds.length d3))
  clear P R
  go_wp2_with fail
  refine bodyPost_ret (results_cell rfl _ (w.heap.size + 1) rfl (#[.int .i64 p.cards, .slice B1 p.ints.length d1, .slice B2 p.texts.length d2, .slice B3 p.kinds.length d3]) _ RF.out _ Tryz.underlying26 rfl (by kernel_rfl)) rfl ?_
  refine ⟨B1, B2, B3, d1, d2, d3, rfl, (E1.out.keeps KF.out (fun b hb e => by omega)).less (by omega), (E2.out.keeps KF.out (fun b hb e => by omega)).less (by omega), (E3.out.keeps KF.out (fun b hb e => by omega)).less (by omega), K.out.and KF.out (fun b hb e => by omega)⟩
end Go.Proofs.YtcmbdnjcfneinaaGreatDoor
