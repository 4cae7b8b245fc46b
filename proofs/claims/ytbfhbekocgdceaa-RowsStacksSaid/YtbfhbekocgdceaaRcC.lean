/-
  Chapter 04: lists with marks behind: the walks. Conditions: lengths within 10 ^ 9.
-/
import Derived.Test.YtbfhbekocgdceaaRcA
namespace Go.Proofs.Ytbfhbekocgdceaa
open Go.RowKit
/-- The first i cells are those of the other. -/
def Filled (full : Array Value) (cs : Array Value) (i : Nat) : Prop := cs.size = full.size ∧ ∀ j, j < i → cs[j]? = full[j]?
theorem Filled.zero {full cs : Array Value} (h : cs.size = full.size) : Filled full cs 0 := ⟨h, fun _ hj => absurd hj (Nat.not_lt_zero _)⟩
theorem Filled.step {full cs : Array Value} {i : Nat} {v : Value} (h : Filled full cs i) (hv : full[i]? = some v) : Filled full (cs.setIfInBounds i v) (i + 1) := by
  have hi : i < full.size := (Array.getElem?_eq_some_iff.1 hv).1
  refine ⟨by rw [Array.size_setIfInBounds]; exact h.1, fun j hj => ?_⟩
  rw [Array.getElem?_setIfInBounds]
  by_cases e : i = j
  · subst e; rw [if_pos rfl, if_pos (by rw [h.1]; exact hi), hv]
  · rw [if_neg e]; exact h.2 j (by omega)
theorem Filled.full {full cs : Array Value} {i : Nat} (h : Filled full cs i) (hi : full.size ≤ i) : cs = full := by
  apply Array.ext_getElem?
  intro j
  by_cases hj : j < i
  · exact h.2 j hj
  · rw [Array.getElem?_eq_none (by have := h.1; omega), Array.getElem?_eq_none (by omega)]
/-- A list with its marks behind. -/
def wideR (xs : List Int) : List Int := xs ++ List.replicate 5 (-77)
theorem wideR_length (xs : List Int) : (wideR xs).length = xs.length + 5 := by simp [wideR]
theorem wideR_low (xs : List Int) (i : Nat) (h : i < xs.length) : (ints (wideR xs))[i]? = some (.int .i64 xs[i]) := by
  rw [ints_get, wideR, List.getElem?_append_left h, List.getElem?_eq_getElem h]; rfl
theorem wideR_high (xs : List Int) (i : Nat) (h : ¬ i < xs.length) (h2 : i < xs.length + 5) : (ints (wideR xs))[i]? = some (.int .i64 (-77)) := by
  rw [ints_get, wideR, List.getElem?_append_right (by omega), List.getElem?_replicate, if_pos (by omega)]; rfl
/-- The first i cells are of the list, the others are marks (cells of m marks in all). -/
def half (xs : List Int) (i : Nat) : List Int := xs.take i ++ List.replicate (xs.length + 5 - i) (-77)
theorem half_zero (xs : List Int) : half xs 0 = List.replicate (xs.length + 5) (-77) := by simp [half]
theorem half_length (xs : List Int) (i : Nat) (h : i ≤ xs.length) : (half xs i).length = xs.length + 5 := by simp [half]; omega
theorem half_set (xs : List Int) (i : Nat) (h : i < xs.length) : (half xs i).set i xs[i] = half xs (i + 1) := by
  unfold half
  rw [show xs.length + 5 - i = (xs.length + 5 - (i + 1)) + 1 by omega, List.replicate_succ, List.set_append_right _ _ (by simp; omega), List.length_take, Nat.min_eq_left (by omega), Nat.sub_self, List.set_cons_zero, List.take_succ_eq_append_getElem h, List.append_assoc]
  rfl
theorem half_all (xs : List Int) : half xs xs.length = wideR xs := by unfold half wideR; rw [List.take_length, show xs.length + 5 - xs.length = 5 by omega]
theorem ints_rep (n : Nat) : ints (List.replicate n (-77)) = Array.replicate n (.int .i64 (-77)) := by
  apply Array.ext_getElem?
  intro i
  rw [ints_get, List.getElem?_replicate, Array.getElem?_replicate]
  split <;> rfl
set_option maxHeartbeats 2000000 in
theorem wide_any (xs : List Int) (A : Option Addr) (cap : Nat) (w : World) (hx : Lies w w.heap.size A (xs.map (Value.int .i64))) (hl : xs.length ≤ 1000000000) :
    Calls Try.prog 22 #[.slice A xs.length cap] w fun e w' => e = .returned (.slice (some ⟨w.heap.size, 0, none⟩) xs.length (xs.length + 5)) ∧ Whole w' w.heap.size 3 (ints (wideR xs)) ∧ Keeps (fun _ => False) w w' := by
  have HX := Lib.hid hx; clear hx
  have hmk : ∀ w : World, (Instr.makeSlice 44 (.int .i64 ((xs.length : Int) + 5)) (.int .i64 ((xs.length : Int) + 5))).run Try.prog w = .ok (.slice (some ⟨w.heap.size, 0, none⟩) (xs.length + 5) (xs.length + 5)) (w.alloc (.cells (madeCells #[.int .i64 0] (xs.length + 5)) 3)) := fun w => run_make_row' 44 3 (.int .i64 0) 8 Try.underlying44 info_cI rfl .i64 .i64 (xs.length + 5) (by omega) (by omega) w
  go_enter Try.func22, Try.ntmps22
  go_wp2_with fail
  clear hmk
  have HW0 : Hid (Whole (w.alloc (.cells (madeCells #[.int .i64 0] (xs.length + 5)) 3)) w.heap.size 3 (madeCells #[.int .i64 0] (xs.length + 5))) := Lib.hid (Whole.made w _ _)
  have HK0 : Hid (Keeps (fun b => b = w.heap.size) w (w.alloc (.cells (madeCells #[.int .i64 0] (xs.length + 5)) 3))) := Lib.hid ((Keeps.refl _ w).alloc _)
  have HMS : Hid ((madeCells #[.int .i64 0] (xs.length + 5)).size = (Array.replicate (xs.length + 5) (Value.int .i64 (-77))).size) := Lib.hid (by rw [size_madeCells, Array.size_replicate])
  go_loopw [4] (fun vi wr => ∃ (i : Nat) (cs : Array Value), i ≤ xs.length + 5 ∧ vi = .int .i64 i ∧ Hid (Filled (Array.replicate (xs.length + 5) (Value.int .i64 (-77))) cs i) ∧ Hid (Whole wr w.heap.size 3 cs) ∧ Hid (Keeps (fun b => b = w.heap.size) w wr)) (fun vi _ => xs.length + 5 - (intOf vi).toNat)
  case atStart => exact ⟨0, _, by omega, rfl, Lib.hid (Filled.zero HMS.out), HW0, HK0⟩
  case round =>
    clear HW0 HK0 HMS
    obtain ⟨i, cs, hi, rfl, HF, HW, HK⟩ := hrel
    by_cases hlt : i < xs.length + 5
    · obtain ⟨u, hu⟩ : ∃ u, wr.cell? ⟨w.heap.size, i, none⟩ = some u := ⟨_, (HW.out.cellAt i).trans (Array.getElem?_eq_getElem (by rw [HF.out.1, Array.size_replicate]; omega))⟩
      have hf := HW.out.free i
      have HF' := Lib.hid (HF.out.step (v := .int .i64 (-77)) (by rw [Array.getElem?_replicate, if_pos hlt]))
      have HW' := Lib.hid (HW.out.put i (.int .i64 (-77)))
      have HK' := Lib.hid (HK.out.setCell (p := ⟨w.heap.size, i, none⟩) (fun _ => rfl) (.int .i64 (-77)))
      clear HW HK HF
      go_wp2_with fail
      go_roundw
      case rel => exact ⟨i + 1, _, by omega, by go_num, HF', HW', HK'⟩
      case measure => simp [intOf]; omega
    · obtain rfl : i = xs.length + 5 := by omega
      have hfull := HF.out.full (by rw [Array.size_replicate]; omega)
      subst hfull
      have HW1 : Hid (Whole wr w.heap.size 3 (ints (half xs 0))) := Lib.hid (by rw [half_zero, ints_rep]; exact HW.out)
      clear HW HF hlt
      obtain ⟨w1, rfl⟩ : ∃ x, x = wr := ⟨_, rfl⟩
      go_wp2_with fail
      go_loopw [5] (fun vi wr => ∃ (i : Nat), i ≤ xs.length ∧ vi = .int .i64 i ∧ Hid (Whole wr w.heap.size 3 (ints (half xs i))) ∧ Hid (Keeps (fun b => b = w.heap.size) w wr)) (fun vi _ => xs.length - (intOf vi).toNat)
      case atStart => exact ⟨0, by omega, rfl, HW1, HK⟩
      case round =>
        clear HW1 HK
        obtain ⟨i, hi2, rfl, HW, HK⟩ := hrel
        by_cases hlt : i < xs.length
        · obtain ⟨g, off, rfl, hg, hc⟩ := HX.out i (.int .i64 xs[i]) (by simp [hlt])
          have hc0 : wr.cell? ⟨g, off + i, none⟩ = some (.int .i64 xs[i]) := (HK.out.cell hg (by omega)).trans hc
          obtain ⟨u, hu⟩ : ∃ u, wr.cell? ⟨w.heap.size, i, none⟩ = some u := ⟨_, (HW.out.cellAt i).trans (Array.getElem?_eq_getElem (by rw [ints_size, half_length xs i hi2]; omega))⟩
          have hf := HW.out.free i
          have HS := Lib.hid (half_set xs i hlt)
          clear hc
          generalize xs[i] = x at *
          have HW' : Hid (Whole (wr.setCell ⟨w.heap.size, i, none⟩ (.int .i64 x)) w.heap.size 3 (ints (half xs (i + 1)))) := Lib.hid (by rw [← HS.out, ← ints_set]; exact HW.out.put i (.int .i64 x))
          have HK' := Lib.hid (HK.out.setCell (p := ⟨w.heap.size, i, none⟩) (fun _ => rfl) (.int .i64 x))
          clear HW HK HS
          go_wp2_with fail
          go_roundw
          case rel => exact ⟨i + 1, by omega, by go_num, HW', HK'⟩
          case measure => simp [intOf]; omega
        · obtain rfl : i = xs.length := by omega
          have HW1 : Hid (Whole wr w.heap.size 3 (ints (wideR xs))) := Lib.hid (by rw [← half_all]; exact HW.out)
          clear HW
          have hb1 : (xs.length : Int) ≤ (xs.length : Int) + 5 := by omega
          have hb2 : xs.length ≤ xs.length + 5 := by omega
          go_wp2_with fail
          go_ret
          exact ⟨rfl, HW1.out, HK.out.mono (fun b hb e => absurd e (by omega))⟩
/-- Such a list is as it was. -/
theorem kept_any (xs : List Int) (g : Nat) (A : Option Addr) (B cap : Nat) (w : World) (hW : Whole w g 3 (ints (wideR xs))) (hx : Lies w B A (xs.map (Value.int .i64))) (hl : xs.length ≤ 1000000000) :
    Calls Try.prog 30 #[.slice (some ⟨g, 0, none⟩) xs.length (xs.length + 5), .slice A xs.length cap] w fun e w' => e = .returned (.bool true) ∧ ∃ n, w' = w.drewN n := by
  have HW := Lib.hid hW
  have HS := Lib.hid (rsame_any xs xs (some ⟨g, 0, none⟩) A (g + 1) B (xs.length + 5) cap w (Lies.whole hW (fun k u hu => by
    rw [Nat.zero_add]
    have hk := (List.getElem?_eq_some_iff.1 hu).1
    rw [List.length_map] at hk
    rw [wideR_low xs k hk, ← hu]; simp [hk]) (Nat.lt_succ_self _)) hx (by omega))
  clear hW hx
  have hb1 : (xs.length : Int) + 5 ≤ (xs.length : Int) + 5 := Int.le_refl _
  go_enter Try.func30, Try.ntmps30
  go_wp2_with fail
  refine HS.out.mono ?_
  rintro e w1 ⟨he, n1, rfl⟩
  obtain rfl : e = .returned (.bool true) := by simpa using he
  clear he
  go_wp2_with fail
  go_loopw [6] (fun vi wr => ∃ (i : Nat), xs.length ≤ i ∧ i ≤ xs.length + 5 ∧ vi = .int .i64 i ∧ wr = w.drewN n1) (fun vi _ => xs.length + 5 - (intOf vi).toNat)
  case atStart => exact ⟨xs.length, by omega, by omega, rfl, rfl⟩
  case round =>
    obtain ⟨i, hi1, hi, rfl, rfl⟩ := hrel
    by_cases hlt : i < xs.length + 5
    · have hc : w.cell? ⟨g, i, none⟩ = some (.int .i64 (-77)) := by rw [HW.out.cellAt, wideR_high xs i (by omega) hlt]
      go_wp2_with fail
      go_roundw
      case rel => exact ⟨i + 1, by omega, by omega, by go_num, trivial⟩
      case measure => simp [intOf]; omega
    · obtain rfl : i = xs.length + 5 := by omega
      go_wp2_with fail
      go_ret
      exact ⟨rfl, n1, rfl⟩
end Go.Proofs.Ytbfhbekocgdceaa
