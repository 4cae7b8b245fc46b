/-
  Chapter 04: orders: plain laws; Back and Is, the program's and the document's: the walks. Conditions: lengths within 10 ^ 9.
-/
import Derived.Test.YtbfhbekocgdceaaRcC
namespace Go.Proofs.Ytbfhbekocgdceaa
open Go.RowKit
theorem findZ_lt (xs : List Int) (x : Int) : -1 ≤ findZ xs x ∧ findZ xs x < xs.length := by
  unfold findZ
  split
  · rename_i i h
    rw [List.findIdx?_eq_some_iff_getElem] at h
    obtain ⟨h1, _⟩ := h
    omega
  · omega
theorem findZ_snoc (xs : List Int) (y x : Int) : findZ (xs ++ [y]) x = if findZ xs x < 0 then (if y = x then (xs.length : Int) else -1) else findZ xs x := by
  unfold findZ
  rw [List.findIdx?_append]
  cases h : xs.findIdx? (· == x) with
  | some i =>
    simp only [Option.some_or]
    rw [if_neg (by omega)]
  | none =>
    simp only [Option.none_or]
    rw [if_pos (by decide)]
    by_cases e : y = x
    · rw [if_pos e]; simp [e]
    · rw [if_neg e]; simp [e]
/-- Are the first i numbers places, no two of them the same? -/
def okTo (o : List Int) : Nat → Bool
  | 0 => true
  | i + 1 => okTo o i && (decide (0 ≤ o.getD i 0 ∧ o.getD i 0 < o.length) && decide (findZ (o.take i) (o.getD i 0) < 0))
def isO (o : List Int) : Bool := okTo o o.length
theorem okTo_down {o : List Int} {i j : Nat} (h : i ≤ j) (hj : okTo o j = true) : okTo o i = true := by
  induction j with
  | zero => obtain rfl : i = 0 := by omega
            exact hj
  | succ j ih =>
    by_cases e : i = j + 1
    · subst e; exact hj
    · simp only [okTo, Bool.and_eq_true] at hj
      exact ih (by omega) hj.1
theorem isO_off {o : List Int} {i : Nat} (hi : i < o.length) (h : ¬ (0 ≤ o[i] ∧ o[i] < o.length) ∨ ¬ findZ (o.take i) o[i] < 0) : isO o = false := by
  cases hh : isO o
  · rfl
  · have := okTo_down (i := i + 1) (by omega) hh
    simp only [okTo, Bool.and_eq_true, decide_eq_true_eq, List.getD_eq_getElem?_getD, List.getElem?_eq_getElem hi, Option.getD_some] at this
    rcases h with h | h
    · exact absurd this.2.1 h
    · exact absurd this.2.2 h
theorem okTo_step {o : List Int} {i : Nat} (hi : i < o.length) (h : okTo o i = true) (h1 : 0 ≤ o[i] ∧ o[i] < o.length) (h2 : findZ (o.take i) o[i] < 0) : okTo o (i + 1) = true := by
  simp only [okTo, Bool.and_eq_true, decide_eq_true_eq, List.getD_eq_getElem?_getD, List.getElem?_eq_getElem hi, Option.getD_some]
  exact ⟨h, h1, h2⟩
theorem isO_range {o : List Int} (h : isO o = true) (i : Nat) (hi : i < o.length) : 0 ≤ o[i] ∧ o[i] < o.length := by
  have := okTo_down (i := i + 1) (by omega) h
  simp only [okTo, Bool.and_eq_true, decide_eq_true_eq, List.getD_eq_getElem?_getD, List.getElem?_eq_getElem hi, Option.getD_some] at this
  exact this.2.1
/-- What leads back, of the first i numbers. -/
def backTo (o : List Int) (i : Nat) : List Int := (List.range o.length).map (fun j : Nat => findZ (o.take i) (j : Int))
def backL (o : List Int) : List Int := if isO o then backTo o o.length else []
theorem backTo_length (o : List Int) (i : Nat) : (backTo o i).length = o.length := by simp [backTo]
theorem backTo_get (o : List Int) (i j : Nat) (h : j < o.length) : (ints (backTo o i))[j]? = some (.int .i64 (findZ (o.take i) (j : Int))) := by
  rw [ints_get, backTo, List.getElem?_map, List.getElem?_range h]; rfl
theorem backTo_zero (o : List Int) : ints (backTo o 0) = Array.replicate o.length (.int .i64 (-1)) := by
  apply Array.ext_getElem?
  intro j
  by_cases h : j < o.length
  · rw [backTo_get o 0 j h, Array.getElem?_replicate, if_pos h]; rfl
  · rw [Array.getElem?_eq_none (by rw [ints_size, backTo_length]; omega), Array.getElem?_eq_none (by simp; omega)]
theorem backTo_step (o : List Int) (i q : Nat) (hi : i < o.length) (hq : o[i] = q) (hn : findZ (o.take i) (q : Int) < 0) : (backTo o i).set q (i : Int) = backTo o (i + 1) := by
  apply List.ext_getElem?
  intro j
  rw [List.getElem?_set, backTo_length]
  unfold backTo
  rw [List.getElem?_map, List.getElem?_map]
  by_cases h : j < o.length
  · rw [List.getElem?_range h]
    simp only [Option.map_some]
    rw [List.take_succ_eq_append_getElem hi, findZ_snoc, hq]
    by_cases e : q = j
    · subst e
      rw [if_pos rfl, if_pos h, if_pos hn, if_pos rfl, List.length_take, Nat.min_eq_left (by omega)]
    · rw [if_neg e]
      split
      · rename_i h1
        rw [if_neg (by omega)]
        have := findZ_lt (o.take i) (j : Int)
        congr 1; omega
      · rfl
  · rw [List.getElem?_eq_none (by simp; omega)]
    simp only [Option.map_none]
    split
    · rename_i e; subst e; rw [if_neg h]
    · rfl
/-- What a call that makes a row answers. -/
structure Made (w w' : World) (A : Option Addr) (c : Nat) (l : List Int) : Prop where
  own : w'.ownsRow w.heap.size 3 1 (.slice A l.length c) l.length (l.map (Value.int .i64))
  keeps : Keeps (fun _ => False) w w'
theorem Made.none (w : World) : Made w w none 0 [] := ⟨World.ownsRow_nil _ _ _ _, Keeps.refl _ _⟩
theorem own_of_whole {w : World} {g n base : Nat} {l : List Int} (h : Whole w g 3 (ints l)) (hn : l.length = n) (hb : base ≤ g) (hm : n ≤ maxLen) : w.ownsRow base 3 1 (.slice (some ⟨g, 0, none⟩) n n) n (l.map (Value.int .i64)) := by
  subst hn
  refine ⟨by simp, .inr ⟨g, l.length, ints l, rfl, hb, h, Nat.le_refl _, hm, by rw [ints_size]; simp, ?_⟩⟩
  simp only [ints, List.toList_toArray, Nat.mul_one]
  exact List.take_of_length_le (by simp)
set_option maxHeartbeats 4000000 in
theorem back_any (o : List Int) (A : Option Addr) (cap : Nat) (w : World) (hx : Lies w w.heap.size A (o.map (Value.int .i64))) (hl : o.length ≤ 1000000000) :
    Calls Try.prog 34 #[.slice A o.length cap] w fun e w' => ∃ A' c', e = .returned (.tuple #[.slice A' (backL o).length c', .bool (isO o)]) ∧ Made w w' A' c' (backL o) := by
  have HX := Lib.hid hx; clear hx
  have hmk : ∀ w : World, (Instr.makeSlice 44 (.int .i64 (o.length : Int)) (.int .i64 (o.length : Int))).run Try.prog w = .ok (.slice (some ⟨w.heap.size, 0, none⟩) o.length o.length) (w.alloc (.cells (madeCells #[.int .i64 0] o.length) 3)) := fun w => run_make_row' 44 3 (.int .i64 0) 8 Try.underlying44 info_cI rfl .i64 .i64 o.length (by omega) (by omega) w
  go_enter Try.func34, Try.ntmps34
  go_wp2_with fail
  clear hmk
  have HW0 : Hid (Whole (w.alloc (.cells (madeCells #[.int .i64 0] o.length) 3)) w.heap.size 3 (madeCells #[.int .i64 0] o.length)) := Lib.hid (Whole.made w _ _)
  have HK0 : Hid (Keeps (fun b => b = w.heap.size) w (w.alloc (.cells (madeCells #[.int .i64 0] o.length) 3))) := Lib.hid ((Keeps.refl _ w).alloc _)
  have HMS : Hid ((madeCells #[.int .i64 0] o.length).size = (Array.replicate o.length (Value.int .i64 (-1))).size) := Lib.hid (by rw [size_madeCells, Array.size_replicate])
  go_loopw [13] (fun vi wr => ∃ (i : Nat) (cs : Array Value), i ≤ o.length ∧ vi = .int .i64 i ∧ Hid (Filled (Array.replicate o.length (Value.int .i64 (-1))) cs i) ∧ Hid (Whole wr w.heap.size 3 cs) ∧ Hid (Keeps (fun b => b = w.heap.size) w wr)) (fun vi _ => o.length - (intOf vi).toNat)
  case atStart => exact ⟨0, _, by omega, rfl, Lib.hid (Filled.zero HMS.out), HW0, HK0⟩
  case round =>
    clear HW0 HK0 HMS
    obtain ⟨i, cs, hi, rfl, HF, HW, HK⟩ := hrel
    by_cases hlt : i < o.length
    · obtain ⟨u, hu⟩ : ∃ u, wr.cell? ⟨w.heap.size, i, none⟩ = some u := ⟨_, (HW.out.cellAt i).trans (Array.getElem?_eq_getElem (by rw [HF.out.1, Array.size_replicate]; omega))⟩
      have hf := HW.out.free i
      have HF' := Lib.hid (HF.out.step (v := .int .i64 (-1)) (by rw [Array.getElem?_replicate, if_pos hlt]))
      have HW' := Lib.hid (HW.out.put i (.int .i64 (-1)))
      have HK' := Lib.hid (HK.out.setCell (p := ⟨w.heap.size, i, none⟩) (fun _ => rfl) (.int .i64 (-1)))
      clear HW HK HF
      go_wp2_with fail
      go_roundw
      case rel => exact ⟨i + 1, _, by omega, by go_num, HF', HW', HK'⟩
      case measure => simp [intOf]; omega
    · obtain rfl : i = o.length := by omega
      have hfull := HF.out.full (by rw [Array.size_replicate]; omega)
      subst hfull
      have HW1 : Hid (Whole wr w.heap.size 3 (ints (backTo o 0))) := Lib.hid (by rw [backTo_zero]; exact HW.out)
      clear HW HF hlt
      obtain ⟨w1, rfl⟩ : ∃ x, x = wr := ⟨_, rfl⟩
      go_wp2_with fail
      go_loopw [22] (fun vi wr => ∃ (i : Nat), i ≤ o.length ∧ vi = .int .i64 i ∧ Hid (okTo o i = true) ∧ Hid (Whole wr w.heap.size 3 (ints (backTo o i))) ∧ Hid (Keeps (fun b => b = w.heap.size) w wr)) (fun vi _ => o.length - (intOf vi).toNat)
      case atStart => exact ⟨0, by omega, rfl, Lib.hid rfl, HW1, HK⟩
      case round =>
        clear HW1 HK
        obtain ⟨i, hi2, rfl, HO, HW, HK⟩ := hrel
        by_cases hlt : i < o.length
        · obtain ⟨g, off, rfl, hg, hc0⟩ := HX.out i (.int .i64 o[i]) (by simp [hlt])
          have hc : wr.cell? ⟨g, off + i, none⟩ = some (.int .i64 o[i]) := (HK.out.cell hg (by omega)).trans hc0
          clear hc0
          have HOFF := Lib.hid (isO_off (o := o) hlt)
          by_cases hz : o[i] < 0
          · have hf := HOFF.out (.inl (by omega))
            have HB : Hid (backL o = [] ∧ isO o = false) := Lib.hid ⟨by unfold backL; rw [hf]; rfl, hf⟩
            have HKF := Lib.hid (HK.out.mono (T := fun _ => False) (fun b hb e => absurd e (by omega)))
            clear hf HOFF HW HK
            generalize o[i] = z at *
            go_wp2_with fail
            go_ret2
            exact ⟨none, 0, by rw [HB.out.1, HB.out.2]; rfl, by rw [HB.out.1]; exact ⟨World.ownsRow_nil _ _ _ _, HKF.out⟩⟩
          · by_cases hzn : (o.length : Int) ≤ o[i]
            · have hf := HOFF.out (.inl (by omega))
              have HB : Hid (backL o = [] ∧ isO o = false) := Lib.hid ⟨by unfold backL; rw [hf]; rfl, hf⟩
              have HKF := Lib.hid (HK.out.mono (T := fun _ => False) (fun b hb e => absurd e (by omega)))
              clear hf HOFF HW HK
              generalize o[i] = z at *
              go_wp2_with fail
              go_ret2
              exact ⟨none, 0, by rw [HB.out.1, HB.out.2]; rfl, by rw [HB.out.1]; exact ⟨World.ownsRow_nil _ _ _ _, HKF.out⟩⟩
            · obtain ⟨q, hq⟩ : ∃ q : Nat, o[i] = (q : Int) := ⟨o[i].toNat, by omega⟩
              have hqn : q < o.length := by omega
              have hcq : wr.cell? ⟨w.heap.size, q, none⟩ = some (.int .i64 (findZ (o.take i) (q : Int))) := (HW.out.cellAt q).trans (backTo_get o i q hqn)
              have hfq := HW.out.free q
              by_cases hfd : findZ (o.take i) (q : Int) < 0
              · have HS := Lib.hid (backTo_step o i q hlt hq hfd)
                have HOK := Lib.hid (okTo_step hlt HO.out (by omega) (by rw [hq]; exact hfd))
                have HW' : Hid (Whole (wr.setCell ⟨w.heap.size, q, none⟩ (.int .i64 (i : Int))) w.heap.size 3 (ints (backTo o (i + 1)))) := Lib.hid (by rw [← HS.out, ← ints_set]; exact HW.out.put q (.int .i64 (i : Int)))
                have HK' := Lib.hid (HK.out.setCell (p := ⟨w.heap.size, q, none⟩) (fun _ => rfl) (.int .i64 (i : Int)))
                rw [hq] at hc
                clear HS HOFF HW HK HO hq hz hzn
                generalize findZ (o.take i) (q : Int) = v at *
                have hnn : ¬ ((q : Int) < 0) := by omega
                go_wp2_with fail
                go_roundw
                case rel => exact ⟨i + 1, by omega, by go_num, HOK, HW', HK'⟩
                case measure => simp [intOf]; omega
              · have hf := HOFF.out (.inr (by rw [hq]; exact hfd))
                have HB : Hid (backL o = [] ∧ isO o = false) := Lib.hid ⟨by unfold backL; rw [hf]; rfl, hf⟩
                have HKF := Lib.hid (HK.out.mono (T := fun _ => False) (fun b hb e => absurd e (by omega)))
                rw [hq] at hc
                clear hf HOFF HW HK hq hz hzn
                generalize findZ (o.take i) (q : Int) = v at *
                have hnn : ¬ ((q : Int) < 0) := by omega
                go_wp2_with fail
                go_ret2
                exact ⟨none, 0, by rw [HB.out.1, HB.out.2]; rfl, by rw [HB.out.1]; exact ⟨World.ownsRow_nil _ _ _ _, HKF.out⟩⟩
        · obtain rfl : i = o.length := by omega
          have HB : Hid (backL o = backTo o o.length ∧ isO o = true ∧ (backL o).length = o.length) := Lib.hid (by
            have h1 : isO o = true := HO.out
            have h2 : backL o = backTo o o.length := by unfold backL; rw [h1]; rfl
            exact ⟨h2, h1, by rw [h2, backTo_length]⟩)
          have HKF := Lib.hid (HK.out.mono (T := fun _ => False) (fun b hb e => absurd e (by omega)))
          go_wp2_with fail
          go_ret2
          refine ⟨some ⟨w.heap.size, 0, none⟩, o.length, by rw [HB.out.2.2, HB.out.2.1]; rfl, ⟨?_, HKF.out⟩⟩
          rw [HB.out.2.2, HB.out.1]
          exact own_of_whole HW.out (backTo_length _ _) (Nat.le_refl _) (by unfold maxLen; omega)
theorem is_any (o : List Int) (A : Option Addr) (cap : Nat) (w : World) (hx : Lies w w.heap.size A (o.map (Value.int .i64))) (hl : o.length ≤ 1000000000) :
    Calls Try.prog 32 #[.slice A o.length cap] w fun e w' => e = .returned (.bool (isO o)) ∧ Keeps (fun _ => False) w w' := by
  have H := Lib.hid (back_any o A cap w hx hl)
  clear hx
  go_enter Try.func32, Try.ntmps32
  go_wp2_with fail
  refine H.out.mono ?_
  rintro e w1 ⟨A1, c1, rfl, hm⟩
  have K1 := Lib.hid hm.keeps
  clear hm H
  go_wp2_with fail
  go_ret
  exact ⟨rfl, K1.out⟩
/-- What has been seen, of the first i numbers. -/
def seenA (o : List Int) (i : Nat) : Array Value := ((List.range o.length).map (fun j : Nat => Value.bool (decide (0 ≤ findZ (o.take i) (j : Int))))).toArray
theorem seenA_get (o : List Int) (i j : Nat) (h : j < o.length) : (seenA o i)[j]? = some (.bool (decide (0 ≤ findZ (o.take i) (j : Int)))) := by
  simp [seenA, h]
theorem seenA_size (o : List Int) (i : Nat) : (seenA o i).size = o.length := by simp [seenA]
theorem seenA_zero (o : List Int) : seenA o 0 = madeCells #[.bool false] o.length := by
  apply Array.ext_getElem?
  intro j
  by_cases h : j < o.length
  · rw [seenA_get o 0 j h, fillTo_zero _ (fun _ => .bool false), fillTo_get _ _ _ _ _ h, if_neg (Nat.not_lt_zero j)]
    simp [findZ]
  · rw [Array.getElem?_eq_none (by rw [seenA_size]; omega), Array.getElem?_eq_none (by rw [size_madeCells]; omega)]
theorem seenA_step (o : List Int) (i q : Nat) (hi : i < o.length) (hq : o[i] = q) : (seenA o i).setIfInBounds q (.bool true) = seenA o (i + 1) := by
  apply Array.ext_getElem?
  intro j
  rw [Array.getElem?_setIfInBounds]
  by_cases h : j < o.length
  · rw [seenA_get o _ j h, seenA_get o _ j h, List.take_succ_eq_append_getElem hi, findZ_snoc, hq]
    by_cases e : q = j
    · subst e
      rw [if_pos rfl, if_pos (by rw [seenA_size]; exact h)]
      split <;> simp <;> omega
    · rw [if_neg e]
      split
      · rename_i h1
        rw [if_neg (by omega)]
        congr 2
        simp; omega
      · rfl
  · rw [Array.getElem?_eq_none (by rw [seenA_size]; omega), Array.getElem?_eq_none (by rw [seenA_size]; omega)]
    split
    · rename_i e; subst e; rw [if_neg (by rw [seenA_size]; exact h)]
    · rfl
theorem info_boolR : (Try.prog.info? 4).map (fun i => (i.zero, i.size, i.bytes)) = some (some (.bool false), 1, 1) := by kernel_rfl
set_option maxHeartbeats 4000000 in
theorem refIs_any (o : List Int) (A : Option Addr) (cap : Nat) (w : World) (hx : Lies w w.heap.size A (o.map (Value.int .i64))) (hl : o.length ≤ 1000000000) :
    Calls Try.prog 37 #[.slice A o.length cap] w fun e w' => e = .returned (.bool (isO o)) ∧ Keeps (fun _ => False) w w' := by
  have HX := Lib.hid hx; clear hx
  have hmk : ∀ w : World, (Instr.makeSlice 123 (.int .i64 (o.length : Int)) (.int .i64 (o.length : Int))).run Try.prog w = .ok (.slice (some ⟨w.heap.size, 0, none⟩) o.length o.length) (w.alloc (.cells (madeCells #[.bool false] o.length) 4)) := fun w => run_make_row' 123 4 (.bool false) 1 Try.underlying123 info_boolR rfl .i64 .i64 o.length (by omega) (by omega) w
  go_enter Try.func37, Try.ntmps37
  go_wp2_with fail
  clear hmk
  have HW0 : Hid (Whole (w.alloc (.cells (madeCells #[.bool false] o.length) 4)) w.heap.size 4 (seenA o 0)) := Lib.hid (by rw [seenA_zero]; exact Whole.made w _ _)
  have HK0 : Hid (Keeps (fun b => b = w.heap.size) w (w.alloc (.cells (madeCells #[.bool false] o.length) 4))) := Lib.hid ((Keeps.refl _ w).alloc _)
  go_loopw [4] (fun vi wr => ∃ (i : Nat), i ≤ o.length ∧ vi = .int .i64 i ∧ Hid (okTo o i = true) ∧ Hid (Whole wr w.heap.size 4 (seenA o i)) ∧ Hid (Keeps (fun b => b = w.heap.size) w wr)) (fun vi _ => o.length - (intOf vi).toNat)
  case atStart => exact ⟨0, by omega, rfl, Lib.hid rfl, HW0, HK0⟩
  case round =>
    clear HW0 HK0
    obtain ⟨i, hi2, rfl, HO, HW, HK⟩ := hrel
    by_cases hlt : i < o.length
    · obtain ⟨g, off, rfl, hg, hc0⟩ := HX.out i (.int .i64 o[i]) (by simp [hlt])
      have hc : wr.cell? ⟨g, off + i, none⟩ = some (.int .i64 o[i]) := (HK.out.cell hg (by omega)).trans hc0
      clear hc0
      have HOFF := Lib.hid (isO_off (o := o) hlt)
      by_cases hz : o[i] < 0
      · have HB := Lib.hid (HOFF.out (.inl (by omega)))
        have HKF := Lib.hid (HK.out.mono (T := fun _ => False) (fun b hb e => absurd e (by omega)))
        clear HOFF HW HK
        generalize o[i] = z at *
        go_wp2_with fail
        go_ret
        exact ⟨by rw [HB.out]; rfl, HKF.out⟩
      · by_cases hzn : (o.length : Int) ≤ o[i]
        · have HB := Lib.hid (HOFF.out (.inl (by omega)))
          have HKF := Lib.hid (HK.out.mono (T := fun _ => False) (fun b hb e => absurd e (by omega)))
          clear HOFF HW HK
          generalize o[i] = z at *
          go_wp2_with fail
          go_ret
          exact ⟨by rw [HB.out]; rfl, HKF.out⟩
        · obtain ⟨q, hq⟩ : ∃ q : Nat, o[i] = (q : Int) := ⟨o[i].toNat, by omega⟩
          have hqn : q < o.length := by omega
          have hcq0 := (HW.out.cellAt q).trans (seenA_get o i q hqn)
          have hfq := HW.out.free q
          by_cases hfd : findZ (o.take i) (q : Int) < 0
          · have hcq : wr.cell? ⟨w.heap.size, q, none⟩ = some (.bool false) := by rw [hcq0, decide_eq_false (by omega)]
            have HS := Lib.hid (seenA_step o i q hlt hq)
            have HOK := Lib.hid (okTo_step hlt HO.out (by omega) (by rw [hq]; exact hfd))
            have HW' : Hid (Whole (wr.setCell ⟨w.heap.size, q, none⟩ (.bool true)) w.heap.size 4 (seenA o (i + 1))) := Lib.hid (by rw [← HS.out]; exact HW.out.put q (.bool true))
            have HK' := Lib.hid (HK.out.setCell (p := ⟨w.heap.size, q, none⟩) (fun _ => rfl) (.bool true))
            rw [hq] at hc
            clear HS HOFF HW HK HO hq hz hzn hcq0 hfd
            have hnn : ¬ ((q : Int) < 0) := by omega
            go_wp2_with fail
            go_roundw
            case rel => exact ⟨i + 1, by omega, by go_num, HOK, HW', HK'⟩
            case measure => simp [intOf]; omega
          · have hcq : wr.cell? ⟨w.heap.size, q, none⟩ = some (.bool true) := by rw [hcq0, decide_eq_true (by omega)]
            have HB := Lib.hid (HOFF.out (.inr (by rw [hq]; exact hfd)))
            have HKF := Lib.hid (HK.out.mono (T := fun _ => False) (fun b hb e => absurd e (by omega)))
            rw [hq] at hc
            clear HOFF HW HK hq hz hzn hcq0 hfd
            have hnn : ¬ ((q : Int) < 0) := by omega
            go_wp2_with fail
            go_ret
            exact ⟨by rw [HB.out]; rfl, HKF.out⟩
    · obtain rfl : i = o.length := by omega
      have HB : Hid (isO o = true) := HO
      have HKF := Lib.hid (HK.out.mono (T := fun _ => False) (fun b hb e => absurd e (by omega)))
      go_wp2_with fail
      go_ret
      exact ⟨by rw [HB.out]; rfl, HKF.out⟩
end Go.Proofs.Ytbfhbekocgdceaa
