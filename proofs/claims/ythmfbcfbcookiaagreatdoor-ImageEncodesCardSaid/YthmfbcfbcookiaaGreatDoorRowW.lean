/-
  The marked copies of a list of lists of numbers: the walk. Conditions: lengths within 10 ^ 9.
-/
import Derived.Test.YthmfbcfbcookiaaGreatDoorWf0
namespace Go.Proofs.YthmfbcfbcookiaaGreatDoor
open Go.RowKit
theorem info_row : (Tryz.prog.info? 90).map (fun i => (i.zero, i.size, i.bytes)) = some (some (.slice none 0 0), 1, 24) := by kernel_rfl
/-- Rows of numbers, where a slice says. -/
def RowsLie (w : World) (B : Nat) (A : Option Addr) (rows : List (List Int)) : Prop := ∀ i r, rows[i]? = some r → ∃ g off Ai ci, A = some ⟨g, off, none⟩ ∧ g < B ∧ w.cell? ⟨g, off + i, none⟩ = some (.slice Ai r.length ci) ∧ Lies w B Ai (r.map (Value.int .i64))
section
variable {w w' : World} {B : Nat} {A : Option Addr} {rows : List (List Int)}
theorem Lies.keeps {xs : List Value} {S : Nat → Prop} (h : Lies w B A xs) (hk : Keeps S w w') (hS : ∀ b, b < B → ¬ S b) (hB : B ≤ w.heap.size := by omega) : Lies w' B A xs := h.keep fun _ _ hb => hk.cell (by omega) (hS _ hb)
theorem RowsLie.keeps {S : Nat → Prop} (h : RowsLie w B A rows) (hk : Keeps S w w') (hS : ∀ b, b < B → ¬ S b) (hB : B ≤ w.heap.size := by omega) : RowsLie w' B A rows := fun i r hi => by
  obtain ⟨g, off, Ai, ci, e, hg, hc, hl⟩ := h i r hi
  exact ⟨g, off, Ai, ci, e, hg, (hk.cell (by omega) (hS g hg)).trans hc, hl.keeps hk hS hB⟩
theorem RowsLie.more {B' : Nat} (h : RowsLie w B A rows) (hB : B ≤ B') : RowsLie w B' A rows := fun i r hi => by
  obtain ⟨g, off, Ai, ci, e, hg, hc, hl⟩ := h i r hi
  exact ⟨g, off, Ai, ci, e, by omega, hc, hl.more hB⟩
theorem RowsLie.drewN (h : RowsLie w B A rows) (n : Nat) : RowsLie (w.drewN n) B A rows := h
theorem RowsLie.nil : RowsLie w B A [] := fun i c h => by simp at h
end
/-- What lies behind: each row with its marks, then the rows of one mark. -/
def wideR (rows : List (List Int)) : List (Nat × List Int) := rows.map (fun r => (r.length, wideL r)) ++ (List.range 64).map (fun i => (1, [1048576 * 9 + ((rows.length + i : Nat) : Int) + 1]))
theorem wideR_length (xs : List (List Int)) : (wideR xs).length = xs.length + 64 := by simp [wideR]
theorem wideR_low (xs : List (List Int)) (i : Nat) (r : List Int) (h : xs[i]? = some r) : (wideR xs)[i]? = some (r.length, wideL r) := by
  have hl : i < xs.length := (List.getElem?_eq_some_iff.1 h).1
  rw [wideR, List.getElem?_append_left (by simpa using hl), List.getElem?_map, h]; rfl
theorem wideR_high (xs : List (List Int)) (i : Nat) (h : ¬ i < xs.length) (h2 : i < xs.length + 64) : (wideR xs)[i]? = some (1, [1048576 * 9 + (i : Int) + 1]) := by
  rw [wideR, List.getElem?_append_right (by simpa using h), List.getElem?_map, List.length_map, List.getElem?_range (by omega)]
  simp only [Option.map_some]
  rw [show xs.length + (i - xs.length) = i by omega]
/-- The first i rows of a list of rows in a block of its own, each in a block of its own. -/
structure RowsUpto (g : Nat) (its : List (Nat × List Int)) (wr : World) (cs : Array Value) (bs : Nat → Nat) (i : Nat) : Prop where
  size : cs.size = its.length
  whole : Whole wr g 90 cs
  row : ∀ j it, j < i → its[j]? = some it → cs[j]? = some (.slice (some ⟨bs j, 0, none⟩) it.1 it.2.length) ∧ Whole wr (bs j) 3 (ints it.2) ∧ g < bs j
  rise : ∀ j k, j < k → k < i → bs j < bs k
theorem RowsUpto.nextOf {g : Nat} {its : List (Nat × List Int)} {wr wr' : World} {cs : Array Value} {bs : Nat → Nat} {i b : Nat} {it : Nat × List Int} (h : RowsUpto g its wr cs bs i) (hit : its[i]? = some it) (hb : wr.heap.size ≤ b) (hw : Whole wr' b 3 (ints it.2))
    (hg' : Whole wr' g 90 (cs.setIfInBounds i (.slice (some ⟨b, 0, none⟩) it.1 it.2.length))) (hk : ∀ k c, k ≠ g → Whole wr k 3 c → Whole wr' k 3 c) :
    RowsUpto g its wr' (cs.setIfInBounds i (.slice (some ⟨b, 0, none⟩) it.1 it.2.length)) (fun j => if j = i then b else bs j) (i + 1) := by
  have hg := h.whole.inside
  have hil : i < its.length := (List.getElem?_eq_some_iff.1 hit).1
  refine ⟨by rw [Array.size_setIfInBounds]; exact h.size, hg', fun j jt hj hjt => ?_, fun j k hjk hk' => ?_⟩
  · rw [Array.getElem?_setIfInBounds]
    by_cases e : i = j
    · subst e
      rw [if_pos rfl, if_pos (by rw [h.size]; exact hil), if_pos rfl]
      obtain rfl : it = jt := by rw [hit] at hjt; exact Option.some.inj hjt
      exact ⟨rfl, hw, by omega⟩
    · rw [if_neg e, if_neg (fun h => e h.symm)]
      obtain ⟨h1, h2, h3⟩ := h.row j jt (by omega) hjt
      exact ⟨h1, hk _ _ (by omega) h2, h3⟩
  · show (if j = i then b else bs j) < (if k = i then b else bs k)
    rw [if_neg (by omega)]
    by_cases e : k = i
    · rw [if_pos e]
      have hj : j < its.length := by omega
      have := (h.row j its[j] (by omega) (List.getElem?_eq_getElem hj)).2.1.inside
      omega
    · rw [if_neg e]; exact h.rise j k hjk (by omega)
theorem RowsUpto.next {g : Nat} {its : List (Nat × List Int)} {wr wr' : World} {cs : Array Value} {bs : Nat → Nat} {i b : Nat} {it : Nat × List Int} (h : RowsUpto g its wr cs bs i) (hit : its[i]? = some it) (hk : Keeps (fun _ => False) wr wr') (hb : wr.heap.size ≤ b) (hw : Whole wr' b 3 (ints it.2)) :
    RowsUpto g its (wr'.setCell ⟨g, i, none⟩ (.slice (some ⟨b, 0, none⟩) it.1 it.2.length)) (cs.setIfInBounds i (.slice (some ⟨b, 0, none⟩) it.1 it.2.length)) (fun j => if j = i then b else bs j) (i + 1) := by
  have hg := h.whole.inside
  exact h.nextOf hit hb (hw.putFar (by show b ≠ g; omega) _) ((h.whole.keeps hk id).put i _) fun k c hkg hc => (hc.keeps hk id).putFar hkg _
theorem RowsUpto.nextNew {g : Nat} {its : List (Nat × List Int)} {wr : World} {cs : Array Value} {bs : Nat → Nat} {i : Nat} {x : Int} (h : RowsUpto g its wr cs bs i) (hit : its[i]? = some (1, [x])) :
    RowsUpto g its ((wr.setCell ⟨g, i, none⟩ (.slice (some ⟨wr.heap.size, 0, none⟩) 1 1)).alloc (.cells #[.int .i64 x] 3)) (cs.setIfInBounds i (.slice (some ⟨wr.heap.size, 0, none⟩) 1 1)) (fun j => if j = i then wr.heap.size else bs j) (i + 1) := by
  have hn := Whole.made (wr.setCell ⟨g, i, none⟩ (.slice (some ⟨wr.heap.size, 0, none⟩) 1 1)) 3 #[.int .i64 x]
  rw [show (wr.setCell ⟨g, i, none⟩ (.slice (some ⟨wr.heap.size, 0, none⟩) 1 1)).heap.size = wr.heap.size by simp [World.setCell]] at hn
  exact h.nextOf hit (Nat.le_refl _) hn ((h.whole.put i _).alloc _) fun k c hkg hc => (hc.putFar hkg _).alloc _
set_option maxHeartbeats 1000000 in
theorem wideRows_any (xs : List (List Int)) (A : Option Addr) (cap : Nat) (w : World) (hx : RowsLie w w.heap.size A xs) (hl : xs.length ≤ 1000000000) (hr : ∀ r ∈ xs, r.length ≤ 1000000000) :
    Calls Tryz.prog 22 #[.slice A xs.length cap] w fun e w' => e = .returned (.slice (some ⟨w.heap.size, 0, none⟩) xs.length (xs.length + 64)) ∧ Keeps (fun _ => False) w w' ∧ ∃ cs bs, RowsUpto w.heap.size (wideR xs) w' cs bs (xs.length + 64) := by
  have HX := Lib.hid hx; clear hx
  have hmk : ∀ w : World, (Instr.makeSlice 24 (.int .i64 ((xs.length : Int) + 64)) (.int .i64 ((xs.length : Int) + 64))).run Tryz.prog w = .ok (.slice (some ⟨w.heap.size, 0, none⟩) (xs.length + 64) (xs.length + 64)) (w.alloc (.cells (madeCells #[.slice none 0 0] (xs.length + 64)) 90)) := fun w => run_make_row' 24 90 (.slice none 0 0) 24 Tryz.underlying24 info_row rfl .i64 .i64 (xs.length + 64) (by omega) (by omega) w
  go_enter Tryz.func22, Tryz.ntmps22
  go_wp2_with fail
  clear hmk
  have HW0 := Whole.made w 90 (madeCells #[.slice none 0 0] (xs.length + 64))
  have HK0 : Hid (Keeps (fun b => b = w.heap.size) w (w.alloc (.cells (madeCells #[.slice none 0 0] (xs.length + 64)) 90))) := Lib.hid ((Keeps.refl _ w).alloc _)
  have hms : (madeCells #[.slice none 0 0] (xs.length + 64)).size = (wideR xs).length := by rw [size_madeCells, wideR_length]
  have HU0 : Hid (RowsUpto w.heap.size (wideR xs) (w.alloc (.cells (madeCells #[.slice none 0 0] (xs.length + 64)) 90)) (madeCells #[.slice none 0 0] (xs.length + 64)) (fun _ => 0) 0) := Lib.hid ⟨hms, HW0, fun j it hj => absurd hj (Nat.not_lt_zero _), fun j k _ hk => absurd hk (Nat.not_lt_zero _)⟩
  clear HW0 hms
  generalize madeCells #[.slice none 0 0] (xs.length + 64) = c0 at *
  go_loopw [4] (fun vi wr => ∃ (i : Nat) (cs : Array Value) (bs : Nat → Nat), i ≤ xs.length + 64 ∧ vi = .int .i64 i ∧ Hid (RowsUpto w.heap.size (wideR xs) wr cs bs i) ∧ Hid (Keeps (fun b => b = w.heap.size) w wr)) (fun vi _ => xs.length + 64 - (intOf vi).toNat)
  case atStart => exact ⟨0, _, _, by omega, rfl, HU0, HK0⟩
  case round =>
    clear HK0 HU0
    obtain ⟨i, cs, bs, hi, rfl, HU, HK⟩ := hrel
    have hin : w.heap.size < wr.heap.size := HU.out.whole.inside
    have hcs : i < xs.length + 64 → ∃ u, wr.cell? ⟨w.heap.size, i, none⟩ = some u := fun h => ⟨_, (HU.out.whole.cellAt i).trans (Array.getElem?_eq_getElem (by rw [HU.out.size, wideR_length]; exact h))⟩
    by_cases hlt : i < xs.length
    · have hxi : xs[i]? = some xs[i] := List.getElem?_eq_getElem hlt
      obtain ⟨g, off, Ai, ci, rfl, hg, hc, hl2⟩ := (RowsLie.keeps HX.out HK.out (fun b hb e => by omega)) i xs[i] hxi
      have hri := hr xs[i] (List.getElem_mem hlt)
      have hv := wideR_low xs i xs[i] hxi
      generalize xs[i] = x at *
      obtain ⟨u, hu⟩ := hcs (by omega)
      have hf := HU.out.whole.free i
      go_wp2_with fail
      refine (wideInts_any x Ai ci wr (hl2.more (by omega)) hri).mono ?_
      rintro e w1 ⟨rfl, hw1, hk1⟩
      have hu1 : w1.cell? ⟨w.heap.size, i, none⟩ = some u := (hk1.cell hin id).trans hu
      have hf1 := (HU.out.whole.keeps hk1 id).free i
      have HN := Lib.hid (HU.out.next hv hk1 (Nat.le_refl _) hw1)
      have HK' := Lib.hid (((HK.out.trans (hk1.mono (fun _ _ h => h.elim))).setCell (p := ⟨w.heap.size, i, none⟩) (fun _ => rfl) (.slice (some ⟨wr.heap.size, 0, none⟩) x.length (wideL x).length)))
      rw [wideL_length] at HN HK'
      go_wp2_with fail
      go_roundw
      case rel => exact ⟨i + 1, _, _, by omega, by go_num, HN, HK'⟩
      case measure => simp [intOf]; omega
    · by_cases hlt2 : i < xs.length + 64
      · have hv := wideR_high xs i hlt hlt2
        obtain ⟨u, hu⟩ := hcs hlt2
        have hf := HU.out.whole.free i
        go_wp2_with fail
        refine (num_any 9 i _ (by omega) (by omega)).mono ?_
        rintro e w1 ⟨rfl, rfl⟩
        go_wp2_with fail
        have HN := HU.out.nextNew hv
        rw [show (1048576 * 9 + (i : Int) + 1) = 9437184 + (i : Int) + 1 from rfl] at HN
        exact ⟨⟨i + 1, _, _, by omega, by go_num, Lib.hid HN, Lib.hid ((HK.out.setCell (p := ⟨w.heap.size, i, none⟩) (fun _ => rfl) _).alloc _)⟩, by simp [intOf]; omega⟩
      · obtain rfl : i = xs.length + 64 := by omega
        go_wp2_with fail
        go_ret
        exact ⟨rfl, HK.out.mono (fun b hb e => absurd e (by omega)), cs, bs, HU.out⟩
end Go.Proofs.YthmfbcfbcookiaaGreatDoor
