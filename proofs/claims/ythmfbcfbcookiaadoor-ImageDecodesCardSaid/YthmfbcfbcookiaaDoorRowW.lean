/-
  The marked copies of a list of lists of numbers: the walk. Conditions: lengths within 10 ^ 9.
-/
import Derived.Test.YthmfbcfbcookiaaDoorWf0
namespace Go.Proofs.YthmfbcfbcookiaaDoor
open Go.RowKit
theorem info_row : (Tryd.prog.info? 81).map (fun i => (i.zero, i.size, i.bytes)) = some (some (.slice none 0 0), 1, 24) := by kernel_rfl
/-- Rows of numbers, where a slice says. -/
def RowsLie (w : World) (B : Nat) (A : Option Addr) (rows : List (List Int)) : Prop := ∀ i r, rows[i]? = some r → ∃ g off Ai ci, A = some ⟨g, off, none⟩ ∧ g < B ∧ w.cell? ⟨g, off + i, none⟩ = some (.slice Ai r.length ci) ∧ Lies w B Ai (r.map (Value.int .i64))
section
variable {w w' : World} {B : Nat} {A : Option Addr} {rows : List (List Int)}
theorem Lies.keeps {xs : List Value} {S : Nat → Prop} (h : Lies w B A xs) (hk : Keeps S w w') (hS : ∀ b, b < B → ¬ S b) (hB : B ≤ w.heap.size := by omega) : Lies w' B A xs := h.keep fun _ _ hb => hk.cell (by omega) (hS _ hb)
theorem RowsLie.keeps {S : Nat → Prop} (h : RowsLie w B A rows) (hk : Keeps S w w') (hS : ∀ b, b < B → ¬ S b) (hB : B ≤ w.heap.size := by omega) : RowsLie w' B A rows := fun i r hi => by
  obtain ⟨g, off, Ai, ci, e, hg, hc, hl⟩ := h i r hi
  exact ⟨g, off, Ai, ci, e, hg, (hk.cell (by omega) (hS g hg)).trans hc, hl.keeps hk hS hB⟩
theorem RowsLie.more {B' : Nat} (h : RowsLie w B A rows) (hB : B ≤ B') : RowsLie w B' A rows := fun i r hi => by
  obtain ⟨g, off, Ai, ci, e, hg, hc, hl⟩ := h i r hi
  exact ⟨g, off, Ai, ci, e, by omega, hc, hl.more hB⟩
theorem RowsLie.drewN (h : RowsLie w B A rows) (n : Nat) : RowsLie (w.drewN n) B A rows := h
theorem RowsLie.nil : RowsLie w B A [] := fun i c h => by simp at h
end
/-- What lies behind: each row with its marks, then the rows of one mark. -/
def wideR (rows : List (List Int)) : List (Nat × List Int) := rows.map (fun r => (r.length, wideL r)) ++ (List.range 64).map (fun i => (1, [1048576 * 9 + ((rows.length + i : Nat) : Int) + 1]))
theorem wideR_length (xs : List (List Int)) : (wideR xs).length = xs.length + 64 := by simp [wideR]
theorem wideR_low (xs : List (List Int)) (i : Nat) (r : List Int) (h : xs[i]? = some r) : (wideR xs)[i]? = some (r.length, wideL r) := by
  have hl : i < xs.length := (List.getElem?_eq_some_iff.1 h).1
  rw [wideR, List.getElem?_append_left (by simpa using hl), List.getElem?_map, h]; rfl
theorem wideR_high (xs : List (List Int)) (i : Nat) (h : ¬ i < xs.length) (h2 : i < xs.length + 64) : (wideR xs)[i]? = some (1, [1048576 * 9 + (i : Int) + 1]) := by
  rw [wideR, List.getElem?_append_right (by simpa using h), List.getElem?_map, List.length_map, List.getElem?_range (by omega)]
  simp only [Option.map_some]
  rw [show xs.length + (i - xs.length) = i by omega]
/-- The first i rows of a list of rows in a block of its own, each in a block of its own. -/
structure RowsUpto (g : Nat) (its : List (Nat × List Int)) (wr : World) (cs : Array Value) (bs : Nat → Nat) (i : Nat) : Prop where
  size : cs.size = its.length
  whole : Whole wr g 81 cs
  row : ∀ j it, j < i → its[j]? = some it → cs[j]? = some (.slice (some ⟨bs j, 0, none⟩) it.1 it.2.length) ∧ Whole wr (bs j) 3 (ints it.2) ∧ g < bs j
  rise : ∀ j k, j < k → k < i → bs j < bs k
theorem RowsUpto.nextOf {g : Nat} {its : List (Nat × List Int)} {wr wr' : World} {cs : Array Value} {bs : Nat → Nat} {i b : Nat} {it : Nat × List Int} (h : RowsUpto g its wr cs bs i) (hit : its[i]? = some it) (hb : wr.heap.size ≤ b) (hw : Whole wr' b 3 (ints it.2))
    (hg' : Whole wr' g 81 (cs.setIfInBounds i (.slice (some ⟨b, 0, none⟩) it.1 it.2.length))) (hk : ∀ k c, k ≠ g → Whole wr k 3 c → Whole wr' k 3 c) :
    RowsUpto g its wr' (cs.setIfInBounds i (.slice (some ⟨b, 0, none⟩) it.1 it.2.length)) (fun j => if j = i then b else bs j) (i + 1) := by
  have hg := h.whole.inside
  have hil : i < its.length := (List.getElem?_eq_some_iff.1 hit).1
  refine ⟨by rw [Array.size_setIfInBounds]; exact h.size, hg', fun j jt hj hjt => ?_, fun j k hjk hk' => ?_⟩
  · rw [Array.getElem?_setIfInBounds]
    by_cases e : i = j
    · subst e
      rw [if_pos rfl, if_pos (by rw [h.size]; exact hil), if_pos rfl]
      obtain rfl : it = jt := by rw [hit] at hjt; exact Option.some.inj hjt
      exact ⟨rfl, hw, by omega⟩
    · rw [if_neg e, if_neg (fun h => e h.symm)]
      obtain ⟨h1, h2, h3⟩ := h.row j jt (by omega) hjt
      exact ⟨h1, hk _ _ (by omega) h2, h3⟩
  · show (if j = i then b else bs j) < (if k = i then b else bs k)
    rw [if_neg (by omega)]
    by_cases e : k = i
    · rw [if_pos e]
      have hj : j < its.length := by omega
      have := (h.row j its[j] (by omega) (List.getElem?_eq_getElem hj)).2.1.inside
      omega
    · rw [if_neg e]; exact h.rise j k hjk (by omega)
theorem RowsUpto.next {g : Nat} {its : List (Nat × List Int)} {wr wr' : World} {cs : Array Value} {bs : Nat → Nat} {i b : Nat} {it : Nat × List Int} (h : RowsUpto g its wr cs bs i) (hit : its[i]? = some it) (hk : Keeps (fun _ => False) wr wr') (hb : wr.heap.size ≤ b) (hw : Whole wr' b 3 (ints it.2)) :
    RowsUpto g its (wr'.setCell ⟨g, i, none⟩ (.slice (some ⟨b, 0, none⟩) it.1 it.2.length)) (cs.setIfInBounds i (.slice (some ⟨b, 0, none⟩) it.1 it.2.length)) (fun j => if j = i then b else bs j) (i + 1) := by
  have hg := h.whole.inside
  exact h.nextOf hit hb (hw.putFar (by show b ≠ g; omega) _) ((h.whole.keeps hk id).put i _) fun k c hkg hc => (hc.keeps hk id).putFar hkg _
theorem RowsUpto.nextNew {g : Nat} {its : List (Nat × List Int)} {wr : World} {cs : Array Value} {bs : Nat → Nat} {i : Nat} {x : Int} (h : RowsUpto g its wr cs bs i) (hit : its[i]? = some (1, [x])) :
    RowsUpto g its ((wr.setCell ⟨g, i, none⟩ (.slice (some ⟨wr.heap.size, 0, none⟩) 1 1)).alloc (.cells #[.int .i64 x] 3)) (cs.setIfInBounds i (.slice (some ⟨wr.heap.size, 0, none⟩) 1 1)) (fun j => if j = i then wr.heap.size else bs j) (i + 1) := by
  have hn := Whole.made (wr.setCell ⟨g, i, none⟩ (.slice (some ⟨wr.heap.size, 0, none⟩) 1 1)) 3 #[.int .i64 x]
  rw [show (wr.setCell ⟨g, i, none⟩ (.slice (some ⟨wr.heap.size, 0, none⟩) 1 1)).heap.size = wr.heap.size by simp [World.setCell]] at hn
  exact h.nextOf hit (Nat.le_refl _) hn ((h.whole.put i _).alloc _) fun k c hkg hc => (hc.putFar hkg _).alloc _
end Go.Proofs.YthmfbcfbcookiaaDoor
