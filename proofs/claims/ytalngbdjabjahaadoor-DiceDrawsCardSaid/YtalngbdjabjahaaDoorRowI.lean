/-
  Rows of integers, turned in place. Conditions: none.
-/
import Derived.Test.YtalngbdjabjahaaDoorShuf
import Derived.Test.YtalngbdjabjahaaDoorAppend
import Derived.Test.YtalngbdjabjahaaDoorDiceE
namespace Go.Proofs.YtalngbdjabjahaaDoor
open Go.RowKit
def Row (w : World) (g : Nat) (l : List Int) : Prop := ∃ cs, Whole w g 3 cs ∧ ∀ k, k < l.length → cs[k]? = some (.int .i64 (l.getD k 0))
section
variable {w w' : World} {g : Nat} {l : List Int}
theorem Row.cell (h : Row w g l) {k : Nat} (hk : k < l.length) : w.cell? ⟨g, k, none⟩ = some (.int .i64 (l.getD k 0)) := by
  obtain ⟨cs, hw, hc⟩ := h; rw [hw.cellAt]; exact hc k hk
theorem Row.free (h : Row w g l) (k : Nat) : w.frozen? ⟨g, k, none⟩ = false := by obtain ⟨cs, hw, _⟩ := h; exact hw.free k
theorem Row.inside (h : Row w g l) : g < w.heap.size := by obtain ⟨cs, hw, _⟩ := h; exact hw.inside
theorem Row.alloc (h : Row w g l) (o : Obj) : Row (w.alloc o) g l := by obtain ⟨cs, hw, hc⟩ := h; exact ⟨cs, hw.alloc o, hc⟩
theorem Row.drewN (h : Row w g l) (n : Nat) : Row (w.drewN n) g l := h
theorem Row.grown {row : Option Nat} (h : Row w g l) (hg : w.grownBy w' row) (hr : ∀ k, row = some k → g < k) : Row w' g l := by obtain ⟨cs, hw, hc⟩ := h; exact ⟨cs, hw.grown hg hr, hc⟩
theorem Row.put (h : Row w g l) {i : Nat} (hi : i < l.length) (x : Int) : Row (w.setCell ⟨g, i, none⟩ (.int .i64 x)) g (l.set i x) := by
  obtain ⟨cs, hw, hc⟩ := h
  refine ⟨_, hw.put i _, fun k hk => ?_⟩
  have hk' : k < l.length := by simpa using hk
  rw [Array.getElem?_setIfInBounds, List.getD_eq_getElem?_getD, List.getElem?_set]
  by_cases e : i = k
  · subst e
    have hlt : i < cs.size := by
      rcases Nat.lt_or_ge i cs.size with h | h
      · exact h
      · have := hc i hi; rw [Array.getElem?_eq_none h] at this; cases this
    rw [if_pos rfl, if_pos hlt, if_pos rfl, if_pos hi]; rfl
  · rw [if_neg e, if_neg e, ← List.getD_eq_getElem?_getD]; exact hc k hk'
end
theorem row_of {w : World} {base : Nat} {A : Option Addr} {n cap : Nat} {l : List Int} (h : w.ownsRow base 3 1 (.slice A n cap) n (l.map (Value.int .i64))) (hn : 0 < n) : ∃ g, A = some ⟨g, 0, none⟩ ∧ base ≤ g ∧ Row w g l ∧ l.length = n := by
  obtain ⟨g, cs, e, hb, hw, hs, hc, ht⟩ := own_whole h hn
  have hl : l.length = n := by have := own_length h; simpa using this
  refine ⟨g, e, hb, ⟨cs, hw, fun k hk => ?_⟩, hl⟩
  have h1 : (cs.toList.take n)[k]? = (l.map (Value.int .i64))[k]? := by rw [ht]
  rw [List.getElem?_take, if_pos (by omega), Array.getElem?_toList] at h1
  rw [h1, List.getElem?_map, List.getD_eq_getElem?_getD, List.getElem?_eq_getElem hk]; rfl
theorem rng_snoc (k : Nat) : (rng k).map (Value.int .i64) ++ [.int .i64 (k : Int)] = (rng (k + 1)).map (Value.int .i64) := by
  unfold rng; rw [List.range_succ]; simp
theorem row_two {w : World} {g i j : Nat} {l : List Int} (h : Row w g l) (hi : i < l.length) (hj : j < l.length) : w.cell? ⟨g, i, none⟩ = some (.int .i64 (l.getD i 0)) ∧ w.cell? ⟨g, j, none⟩ = some (.int .i64 (l.getD j 0)) ∧ w.frozen? ⟨g, i, none⟩ = false ∧ w.frozen? ⟨g, j, none⟩ = false ∧ (w.setCell ⟨g, i, none⟩ (.int .i64 (l.getD j 0))).cell? ⟨g, j, none⟩ = some (.int .i64 (l.getD j 0)) ∧ (w.setCell ⟨g, i, none⟩ (.int .i64 (l.getD j 0))).frozen? ⟨g, j, none⟩ = false := by
  refine ⟨h.cell hi, h.cell hj, h.free i, h.free j, ?_, (h.put hi _).free j⟩
  rw [(h.put hi (l.getD j 0)).cell (by simpa using hj)]
  congr 2
  rw [List.getD_eq_getElem?_getD, List.getElem?_set]
  by_cases e : i = j
  · subst e; rw [if_pos rfl, if_pos hi]; rfl
  · rw [if_neg e, List.getD_eq_getElem?_getD]
theorem row_swp {w : World} {g i j : Nat} {l : List Int} (h : Row w g l) (hi : i < l.length) (hj : j < l.length) : Row ((w.setCell ⟨g, i, none⟩ (.int .i64 (l.getD j 0))).setCell ⟨g, j, none⟩ (.int .i64 (l.getD i 0))) g (swp l i j) :=
  (h.put hi (l.getD j 0)).put (by simpa using hj) (l.getD i 0)
end Go.Proofs.YtalngbdjabjahaaDoor
