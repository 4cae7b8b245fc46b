/-
  Words for memory that all walks of this seat use: what a slice value reads as, a block that is known whole, and what stays so. Conditions: none.
-/
import Derived.WalkKit
import Derived.WalkSpells
import Derived.Handy
import Derived.Lib.Hide
import Derived.Deep.Draws
import Derived.Laws.OwnMore
import Derived.Laws.Rows
import Derived.Laws.Tables
import Derived.Deep.OwnRows
import Derived.Laws.BitsAllLaws
namespace Go.Proofs.YthmfbcfbcookiaaGreatDoor
open Go.RowKit

/-! ### A block, known whole -/
def Whole (w : World) (g : Nat) (t : TypeId) (cs : Array Value) : Prop := w.heap[g]? = some (.cells cs t (0, 0))
section
variable {w w' : World} {g : Nat} {t : TypeId} {cs : Array Value}
theorem Whole.inside (h : Whole w g t cs) : g < w.heap.size := by
  rcases Nat.lt_or_ge g w.heap.size with hl | hg
  · exact hl
  · rw [Whole, Array.getElem?_eq_none hg] at h; cases h
theorem Whole.cellAt (h : Whole w g t cs) (i : Nat) : w.cell? ⟨g, i, none⟩ = cs[i]? := cell_of_row w g i cs t (0, 0) h
theorem Whole.free (h : Whole w g t cs) (i : Nat) : w.frozen? ⟨g, i, none⟩ = false := frozen_of_row w g i cs t h
theorem Whole.made (w : World) (t : TypeId) (cs : Array Value) : Whole (w.alloc (.cells cs t)) w.heap.size t cs := heap_alloc_new w _
theorem Whole.alloc (h : Whole w g t cs) (o : Obj) : Whole (w.alloc o) g t cs := (Below.heap_alloc w o g h.inside).trans h
theorem Whole.drewN (h : Whole w g t cs) (n : Nat) : Whole (w.drewN n) g t cs := h
theorem Whole.drew (h : Whole w g t cs) : Whole w.drew g t cs := h
theorem Whole.put (h : Whole w g t cs) (i : Nat) (u : Value) : Whole (w.setCell ⟨g, i, none⟩ u) g t (cs.setIfInBounds i u) := heap_setCell_same w g i cs t u h
theorem Whole.putFar (h : Whole w g t cs) {p : Addr} (hp : g ≠ p.block) (u : Value) : Whole (w.setCell p u) g t cs := (heap_setCell_other w p g u hp).trans h
theorem Whole.below {B : Nat} (h : Whole w g t cs) (hb : Below B w w') (hg : g < B) : Whole w' g t cs := (hb.block g hg).trans h
theorem Whole.past (h : Whole w g t cs) (hb : Below w.heap.size w w') : Whole w' g t cs := h.below hb h.inside
end

/-! ### Below, in steps -/
theorem belowN {B : Nat} {a w : World} (h : Below B a w) (n : Nat) : Below B a (w.drewN n) := ⟨h.os, h.tape, h.output, h.size, h.block⟩
theorem belowThen {a w w' : World} {B : Nat} (h : Below B a w) (h' : Below w.heap.size w w') (hB : B ≤ w.heap.size) : Below B a w' := h.trans (h'.mono hB)
theorem belowThen' {a w w' : World} (h : Below a.heap.size a w) (h' : Below w.heap.size w w') : Below a.heap.size a w' := h.trans (h'.mono h.size)

/-! ### What a slice value reads as -/
/-- The slice's address A leads to the cells xs, all in blocks below B. -/
def Lies (w : World) (B : Nat) (A : Option Addr) (xs : List Value) : Prop :=
  ∀ k u, xs[k]? = some u → ∃ b off, A = some ⟨b, off, none⟩ ∧ b < B ∧ w.cell? ⟨b, off + k, none⟩ = some u
section
variable {w w' : World} {B B' : Nat} {A : Option Addr} {xs : List Value}
theorem Lies.nil : Lies w B A [] := fun k u h => by simp at h
theorem Lies.keep (h : Lies w B A xs) (hk : ∀ b o, b < B → w'.cell? ⟨b, o, none⟩ = w.cell? ⟨b, o, none⟩) : Lies w' B A xs := fun k u hu => by
  obtain ⟨b, off, e, hb, hc⟩ := h k u hu
  exact ⟨b, off, e, hb, (hk b _ hb).trans hc⟩
theorem Lies.more (h : Lies w B A xs) (hB : B ≤ B') : Lies w B' A xs := fun k u hu => by
  obtain ⟨b, off, e, hb, hc⟩ := h k u hu
  exact ⟨b, off, e, by omega, hc⟩
theorem Lies.below (h : Lies w B A xs) (hb : Below B w w') : Lies w' B A xs := h.keep fun _ _ hp => hb.cell hp
theorem Lies.past (h : Lies w w.heap.size A xs) (hb : Below w.heap.size w w') : Lies w' w'.heap.size A xs := (h.below hb).more hb.size
theorem Lies.drewN (h : Lies w B A xs) (n : Nat) : Lies (w.drewN n) B A xs := h
theorem Lies.drew (h : Lies w B A xs) : Lies w.drew B A xs := h
theorem Lies.alloc (h : Lies w B A xs) (hB : B ≤ w.heap.size) (o : Obj) : Lies (w.alloc o) B A xs := h.keep fun b _ hb => World.cell?_alloc_lt w o _ (by show b < _; omega)
theorem Lies.at_ (h : Lies w B A xs) {k : Nat} (hk : k < xs.length) : ∃ b off, A = some ⟨b, off, none⟩ ∧ b < B ∧ w.cell? ⟨b, off + k, none⟩ = some (xs[k]'hk) :=
  h k _ (List.getElem?_eq_getElem hk)
theorem Lies.row {g : Nat} {t : TypeId} {fr : Nat × Nat} (h : w.heap[g]? = some (.cells xs.toArray t fr)) (hB : g < B) : Lies w B (some ⟨g, 0, none⟩) xs := fun k u hu =>
  ⟨g, 0, rfl, hB, by rw [Nat.zero_add, cell_of_row w g k _ t fr h]; simpa using hu⟩
theorem Lies.whole {g off : Nat} {t : TypeId} {cs : Array Value} (h : Whole w g t cs) (hx : ∀ k u, xs[k]? = some u → cs[off + k]? = some u) (hB : g < B) : Lies w B (some ⟨g, off, none⟩) xs := fun k u hu =>
  ⟨g, off, rfl, hB, (h.cellAt _).trans (hx k u hu)⟩
end
/-! ### A whole array laid into a block -/
theorem heap_setRow_same {w : World} {g : Nat} {t : TypeId} {c : Array Value} (h : Whole w g t c) (c' : Array Value) : Whole (w.setRow g c') g t c' := by
  unfold Whole at *
  simp only [World.setRow, Array.getElem?_modify, if_true, h, Option.map_some]
theorem heap_setRow_other (w : World) (g k : Nat) (c' : Array Value) (h : k ≠ g) : (w.setRow g c').heap[k]? = w.heap[k]? := by
  simp only [World.setRow, Array.getElem?_modify]
  rw [if_neg (fun e => h e.symm)]
theorem Whole.putRowFar {w : World} {g k : Nat} {t : TypeId} {c : Array Value} (h : Whole w k t c) (hk : k ≠ g) (c' : Array Value) : Whole (w.setRow g c') k t c := (heap_setRow_other w g k c' hk).trans h
theorem belowRow {B : Nat} {a w : World} (h : Below B a w) {g : Nat} (hg : B ≤ g) (c' : Array Value) : Below B a (w.setRow g c') :=
  ⟨h.os, h.tape, h.output, by rw [size_setRow]; exact h.size, fun k hk => (heap_setRow_other w g k c' (by omega)).trans (h.block k hk)⟩
theorem wpList_wanted {P : Program} {ops : Array Oper} {rest : List Oper} {o : Oper} {a : Act} {w : World} {Q : Exit → Act → World → Prop} (hw : Region.wanted o (yielded ops a.tmps) = true)
    (h : ∀ K : Act → World → Prop, (∀ a w, wpList P ops Q rest a w → K a w) → o.wp P a w K Q) : wpList P ops Q (o :: rest) a w :=
  wpList_step fun K hK => by rw [if_pos hw]; exact h K hK
/-- A whole array read, under a guard or none. -/
theorem wpList_load_whole {P : Program} {ops : Array Oper} {rest : List Oper} {o : Oper} {a : Act} {w : World} {Q : Exit → Act → World → Prop} (hw : Region.wanted o (yielded ops a.tmps) = true) (ty : TypeId) (x : Operand) (ho : o.op = .load ty x)
    (g : Nat) (hx : a.eval x = .pointer (some ⟨g, 0, none⟩)) (t : TypeId) (cs : Array Value) (d : TypeDesc) (hg : Whole w g t cs)
    (hu : P.underlying ty = some d) (hd : (match d with | .struct _ | .array _ _ => true | _ => false) = true) (hi : (P.info? ty).map (·.size) = some cs.size)
    (h : wpList P ops Q rest (a.put o.dst (.agg cs)) w) : wpList P ops Q (o :: rest) a w :=
  wpList_wanted hw fun _ hK => wp_load_row ty x ho g hx t cs (0, 0) d hg hu hd hi (hK _ _ h)
theorem wpList_store_whole {P : Program} {ops : Array Oper} {rest : List Oper} {o : Oper} {a : Act} {w : World} {Q : Exit → Act → World → Prop} (hgd : o.guard = none) (ty : TypeId) (x y : Operand) (ho : o.op = .store ty x y) (hd : o.dst = none)
    (g : Nat) (hx : a.eval x = .pointer (some ⟨g, 0, none⟩)) (c' : Array Value) (hy : a.eval y = .agg c') (t : TypeId) (c : Array Value) (hg : Whole w g t c)
    (hi : (P.info? ty).map (·.size) = some c'.size) (hs : c.size = c'.size) (h1 : c'.all (·.oneCell') = true)
    (h : wpList P ops Q rest a (w.setRow g c')) : wpList P ops Q (o :: rest) a w :=
  wpList_plain hgd fun K hK => by
    unfold Oper.wp execOp
    simp only [ho, hx, hy, Instr.storeAt, Instr.sureAddr, Sem.run_bind, Sem.run_pure, Result.andThen_ok, run_storeVar_row w g t ty c c' hg hi hs h1]
    have e : a.put o.dst undef = a := by rw [hd]; rfl
    show K (a.put o.dst undef) _
    rw [e]
    exact hK _ _ h
/-! ### A row that is filled from its head on -/
def fillTo (N : Nat) (f : Nat → Value) (z : Value) (k : Nat) : Array Value := ((List.range N).map fun i => if i < k then f i else z).toArray
def full (N : Nat) (f : Nat → Value) : Array Value := ((List.range N).map f).toArray
theorem fillTo_size (N : Nat) (f : Nat → Value) (z : Value) (k : Nat) : (fillTo N f z k).size = N := by simp [fillTo]
theorem full_size (N : Nat) (f : Nat → Value) : (full N f).size = N := by simp [full]
theorem fillTo_get (N : Nat) (f : Nat → Value) (z : Value) (k i : Nat) (h : i < N) : (fillTo N f z k)[i]? = some (if i < k then f i else z) := by simp [fillTo, h]
theorem full_get (N : Nat) (f : Nat → Value) (i : Nat) (h : i < N) : (full N f)[i]? = some (f i) := by simp [full, h]
theorem fillTo_here (N : Nat) (f : Nat → Value) (z : Value) (k : Nat) (h : k < N) : (fillTo N f z k)[k]? = some z := by
  rw [fillTo_get N f z k k h, if_neg (Nat.lt_irrefl k)]
theorem fillTo_zero (N : Nat) (f : Nat → Value) (z : Value) : madeCells #[z] N = fillTo N f z 0 := by
  apply Array.ext_getElem?
  intro i
  rw [← Array.getElem?_toList, toList_madeCells_one, List.getElem?_replicate]
  by_cases h : i < N
  · rw [if_pos h, fillTo_get N f z 0 i h, if_neg (Nat.not_lt_zero i)]
  · rw [if_neg h, Array.getElem?_eq_none (by rw [fillTo_size]; omega)]
theorem fillTo_step (N : Nat) (f : Nat → Value) (z : Value) (k : Nat) : (fillTo N f z k).setIfInBounds k (f k) = fillTo N f z (k + 1) := by
  apply Array.ext_getElem?
  intro i
  rw [Array.getElem?_setIfInBounds]
  by_cases hi : i < N
  · rw [fillTo_get N f z (k + 1) i hi, fillTo_get N f z k i hi]
    by_cases e : k = i
    · subst e
      rw [if_pos rfl, if_pos (by rw [fillTo_size]; exact hi), if_pos (by omega)]
    · rw [if_neg e]
      by_cases hlt : i < k
      · rw [if_pos hlt, if_pos (by omega)]
      · rw [if_neg hlt, if_neg (by omega)]
  · have h1 : ∀ m, (fillTo N f z m)[i]? = none := fun m => Array.getElem?_eq_none (by rw [fillTo_size]; omega)
    rw [h1, h1]
    by_cases e : k = i
    · subst e; rw [if_pos rfl, if_neg (by rw [fillTo_size]; omega)]
    · rw [if_neg e]
theorem fillTo_full (N : Nat) (f : Nat → Value) (z : Value) : fillTo N f z N = full N f := by
  unfold fillTo full
  congr 1
  apply List.map_congr_left
  intro i hi
  rw [if_pos (List.mem_range.1 hi)]
theorem full_congr {N : Nat} {f g : Nat → Value} (h : ∀ i, i < N → f i = g i) : full N f = full N g := by
  unfold full
  congr 1
  exact List.map_congr_left fun i hi => h i (List.mem_range.1 hi)
theorem full_put (N : Nat) (f : Nat → Value) (k : Nat) (v : Value) : (full N f).setIfInBounds k v = full N (fun i => if i = k then v else f i) := by
  apply Array.ext_getElem?
  intro i
  rw [Array.getElem?_setIfInBounds]
  by_cases hi : i < N
  · rw [full_get N (fun i => if i = k then v else f i) i hi, full_get N f i hi]
    by_cases e : k = i
    · subst e; rw [if_pos rfl, if_pos (by rw [full_size]; exact hi), if_pos rfl]
    · rw [if_neg e, if_neg (fun h => e h.symm)]
  · have h1 : ∀ g, (full N g)[i]? = none := fun g => Array.getElem?_eq_none (by rw [full_size]; omega)
    rw [h1, h1]
    by_cases e : k = i
    · subst e; rw [if_pos rfl, if_neg (by rw [full_size]; omega)]
    · rw [if_neg e]
theorem World.drewN_size (w : World) (n : Nat) : (w.drewN n).heap.size = w.heap.size := rfl
end Go.Proofs.YthmfbcfbcookiaaGreatDoor
