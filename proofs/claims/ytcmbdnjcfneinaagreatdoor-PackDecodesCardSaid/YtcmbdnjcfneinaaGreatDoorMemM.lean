/-
  Words for memory that all walks of this seat use: what a slice value reads as, a block that is known whole, and what stays so. Conditions: none.
-/
import Derived.WalkKit
import Derived.WalkSpells
import Derived.Handy
import Derived.Lib.Hide
import Derived.Deep.Draws
import Derived.Laws.OwnMore
import Derived.Laws.Rows
import Derived.Laws.Tables
import Derived.Deep.OwnRows
import Derived.Laws.BitsAllLaws
import Derived.Deep.RegionHeld
import Derived.Deep.RegionLaw
namespace Go.Proofs.YtcmbdnjcfneinaaGreatDoor
open Go.RowKit

/-! ### A block, known whole -/
def Whole (w : World) (g : Nat) (t : TypeId) (cs : Array Value) : Prop := w.heap[g]? = some (.cells cs t (0, 0))
section
variable {w w' : World} {g : Nat} {t : TypeId} {cs : Array Value}
theorem Whole.inside (h : Whole w g t cs) : g < w.heap.size := by
  rcases Nat.lt_or_ge g w.heap.size with hl | hg
  · exact hl
  · rw [Whole, Array.getElem?_eq_none hg] at h; cases h
theorem Whole.cellAt (h : Whole w g t cs) (i : Nat) : w.cell? ⟨g, i, none⟩ = cs[i]? := cell_of_row w g i cs t (0, 0) h
theorem Whole.free (h : Whole w g t cs) (i : Nat) : w.frozen? ⟨g, i, none⟩ = false := frozen_of_row w g i cs t h
theorem Whole.made (w : World) (t : TypeId) (cs : Array Value) : Whole (w.alloc (.cells cs t)) w.heap.size t cs := heap_alloc_new w _
theorem Whole.alloc (h : Whole w g t cs) (o : Obj) : Whole (w.alloc o) g t cs := (Below.heap_alloc w o g h.inside).trans h
theorem Whole.drewN (h : Whole w g t cs) (n : Nat) : Whole (w.drewN n) g t cs := h
theorem Whole.drew (h : Whole w g t cs) : Whole w.drew g t cs := h
theorem Whole.put (h : Whole w g t cs) (i : Nat) (u : Value) : Whole (w.setCell ⟨g, i, none⟩ u) g t (cs.setIfInBounds i u) := heap_setCell_same w g i cs t u h
theorem Whole.putFar (h : Whole w g t cs) {p : Addr} (hp : g ≠ p.block) (u : Value) : Whole (w.setCell p u) g t cs := (heap_setCell_other w p g u hp).trans h
theorem Whole.below {B : Nat} (h : Whole w g t cs) (hb : Below B w w') (hg : g < B) : Whole w' g t cs := (hb.block g hg).trans h
theorem Whole.past (h : Whole w g t cs) (hb : Below w.heap.size w w') : Whole w' g t cs := h.below hb h.inside
end

/-! ### Below, in steps -/
theorem belowN {B : Nat} {a w : World} (h : Below B a w) (n : Nat) : Below B a (w.drewN n) := ⟨h.os, h.tape, h.output, h.size, h.block⟩
theorem belowThen {a w w' : World} {B : Nat} (h : Below B a w) (h' : Below w.heap.size w w') (hB : B ≤ w.heap.size) : Below B a w' := h.trans (h'.mono hB)
theorem belowThen' {a w w' : World} (h : Below a.heap.size a w) (h' : Below w.heap.size w w') : Below a.heap.size a w' := h.trans (h'.mono h.size)

/-! ### What a slice value reads as -/
/-- The slice's address A leads to the cells xs, all in blocks below B. -/
def Lies (w : World) (B : Nat) (A : Option Addr) (xs : List Value) : Prop :=
  ∀ k u, xs[k]? = some u → ∃ b off, A = some ⟨b, off, none⟩ ∧ b < B ∧ w.cell? ⟨b, off + k, none⟩ = some u
section
variable {w w' : World} {B B' : Nat} {A : Option Addr} {xs : List Value}
theorem Lies.nil : Lies w B A [] := fun k u h => by simp at h
theorem Lies.keep (h : Lies w B A xs) (hk : ∀ b o, b < B → w'.cell? ⟨b, o, none⟩ = w.cell? ⟨b, o, none⟩) : Lies w' B A xs := fun k u hu => by
  obtain ⟨b, off, e, hb, hc⟩ := h k u hu
  exact ⟨b, off, e, hb, (hk b _ hb).trans hc⟩
theorem Lies.more (h : Lies w B A xs) (hB : B ≤ B') : Lies w B' A xs := fun k u hu => by
  obtain ⟨b, off, e, hb, hc⟩ := h k u hu
  exact ⟨b, off, e, by omega, hc⟩
theorem Lies.below (h : Lies w B A xs) (hb : Below B w w') : Lies w' B A xs := h.keep fun _ _ hp => hb.cell hp
theorem Lies.past (h : Lies w w.heap.size A xs) (hb : Below w.heap.size w w') : Lies w' w'.heap.size A xs := (h.below hb).more hb.size
theorem Lies.drewN (h : Lies w B A xs) (n : Nat) : Lies (w.drewN n) B A xs := h
theorem Lies.drew (h : Lies w B A xs) : Lies w.drew B A xs := h
theorem Lies.alloc (h : Lies w B A xs) (hB : B ≤ w.heap.size) (o : Obj) : Lies (w.alloc o) B A xs := h.keep fun b _ hb => World.cell?_alloc_lt w o _ (by show b < _; omega)
theorem Lies.at_ (h : Lies w B A xs) {k : Nat} (hk : k < xs.length) : ∃ b off, A = some ⟨b, off, none⟩ ∧ b < B ∧ w.cell? ⟨b, off + k, none⟩ = some (xs[k]'hk) :=
  h k _ (List.getElem?_eq_getElem hk)
theorem Lies.row {g : Nat} {t : TypeId} {fr : Nat × Nat} (h : w.heap[g]? = some (.cells xs.toArray t fr)) (hB : g < B) : Lies w B (some ⟨g, 0, none⟩) xs := fun k u hu =>
  ⟨g, 0, rfl, hB, by rw [Nat.zero_add, cell_of_row w g k _ t fr h]; simpa using hu⟩
theorem Lies.whole {g off : Nat} {t : TypeId} {cs : Array Value} (h : Whole w g t cs) (hx : ∀ k u, xs[k]? = some u → cs[off + k]? = some u) (hB : g < B) : Lies w B (some ⟨g, off, none⟩) xs := fun k u hu =>
  ⟨g, off, rfl, hB, (h.cellAt _).trans (hx k u hu)⟩
end
/-! ### A whole array laid into a block -/
theorem heap_setRow_same {w : World} {g : Nat} {t : TypeId} {c : Array Value} (h : Whole w g t c) (c' : Array Value) : Whole (w.setRow g c') g t c' := by
  unfold Whole at *
  simp only [World.setRow, Array.getElem?_modify, if_true, h, Option.map_some]
theorem heap_setRow_other (w : World) (g k : Nat) (c' : Array Value) (h : k ≠ g) : (w.setRow g c').heap[k]? = w.heap[k]? := by
  simp only [World.setRow, Array.getElem?_modify]
  rw [if_neg (fun e => h e.symm)]
theorem Whole.putRowFar {w : World} {g k : Nat} {t : TypeId} {c : Array Value} (h : Whole w k t c) (hk : k ≠ g) (c' : Array Value) : Whole (w.setRow g c') k t c := (heap_setRow_other w g k c' hk).trans h
theorem belowRow {B : Nat} {a w : World} (h : Below B a w) {g : Nat} (hg : B ≤ g) (c' : Array Value) : Below B a (w.setRow g c') :=
  ⟨h.os, h.tape, h.output, by rw [size_setRow]; exact h.size, fun k hk => (heap_setRow_other w g k c' (by omega)).trans (h.block k hk)⟩
theorem wpList_wanted {P : Program} {ops : Array Oper} {rest : List Oper} {o : Oper} {a : Act} {w : World} {Q : Exit → Act → World → Prop} (hw : Region.wanted o (yielded ops a.tmps) = true)
    (h : ∀ K : Act → World → Prop, (∀ a w, wpList P ops Q rest a w → K a w) → o.wp P a w K Q) : wpList P ops Q (o :: rest) a w :=
  wpList_step fun K hK => by rw [if_pos hw]; exact h K hK
/-- A whole array read, under a guard or none. -/
theorem wpList_load_whole {P : Program} {ops : Array Oper} {rest : List Oper} {o : Oper} {a : Act} {w : World} {Q : Exit → Act → World → Prop} (hw : Region.wanted o (yielded ops a.tmps) = true) (ty : TypeId) (x : Operand) (ho : o.op = .load ty x)
    (g : Nat) (hx : a.eval x = .pointer (some ⟨g, 0, none⟩)) (t : TypeId) (cs : Array Value) (d : TypeDesc) (hg : Whole w g t cs)
    (hu : P.underlying ty = some d) (hd : (match d with | .struct _ | .array _ _ => true | _ => false) = true) (hi : (P.info? ty).map (·.size) = some cs.size)
    (h : wpList P ops Q rest (a.put o.dst (.agg cs)) w) : wpList P ops Q (o :: rest) a w :=
  wpList_wanted hw fun _ hK => wp_load_row ty x ho g hx t cs (0, 0) d hg hu hd hi (hK _ _ h)
theorem wpList_store_whole {P : Program} {ops : Array Oper} {rest : List Oper} {o : Oper} {a : Act} {w : World} {Q : Exit → Act → World → Prop} (hgd : o.guard = none) (ty : TypeId) (x y : Operand) (ho : o.op = .store ty x y) (hd : o.dst = none)
    (g : Nat) (hx : a.eval x = .pointer (some ⟨g, 0, none⟩)) (c' : Array Value) (hy : a.eval y = .agg c') (t : TypeId) (c : Array Value) (hg : Whole w g t c)
    (hi : (P.info? ty).map (·.size) = some c'.size) (hs : c.size = c'.size) (h1 : c'.all (·.oneCell') = true)
    (h : wpList P ops Q rest a (w.setRow g c')) : wpList P ops Q (o :: rest) a w :=
  wpList_plain hgd fun K hK => by
    unfold Oper.wp execOp
    simp only [ho, hx, hy, Instr.storeAt, Instr.sureAddr, Sem.run_bind, Sem.run_pure, Result.andThen_ok, run_storeVar_row w g t ty c c' hg hi hs h1]
    have e : a.put o.dst undef = a := by rw [hd]; rfl
    show K (a.put o.dst undef) _
    rw [e]
    exact hK _ _ h
/-! ### A row that is filled from its head on -/
def fillTo (N : Nat) (f : Nat → Value) (z : Value) (k : Nat) : Array Value := ((List.range N).map fun i => if i < k then f i else z).toArray
def full (N : Nat) (f : Nat → Value) : Array Value := ((List.range N).map f).toArray
theorem fillTo_size (N : Nat) (f : Nat → Value) (z : Value) (k : Nat) : (fillTo N f z k).size = N := by simp [fillTo]
theorem full_size (N : Nat) (f : Nat → Value) : (full N f).size = N := by simp [full]
theorem fillTo_get (N : Nat) (f : Nat → Value) (z : Value) (k i : Nat) (h : i < N) : (fillTo N f z k)[i]? = some (if i < k then f i else z) := by simp [fillTo, h]
theorem full_get (N : Nat) (f : Nat → Value) (i : Nat) (h : i < N) : (full N f)[i]? = some (f i) := by simp [full, h]
theorem fillTo_here (N : Nat) (f : Nat → Value) (z : Value) (k : Nat) (h : k < N) : (fillTo N f z k)[k]? = some z := by
  rw [fillTo_get N f z k k h, if_neg (Nat.lt_irrefl k)]
theorem fillTo_zero (N : Nat) (f : Nat → Value) (z : Value) : madeCells #[z] N = fillTo N f z 0 := by
  apply Array.ext_getElem?
  intro i
  rw [← Array.getElem?_toList, toList_madeCells_one, List.getElem?_replicate]
  by_cases h : i < N
  · rw [if_pos h, fillTo_get N f z 0 i h, if_neg (Nat.not_lt_zero i)]
  · rw [if_neg h, Array.getElem?_eq_none (by rw [fillTo_size]; omega)]
theorem fillTo_step (N : Nat) (f : Nat → Value) (z : Value) (k : Nat) : (fillTo N f z k).setIfInBounds k (f k) = fillTo N f z (k + 1) := by
  apply Array.ext_getElem?
  intro i
  rw [Array.getElem?_setIfInBounds]
  by_cases hi : i < N
  · rw [fillTo_get N f z (k + 1) i hi, fillTo_get N f z k i hi]
    by_cases e : k = i
    · subst e
      rw [if_pos rfl, if_pos (by rw [fillTo_size]; exact hi), if_pos (by omega)]
    · rw [if_neg e]
      by_cases hlt : i < k
      · rw [if_pos hlt, if_pos (by omega)]
      · rw [if_neg hlt, if_neg (by omega)]
  · have h1 : ∀ m, (fillTo N f z m)[i]? = none := fun m => Array.getElem?_eq_none (by rw [fillTo_size]; omega)
    rw [h1, h1]
    by_cases e : k = i
    · subst e; rw [if_pos rfl, if_neg (by rw [fillTo_size]; omega)]
    · rw [if_neg e]
theorem fillTo_full (N : Nat) (f : Nat → Value) (z : Value) : fillTo N f z N = full N f := by
  unfold fillTo full
  congr 1
  apply List.map_congr_left
  intro i hi
  rw [if_pos (List.mem_range.1 hi)]
theorem full_congr {N : Nat} {f g : Nat → Value} (h : ∀ i, i < N → f i = g i) : full N f = full N g := by
  unfold full
  congr 1
  exact List.map_congr_left fun i hi => h i (List.mem_range.1 hi)
theorem full_put (N : Nat) (f : Nat → Value) (k : Nat) (v : Value) : (full N f).setIfInBounds k v = full N (fun i => if i = k then v else f i) := by
  apply Array.ext_getElem?
  intro i
  rw [Array.getElem?_setIfInBounds]
  by_cases hi : i < N
  · rw [full_get N (fun i => if i = k then v else f i) i hi, full_get N f i hi]
    by_cases e : k = i
    · subst e; rw [if_pos rfl, if_pos (by rw [full_size]; exact hi), if_pos rfl]
    · rw [if_neg e, if_neg (fun h => e h.symm)]
  · have h1 : ∀ g, (full N g)[i]? = none := fun g => Array.getElem?_eq_none (by rw [full_size]; omega)
    rw [h1, h1]
    by_cases e : k = i
    · subst e; rw [if_pos rfl, if_neg (by rw [full_size]; omega)]
    · rw [if_neg e]
theorem World.drewN_size (w : World) (n : Nat) : (w.drewN n).heap.size = w.heap.size := rfl
end Go.Proofs.YtcmbdnjcfneinaaGreatDoor
/-
  What stays in memory: all blocks but those of a set. Conditions: none.
-/
namespace Go.Proofs.YtcmbdnjcfneinaaGreatDoor
open Go.RowKit

/-- Outside the set S the world w' is as w was; the streams are as they were; no block has gone. -/
structure Keeps (S : Nat → Prop) (w w' : World) : Prop where
  os : w'.os = w.os
  tape : w'.tape = w.tape
  output : w'.output = w.output
  size : w.heap.size ≤ w'.heap.size
  block : ∀ k, k < w.heap.size → ¬ S k → w'.heap[k]? = w.heap[k]?
section
variable {S T : Nat → Prop} {a b c w w' : World} {g : Nat} {t : TypeId} {cs : Array Value}
theorem Keeps.refl (S : Nat → Prop) (w : World) : Keeps S w w := ⟨rfl, rfl, rfl, Nat.le_refl _, fun _ _ _ => rfl⟩
theorem Keeps.trans (h : Keeps S a b) (k : Keeps S b c) : Keeps S a c :=
  ⟨k.os.trans h.os, k.tape.trans h.tape, k.output.trans h.output, Nat.le_trans h.size k.size, fun i hi hn => (k.block i (Nat.lt_of_lt_of_le hi h.size) hn).trans (h.block i hi hn)⟩
theorem Keeps.mono (h : Keeps S a b) (hT : ∀ k, k < a.heap.size → S k → T k) : Keeps T a b := ⟨h.os, h.tape, h.output, h.size, fun k hk hn => h.block k hk fun hs => hn (hT k hk hs)⟩
/-- Two steps: what the second may turn, lies in the set or is new. -/
theorem Keeps.and (h : Keeps S a b) (k : Keeps T b c) (hT : ∀ k, k < a.heap.size → T k → S k) : Keeps S a c :=
  ⟨k.os.trans h.os, k.tape.trans h.tape, k.output.trans h.output, Nat.le_trans h.size k.size, fun i hi hn => (k.block i (Nat.lt_of_lt_of_le hi h.size) fun ht => hn (hT i hi ht)).trans (h.block i hi hn)⟩
theorem Keeps.alloc (h : Keeps S a w) (o : Obj) : Keeps S a (w.alloc o) :=
  ⟨h.os, h.tape, h.output, Nat.le_trans h.size (by simp), fun k hk hn => (Below.heap_alloc w o k (Nat.lt_of_lt_of_le hk h.size)).trans (h.block k hk hn)⟩
theorem Keeps.drew (h : Keeps S a w) : Keeps S a w.drew := ⟨h.os, h.tape, h.output, h.size, h.block⟩
theorem Keeps.drewN (h : Keeps S a w) (n : Nat) : Keeps S a (w.drewN n) := ⟨h.os, h.tape, h.output, h.size, h.block⟩
theorem Keeps.setCell (h : Keeps S a w) {p : Addr} (hp : p.block < a.heap.size → S p.block) (u : Value) : Keeps S a (w.setCell p u) := by
  have hb : Below 0 w (w.setCell p u) := (Below.refl 0 w).setCell (Nat.zero_le _) u
  refine ⟨hb.os.trans h.os, hb.tape.trans h.tape, hb.output.trans h.output, Nat.le_trans h.size hb.size, fun k hk hn => ?_⟩
  exact (Below.heap_setCell w p u k fun e => hn (e ▸ hp (e ▸ hk))).trans (h.block k hk hn)
theorem Keeps.setRow (h : Keeps S a w) {g : Nat} (hp : g < a.heap.size → S g) (c' : Array Value) : Keeps S a (w.setRow g c') := by
  refine ⟨h.os, h.tape, h.output, by rw [size_setRow]; exact h.size, fun k hk hn => ?_⟩
  exact (heap_setRow_other w g k c' fun e => hn (e ▸ hp (e ▸ hk))).trans (h.block k hk hn)
theorem Keeps.grown (h : Keeps S a w) {row : Option Nat} (hg : w.grownBy w' row) (hr : ∀ k, row = some k → k < a.heap.size → S k) : Keeps S a w' := by
  have h0 : Below 0 w w' := (Below.refl 0 w).grown hg (Nat.zero_le _) (fun _ _ => Nat.zero_le _)
  refine ⟨h0.os.trans h.os, h0.tape.trans h.tape, h0.output.trans h.output, Nat.le_trans h.size h0.size, fun k hk hn => ?_⟩
  have h1 : w'.heap[k]? = w.heap[k]? := hg.block k (Nat.lt_of_lt_of_le hk h.size) fun e => hn (hr k e.symm hk)
  exact h1.trans (h.block k hk hn)
theorem Keeps.below {B : Nat} (h : Keeps S a b) (hB : B ≤ a.heap.size) (hS : ∀ k, S k → B ≤ k) : Below B a b :=
  ⟨h.os, h.tape, h.output, h.size, fun k hk => h.block k (Nat.lt_of_lt_of_le hk hB) fun hs => Nat.not_le_of_lt hk (hS k hs)⟩
theorem keepsOf {B : Nat} (h : Below B a b) : Keeps (fun k => B ≤ k) a b := ⟨h.os, h.tape, h.output, h.size, fun k _ hn => h.block k (by omega)⟩
theorem keepsAll (h : Below a.heap.size a b) : Keeps S a b := ⟨h.os, h.tape, h.output, h.size, fun k hk _ => h.block k hk⟩
theorem Whole.keeps (h : Whole w g t cs) (hk : Keeps S w w') (hn : ¬ S g) : Whole w' g t cs := (hk.block g h.inside hn).trans h
theorem Keeps.cell (h : Keeps S w w') {b o : Nat} (hb : b < w.heap.size) (hn : ¬ S b) : w'.cell? ⟨b, o, none⟩ = w.cell? ⟨b, o, none⟩ := World.cell?_of_block (w := w) (a := ⟨b, o, none⟩) (h.block b hb hn)
end

/-! ### Rows of integers -/
def ints (l : List Int) : Array Value := (l.map (Value.int .i64)).toArray
theorem ints_size (l : List Int) : (ints l).size = l.length := by simp [ints]
theorem ints_get (l : List Int) (i : Nat) : (ints l)[i]? = (l[i]?).map (Value.int .i64) := by simp [ints]
theorem ints_at (l : List Int) (i : Nat) (h : i < l.length) : (ints l)[i]? = some (.int .i64 (l.getD i 0)) := by
  rw [ints_get, List.getD_eq_getElem?_getD, List.getElem?_eq_getElem h]; rfl
theorem ints_set (l : List Int) (i : Nat) (x : Int) : (ints l).setIfInBounds i (.int .i64 x) = ints (l.set i x) := by
  apply Array.ext_getElem?
  intro k
  simp [ints]
theorem ints_inj {a b : List Int} (h : ints a = ints b) : a = b := by
  unfold ints at h
  have h' : a.map (Value.int .i64) = b.map (Value.int .i64) := by simpa using h
  have e : ∀ l : List Int, (l.map (Value.int .i64)).map (fun v => match v with | .int _ n => n | _ => 0) = l := fun l => by rw [List.map_map]; exact List.map_id l
  rw [← e a, h', e b]
/-- 0, 1, .., n - 1. -/
def rng (n : Nat) : List Int := (List.range n).map Int.ofNat
theorem rng_length (n : Nat) : (rng n).length = n := by simp [rng]
theorem ints_rng (n : Nat) : full n (fun i => .int .i64 (i : Int)) = ints (rng n) := by
  unfold full ints rng; simp
end Go.Proofs.YtcmbdnjcfneinaaGreatDoor
/-
  Pieces of memory that lie apart: blocks known whole, rows of the call's own; what stays of them, and how one is turned. Conditions: none.
-/
namespace Go.Proofs.YtcmbdnjcfneinaaGreatDoor
open Go.RowKit
/-- A piece of memory: its block, if any, and what is known of it; the knowledge hangs on that block alone. -/
structure Loc where
  blk : Option Nat
  holds : World → Prop
  inside : ∀ w, holds w → ∀ k, blk = some k → k < w.heap.size
  stays : ∀ w w', (∀ k, blk = some k → w'.heap[k]? = w.heap[k]?) → holds w → holds w'
theorem owns_inside {w : World} {B n size : Nat} {t : TypeId} {v : Value} {xs : List Value} (h : w.ownsRow B t size v n xs) {k : Nat} (hk : v.ownBlock = some k) : B ≤ k ∧ k < w.heap.size := by
  obtain ⟨hl, ⟨rfl, h0⟩ | ⟨g, cap, cur, rfl, hB, hg, rest⟩⟩ := h
  · cases hk
  · injection hk with hk
    subst hk
    exact ⟨hB, (Array.getElem?_eq_some_iff.1 hg).1⟩
theorem owns_stays {w w' : World} {B n size : Nat} {t : TypeId} {v : Value} {xs : List Value} (hk : ∀ k, v.ownBlock = some k → w'.heap[k]? = w.heap[k]?) (h : w.ownsRow B t size v n xs) : w'.ownsRow B t size v n xs := by
  obtain ⟨hl, ⟨rfl, h0⟩ | ⟨g, cap, cur, rfl, hB, hg, rest⟩⟩ := h
  · exact ⟨hl, .inl ⟨rfl, h0⟩⟩
  · exact ⟨hl, .inr ⟨g, cap, cur, rfl, hB, (hk g rfl).trans hg, rest⟩⟩
/-- A block known whole. -/
def Loc.box (g : Nat) (t : TypeId) (cs : Array Value) : Loc := ⟨some g, fun w => Whole w g t cs, fun _ h k e => by injection e with e; subst e; exact h.inside, fun _ _ hk h => (hk g rfl).trans h⟩
/-- A row of the call's own. -/
def Loc.own (B : Nat) (t : TypeId) (size : Nat) (v : Value) (n : Nat) (xs : List Value) : Loc := ⟨v.ownBlock, fun w => w.ownsRow B t size v n xs, fun _ h _ e => (owns_inside h e).2, fun _ _ hk h => owns_stays hk h⟩
def Loc.far (a b : Loc) : Prop := ∀ k, a.blk = some k → b.blk ≠ some k
theorem Loc.far.symm {a b : Loc} (h : a.far b) : b.far a := fun k hb ha => h k ha hb
/-- Pieces that lie apart, all made since w0; what was there then is as it was. -/
structure Sep (w0 w : World) (L : List Loc) : Prop where
  old : Keeps (fun _ => False) w0 w
  low : ∀ e ∈ L, ∀ k, e.blk = some k → w0.heap.size ≤ k
  all : ∀ e ∈ L, e.holds w
  apart : L.Pairwise Loc.far
section
variable {w0 w w' : World} {L M : List Loc} {e e' : Loc} {S : Nat → Prop}
theorem Sep.start (w : World) : Sep w w [] := ⟨Keeps.refl _ _, fun _ h => (by cases h), fun _ h => (by cases h), List.Pairwise.nil⟩
theorem Sep.perm (h : Sep w0 w L) (p : L.Perm M) : Sep w0 w M :=
  ⟨h.old, fun e he => h.low e (p.mem_iff.2 he), fun e he => h.all e (p.mem_iff.2 he), (p.pairwise_iff fun h => Loc.far.symm h).1 h.apart⟩
theorem Sep.sub (h : Sep w0 w L) (p : M.Sublist L) : Sep w0 w M :=
  ⟨h.old, fun e he => h.low e (p.subset he), fun e he => h.all e (p.subset he), h.apart.sublist p⟩
theorem Sep.keeps (h : Sep w0 w L) (hk : Keeps S w w') (hS : ∀ e ∈ L, ∀ k, e.blk = some k → ¬ S k) (h0 : ∀ k, k < w0.heap.size → ¬ S k) : Sep w0 w' L :=
  ⟨h.old.and hk fun k hk hs => h0 k hk hs, h.low, fun e he => e.stays w w' (fun k hb => hk.block k (e.inside w (h.all e he) k hb) (hS e he k hb)) (h.all e he), h.apart⟩
theorem Sep.past (h : Sep w0 w L) (hk : Keeps (fun _ => False) w w') : Sep w0 w' L := h.keeps hk (fun _ _ _ _ h => h) (fun _ _ h => h)
/-- One piece more, in new memory. -/
theorem Sep.add (h : Sep w0 w L) (hk : Keeps (fun _ => False) w w') (he : e.holds w') (hn : ∀ k, e.blk = some k → w.heap.size ≤ k) : Sep w0 w' (e :: L) := by
  have h' := h.past hk
  refine ⟨h'.old, fun a ha => ?_, fun a ha => ?_, List.pairwise_cons.2 ⟨fun a ha k hk1 hk2 => ?_, h'.apart⟩⟩
  · rcases List.mem_cons.1 ha with rfl | ha
    · exact fun k hk => Nat.le_trans h.old.size (hn k hk)
    · exact h'.low a ha
  · rcases List.mem_cons.1 ha with rfl | ha
    · exact he
    · exact h'.all a ha
  · have h1 := hn k hk1
    have h2 := a.inside w (h.all a ha) k hk2
    omega
/-- The first piece is turned. -/
theorem Sep.head (h : Sep w0 w (e :: L)) (hk : Keeps (fun k => e.blk = some k) w w') (he : e'.holds w') (hn : ∀ k, e'.blk = some k → e.blk = some k ∨ w.heap.size ≤ k) : Sep w0 w' (e' :: L) := by
  obtain ⟨ha, hp⟩ := List.pairwise_cons.1 h.apart
  have h1 : Sep w0 w L := h.sub (List.sublist_cons_self _ _)
  have h' : Sep w0 w' L := h1.keeps hk (fun a ha1 k hk1 hk2 => ha a ha1 k hk2 hk1) (fun k hk1 hk2 => by have := h.low e (by simp) k hk2; omega)
  refine ⟨h'.old, fun a ha => ?_, fun a ha => ?_, List.pairwise_cons.2 ⟨fun a ha1 k hk1 hk2 => ?_, h'.apart⟩⟩
  · rcases List.mem_cons.1 ha with rfl | ha
    · exact fun k hk => by
        rcases hn k hk with h2 | h2
        · exact h.low e (by simp) k h2
        · exact Nat.le_trans h.old.size h2
    · exact h'.low a ha
  · rcases List.mem_cons.1 ha with rfl | ha
    · exact he
    · exact h'.all a ha
  · rcases hn k hk1 with h2 | h2
    · exact ha a ha1 k h2 hk2
    · have h3 := a.inside w (h1.all a ha1) k hk2
      omega
theorem perm_front : ∀ (L : List Loc) (i : Nat) (e : Loc), L[i]? = some e → L.Perm (e :: L.eraseIdx i)
  | [], i, e, h => by simp at h
  | a :: L, 0, e, h => by
    simp only [List.getElem?_cons_zero, Option.some.injEq] at h
    subst h
    exact List.Perm.refl _
  | a :: L, i + 1, e, h => by
    simp only [List.getElem?_cons_succ] at h
    exact ((perm_front L i e h).cons a).trans (List.Perm.swap _ _ _)
theorem set_front : ∀ (L : List Loc) (i : Nat) (e e' : Loc), L[i]? = some e → (e' :: L.eraseIdx i).Perm (L.set i e')
  | [], i, e, e', h => by simp at h
  | a :: L, 0, e, e', h => List.Perm.refl _
  | a :: L, i + 1, e, e', h => by
    simp only [List.getElem?_cons_succ] at h
    exact (List.Perm.swap _ _ _).trans ((set_front L i e e' h).cons a)
/-- The piece at a place is turned. -/
theorem Sep.put (h : Sep w0 w L) (i : Nat) (hi : L[i]? = some e) (hk : Keeps (fun k => e.blk = some k) w w') (he : e'.holds w') (hn : ∀ k, e'.blk = some k → e.blk = some k ∨ w.heap.size ≤ k) : Sep w0 w' (L.set i e') :=
  ((h.perm (perm_front L i e hi)).head hk he hn).perm (set_front L i e e' hi)
theorem Sep.at_ (h : Sep w0 w L) (i : Nat) (hi : L[i]? = some e) : e.holds w := h.all e (List.mem_of_getElem? hi)
theorem Sep.box_at {g : Nat} {t : TypeId} {cs : Array Value} (h : Sep w0 w L) (i : Nat) (hi : L[i]? = some (Loc.box g t cs)) : Whole w g t cs := h.at_ i hi
theorem Sep.own_at {B size n : Nat} {t : TypeId} {v : Value} {xs : List Value} (h : Sep w0 w L) (i : Nat) (hi : L[i]? = some (Loc.own B t size v n xs)) : w.ownsRow B t size v n xs := h.at_ i hi
/-- A cell of a box is turned. -/
theorem Sep.cell {g : Nat} {t : TypeId} {cs : Array Value} (h : Sep w0 w L) (i : Nat) (hi : L[i]? = some (Loc.box g t cs)) (o : Nat) (u : Value) : Sep w0 (w.setCell ⟨g, o, none⟩ u) (L.set i (Loc.box g t (cs.setIfInBounds o u))) :=
  h.put i hi ((Keeps.refl (fun k => (Loc.box g t cs).blk = some k) w).setCell (p := ⟨g, o, none⟩) (fun _ => rfl) u) ((h.box_at i hi).put o u) (fun _ hk => Or.inl hk)
/-- A box more. -/
theorem Sep.make (h : Sep w0 w L) (t : TypeId) (cs : Array Value) : Sep w0 (w.alloc (.cells cs t)) (Loc.box w.heap.size t cs :: L) :=
  h.add ((Keeps.refl _ w).alloc _) (Whole.made w t cs) (fun k e => by injection e with e; omega)
/-- An empty list more. -/
theorem Sep.nil (h : Sep w0 w L) (B : Nat) (t : TypeId) (size : Nat) : Sep w0 w (Loc.own B t size (.slice none 0 0) 0 [] :: L) :=
  h.add (Keeps.refl _ w) (World.ownsRow_nil _ _ _ _) (fun k e => by cases e)
/-- Entries are put behind a list. -/
theorem Sep.grow {B size n n' : Nat} {t : TypeId} {v v' : Value} {xs ys : List Value} (h : Sep w0 w L) (i : Nat) (hi : L[i]? = some (Loc.own B t size v n xs)) (h1 : w'.ownsRow B t size v' n' ys) (h2 : w.grownBy w' v.ownBlock) (h3 : v'.ownBlock = v.ownBlock ∨ v'.ownBlock = some w.heap.size) :
    Sep w0 w' (L.set i (Loc.own B t size v' n' ys)) :=
  h.put i hi ((Keeps.refl (fun k => (Loc.own B t size v n xs).blk = some k) w).grown h2 (fun k hk _ => hk)) h1 (fun k hk => by
    rcases h3 with h3 | h3
    · exact Or.inl (h3.symm.trans hk)
    · have : v'.ownBlock = some k := hk
      rw [h3] at this
      injection this with this
      exact Or.inr (by omega))
/-- The first two change places; the third comes first. -/
theorem Sep.swap {a b : Loc} (h : Sep w0 w (a :: b :: L)) : Sep w0 w (b :: a :: L) := h.perm (List.Perm.swap _ _ _)
theorem Sep.drop1 {a : Loc} (h : Sep w0 w (a :: L)) : Sep w0 w L := h.sub (List.sublist_cons_self _ _)
end
end Go.Proofs.YtcmbdnjcfneinaaGreatDoor
/-
  A region that draws its order: what holds of the world up to one of its operations, and what is read till then. Conditions: none.
-/
namespace Go.Proofs.YtcmbdnjcfneinaaGreatDoor
open Go.RowKit
section
variable {P : Program} {ops : Array Oper} {Q : Exit → Act → World → Prop} {md : Region.Mode} {k : Nat} {S T : World → Prop}
/-- Whatever order is picked from here on; S holds behind each operation, and T till the operation k has come up. -/
def upTo (P : Program) (md : Region.Mode) (ops : Array Oper) (Q : Exit → Act → World → Prop) (k : Nat) (S T : World → Prop) : Nat → Array Bool → Act → World → Prop
  | 0, listed, a, w => Region.ready md ops listed = [] ∧ Q .normal a w
  | fuel + 1, listed, a, w => (Region.ready md ops listed = [] → Q .normal a w) ∧
    ∀ i ∈ Region.ready md ops listed, wpOp P ops Q i (fun a' w' => (S w' ∧ ((listed.setIfInBounds i true).getD k true = false → T w')) ∧ upTo P md ops Q k S T fuel (listed.setIfInBounds i true) a' w') a w
theorem any_of_upTo : ∀ (fuel : Nat) (listed : Array Bool) (a : Act) (w : World), upTo P md ops Q k S T fuel listed a w → wpAny P md ops Q fuel listed a w
  | 0, _, _, _, h => h
  | fuel + 1, _, _, _, h => ⟨h.1, fun i hi => wpOp_mono (fun a' w' h' => any_of_upTo fuel _ a' w' h'.2) (h.2 i hi)⟩
theorem upTo_first {i : Nat} {oi : Oper} {v : Value} {U : World → Prop} (hi : ops[i]? = some oi) (hsel : ∀ (j : Nat) (o : Oper) cs b, ops[j]? = some o → o.op ≠ .select cs b)
    (hQ : ∀ c a w, Q (.panic c) (a.put oi.dst v) w → Q (.panic c) a w) (hne : i ≠ k) (hU : (∀ w, S w → U w) ∨ ((∀ w, T w → U w) ∧ ∃ ok, ops[k]? = some ok ∧ ∃ e ∈ ok.after, Region.binds md e = true ∧ e.on = i)) :
    ∀ (fuel : Nat) (listed : Array Bool) (a : Act) (w : World),
      (∀ j oj, ops[j]? = some oj → j ≠ i → listed.getD j true = false → (∀ e ∈ oj.after, Region.binds md e = true → e.on ≠ i) → oi.apart ops oj = true) →
      i ∈ Region.ready md ops listed → YieldsIf P ops U oi v a → S w → ((listed.setIfInBounds i true).getD k true = false → T w) → ((∀ w, S w → U w) ∨ listed.getD k true = false) →
      upTo P md ops Q k S T fuel (listed.setIfInBounds i true) (a.put oi.dst v) w → upTo P md ops Q k S T (fuel + 1) listed a w := by
  have hUw : ∀ (listed : Array Bool) (w : World), S w → ((listed.setIfInBounds i true).getD k true = false → T w) → ((∀ w, S w → U w) ∨ listed.getD k true = false) → U w := fun listed w hS hT hK => by
    rcases hU with h | ⟨h, _⟩
    · exact h w hS
    · rcases hK with h' | h'
      · exact h' w hS
      · exact h w (hT (by rw [getD_set_ne true hne]; exact h'))
  intro fuel
  induction fuel with
  | zero =>
    intro listed a w _ hr hy hS hT hK H
    refine ⟨fun h => (by rw [h] at hr; cases hr), fun j hj => ?_⟩
    by_cases hji : j = i
    · subst hji; exact hy.wpOp hi (hUw listed w hS hT hK) ⟨⟨hS, hT⟩, H⟩
    · have := ready_mono hj hji
      rw [H.1] at this
      cases this
  | succ fuel ih =>
    intro listed a w hfree hr hy hS hT hK H
    refine ⟨fun h => (by rw [h] at hr; cases hr), fun j hj => ?_⟩
    by_cases hji : j = i
    · subst hji; exact hy.wpOp hi (hUw listed w hS hT hK) ⟨⟨hS, hT⟩, H⟩
    · have h1 := H.2 j (ready_mono hj hji)
      obtain ⟨hjun, oj, hoj, hall⟩ := mem_ready.1 hj
      have hnot : ∀ e ∈ oj.after, Region.binds md e = true → e.on ≠ i := fun e he hb heq => by
        have h1 := hall e he hb
        have h0 := (mem_ready.1 hr).1
        rw [heq] at h1
        rcases Nat.lt_or_ge i listed.size with h' | h'
        · simp [h'] at h0 h1; rw [h0] at h1; cases h1
        · simp [Array.getElem?_eq_none h'] at h1
      have h2 := wpOp_putIf hoj (hfree j oj hoj hji hjun hnot) (fun cs b => hsel i oi cs b hi) (fun cs b => hsel j oj cs b hoj) hQ hy h1
      have hfree' : ∀ n on, ops[n]? = some on → n ≠ i → (listed.setIfInBounds j true).getD n true = false →
          (∀ e ∈ on.after, Region.binds md e = true → e.on ≠ i) → oi.apart ops on = true := fun n on hon hni hun hno => by
        refine hfree n on hon hni ?_ hno
        by_cases hjn : j = n
        · subst hjn; exact hjun
        · rw [getD_set_ne true hjn] at hun; exact hun
      have hK' : (∀ w, S w → U w) ∨ (listed.setIfInBounds j true).getD k true = false := by
        rcases hU with h | ⟨_, ok, hok, e, he, hb, heq⟩
        · exact Or.inl h
        · rcases hK with h' | h'
          · exact Or.inl h'
          · right
            have hjk : j ≠ k := fun e2 => by
              subst e2
              rw [hok] at hoj
              injection hoj with hoj
              subst hoj
              exact hnot e he hb heq
            rw [getD_set_ne true hjk]
            exact h'
      refine wpOp_mono (fun a' w' h3 => ?_) h2
      have hsw : (listed.setIfInBounds i true).setIfInBounds j true = (listed.setIfInBounds j true).setIfInBounds i true := Array.setIfInBounds_comm _ _ (Ne.symm hji)
      have hT' : ((listed.setIfInBounds j true).setIfInBounds i true).getD k true = false → T w' := by
        rw [← hsw]; exact h3.2.1.2
      refine ⟨⟨h3.2.1.1, fun hk => ?_⟩, ih (listed.setIfInBounds j true) a' w' hfree' (ready_mono hr (Ne.symm hji)) h3.1 h3.2.1.1 hT' hK' ?_⟩
      · exact hT' (by rw [getD_set_ne true hne]; exact hk)
      · rw [← hsw]
        exact h3.2.2
/-- What yields wherever S holds is taken first. -/
theorem upTo_take {i : Nat} {oi : Oper} {v : Value} {fuel : Nat} {listed : Array Bool} {a : Act} {w : World} (hi : ops[i]? = some oi)
    (hs : Region.noSelect ops = true) (hf : Region.free md ops listed i = true) (hr : (Region.ready md ops listed).contains i = true)
    (hQ : ∀ c a w, Q (.panic c) (a.put oi.dst v) w → Q (.panic c) a w) (hne : i ≠ k) (hy : YieldsIf P ops S oi v a) (hS : S w) (hT : listed.getD k true = false → T w)
    (h : upTo P md ops Q k S T fuel (listed.setIfInBounds i true) (a.put oi.dst v) w) : upTo P md ops Q k S T (fuel + 1) listed a w :=
  upTo_first hi (Region.noSelect_spec hs) hQ hne (Or.inl fun _ h => h) fuel listed a w (Region.free_spec hi hf) (by simpa using hr) hy hS (fun h => hT (by rw [getD_set_ne true hne] at h; exact h)) (Or.inl fun _ h => h) h
/-- What is read while T holds, and asked by the operation k, is taken first. -/
theorem upTo_load {i : Nat} {oi : Oper} {v : Value} {fuel : Nat} {listed : Array Bool} {a : Act} {w : World} (hi : ops[i]? = some oi)
    (hs : Region.noSelect ops = true) (hf : Region.free md ops listed i = true) (hr : (Region.ready md ops listed).contains i = true)
    (hQ : ∀ c a w, Q (.panic c) (a.put oi.dst v) w → Q (.panic c) a w) (hne : i ≠ k) (hk : (match ops[k]? with | some ok => ok.after.any fun e => Region.binds md e && e.on == i | none => false) = true) (hl : listed.getD k true = false) (hy : YieldsIf P ops T oi v a) (hS : S w) (hT : T w)
    (h : upTo P md ops Q k S T fuel (listed.setIfInBounds i true) (a.put oi.dst v) w) : upTo P md ops Q k S T (fuel + 1) listed a w := by
  have hk' : ∃ ok, ops[k]? = some ok ∧ ∃ e ∈ ok.after, Region.binds md e = true ∧ e.on = i := by
    cases e : ops[k]? with
    | none => rw [e] at hk; cases hk
    | some ok =>
      rw [e] at hk
      obtain ⟨x, hx, hb⟩ := Array.any_eq_true'.1 hk
      simp only [Bool.and_eq_true, beq_iff_eq] at hb
      exact ⟨ok, rfl, x, hx, hb.1, hb.2⟩
  exact upTo_first hi (Region.noSelect_spec hs) hQ hne (Or.inr ⟨fun _ h => h, hk'⟩) fuel listed a w (Region.free_spec hi hf) (by simpa using hr) hy hS (fun _ => hT) (Or.inr hl) h
/-- The one operation that may come up is carried out. -/
theorem upTo_next {i : Nat} {o : Oper} {fuel : Nat} {listed : Array Bool} {a : Act} {w : World} (hr : Region.ready md ops listed = [i]) (ho : ops[i]? = some o)
    (h : ∀ K' : Act → World → Prop, Shut (∀ a w, S w → ((listed.setIfInBounds i true).getD k true = false → T w) → upTo P md ops Q k S T fuel (listed.setIfInBounds i true) a w → K' a w) → if Region.wanted o (yielded ops a.tmps) = true then Oper.wp P o a w K' Q else K' (a.put o.dst undef) w) :
    upTo P md ops Q k S T (fuel + 1) listed a w := by
  refine ⟨fun h0 => (by rw [hr] at h0; cases h0), ?_⟩
  rw [hr]
  intro j hj
  obtain rfl : j = i := by simpa using hj
  exact wpOp_step ho (fun K' hK => h K' (fun a w hS hT hW => hK a w ⟨⟨hS, hT⟩, hW⟩))
/-- Each of the operations rs comes up next. -/
def AllU (P : Program) (md : Region.Mode) (ops : Array Oper) (Q : Exit → Act → World → Prop) (k : Nat) (S T : World → Prop) (fuel : Nat) (listed : Array Bool) (a : Act) (w : World) (rs : List Nat) : Prop :=
  ∀ i ∈ rs, wpOp P ops Q i (fun a' w' => (S w' ∧ ((listed.setIfInBounds i true).getD k true = false → T w')) ∧ upTo P md ops Q k S T fuel (listed.setIfInBounds i true) a' w') a w
theorem AllU.nil {fuel : Nat} {listed : Array Bool} {a : Act} {w : World} : AllU P md ops Q k S T fuel listed a w [] := fun _ h => by cases h
theorem AllU.cons {fuel : Nat} {listed : Array Bool} {a : Act} {w : World} {i : Nat} {o : Oper} {rs : List Nat} (ho : ops[i]? = some o)
    (h : ∀ K' : Act → World → Prop, Shut (∀ a w, S w → ((listed.setIfInBounds i true).getD k true = false → T w) → upTo P md ops Q k S T fuel (listed.setIfInBounds i true) a w → K' a w) → if Region.wanted o (yielded ops a.tmps) = true then Oper.wp P o a w K' Q else K' (a.put o.dst undef) w)
    (hs : AllU P md ops Q k S T fuel listed a w rs) : AllU P md ops Q k S T fuel listed a w (i :: rs) := fun j hj => by
  rcases List.mem_cons.1 hj with rfl | hj
  · exact wpOp_step ho (fun K' hK => h K' (fun a w hS hT hW => hK a w ⟨⟨hS, hT⟩, hW⟩))
  · exact hs j hj
theorem upTo_ready {rs : List Nat} {fuel : Nat} {listed : Array Bool} {a : Act} {w : World} (hr : Region.ready md ops listed = rs) (hne : rs ≠ []) (h : AllU P md ops Q k S T fuel listed a w rs) : upTo P md ops Q k S T (fuel + 1) listed a w :=
  ⟨fun h0 => absurd (hr ▸ h0) hne, hr ▸ h⟩
/-- A region cut off from what follows. -/
theorem region_cut {c : Code} {a : Act} {w : World} (R : Act → World → Prop) (h1 : Code.wp P c (fun e a' w' => e = .normal ∧ R a' w') a w) (h2 : ∀ a' w', R a' w' → Q .normal a' w') : Code.wp P c Q a w :=
  Code.wp_mono (fun e a' w' h => by obtain ⟨rfl, h⟩ := h; exact h2 a' w' h) h1
theorem upTo_done {listed : Array Bool} {a : Act} {w : World} (hr : Region.ready md ops listed = []) (h : Q .normal a w) : ∀ fuel, upTo P md ops Q k S T fuel listed a w
  | 0 => ⟨hr, h⟩
  | _ + 1 => ⟨fun _ => h, by rw [hr]; simp⟩
/-- The beginning. -/
theorem wp_region_upTo (k : Nat) (S T : World → Prop) {id : Nat} {a : Act} {w : World} (hm : P.follows .mixedOrders = true)
    (h : upTo P .any ops Q k S T ops.size (Array.replicate ops.size false) a w.drew) : (Code.region id ops true).wp P Q a w :=
  wp_region_any hm (any_of_upTo _ _ _ _ h)
end
end Go.Proofs.YtcmbdnjcfneinaaGreatDoor
