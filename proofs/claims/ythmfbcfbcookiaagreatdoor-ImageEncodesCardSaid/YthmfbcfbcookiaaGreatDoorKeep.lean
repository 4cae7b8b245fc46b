/-
  What stays in memory: all blocks but those of a set. Conditions: none.
-/
import Derived.Test.YthmfbcfbcookiaaGreatDoorMem
namespace Go.Proofs.YthmfbcfbcookiaaGreatDoor
open Go.RowKit

/-- Outside the set S the world w' is as w was; the streams are as they were; no block has gone. -/
structure Keeps (S : Nat → Prop) (w w' : World) : Prop where
  os : w'.os = w.os
  tape : w'.tape = w.tape
  output : w'.output = w.output
  size : w.heap.size ≤ w'.heap.size
  block : ∀ k, k < w.heap.size → ¬ S k → w'.heap[k]? = w.heap[k]?
section
variable {S T : Nat → Prop} {a b c w w' : World} {g : Nat} {t : TypeId} {cs : Array Value}
theorem Keeps.refl (S : Nat → Prop) (w : World) : Keeps S w w := ⟨rfl, rfl, rfl, Nat.le_refl _, fun _ _ _ => rfl⟩
theorem Keeps.trans (h : Keeps S a b) (k : Keeps S b c) : Keeps S a c :=
  ⟨k.os.trans h.os, k.tape.trans h.tape, k.output.trans h.output, Nat.le_trans h.size k.size, fun i hi hn => (k.block i (Nat.lt_of_lt_of_le hi h.size) hn).trans (h.block i hi hn)⟩
theorem Keeps.mono (h : Keeps S a b) (hT : ∀ k, k < a.heap.size → S k → T k) : Keeps T a b := ⟨h.os, h.tape, h.output, h.size, fun k hk hn => h.block k hk fun hs => hn (hT k hk hs)⟩
/-- Two steps: what the second may turn, lies in the set or is new. -/
theorem Keeps.and (h : Keeps S a b) (k : Keeps T b c) (hT : ∀ k, k < a.heap.size → T k → S k) : Keeps S a c :=
  ⟨k.os.trans h.os, k.tape.trans h.tape, k.output.trans h.output, Nat.le_trans h.size k.size, fun i hi hn => (k.block i (Nat.lt_of_lt_of_le hi h.size) fun ht => hn (hT i hi ht)).trans (h.block i hi hn)⟩
theorem Keeps.alloc (h : Keeps S a w) (o : Obj) : Keeps S a (w.alloc o) :=
  ⟨h.os, h.tape, h.output, Nat.le_trans h.size (by simp), fun k hk hn => (Below.heap_alloc w o k (Nat.lt_of_lt_of_le hk h.size)).trans (h.block k hk hn)⟩
theorem Keeps.drew (h : Keeps S a w) : Keeps S a w.drew := ⟨h.os, h.tape, h.output, h.size, h.block⟩
theorem Keeps.drewN (h : Keeps S a w) (n : Nat) : Keeps S a (w.drewN n) := ⟨h.os, h.tape, h.output, h.size, h.block⟩
theorem Keeps.setCell (h : Keeps S a w) {p : Addr} (hp : p.block < a.heap.size → S p.block) (u : Value) : Keeps S a (w.setCell p u) := by
  have hb : Below 0 w (w.setCell p u) := (Below.refl 0 w).setCell (Nat.zero_le _) u
  refine ⟨hb.os.trans h.os, hb.tape.trans h.tape, hb.output.trans h.output, Nat.le_trans h.size hb.size, fun k hk hn => ?_⟩
  exact (Below.heap_setCell w p u k fun e => hn (e ▸ hp (e ▸ hk))).trans (h.block k hk hn)
theorem Keeps.setRow (h : Keeps S a w) {g : Nat} (hp : g < a.heap.size → S g) (c' : Array Value) : Keeps S a (w.setRow g c') := by
  refine ⟨h.os, h.tape, h.output, by rw [size_setRow]; exact h.size, fun k hk hn => ?_⟩
  exact (heap_setRow_other w g k c' fun e => hn (e ▸ hp (e ▸ hk))).trans (h.block k hk hn)
theorem Keeps.grown (h : Keeps S a w) {row : Option Nat} (hg : w.grownBy w' row) (hr : ∀ k, row = some k → k < a.heap.size → S k) : Keeps S a w' := by
  have h0 : Below 0 w w' := (Below.refl 0 w).grown hg (Nat.zero_le _) (fun _ _ => Nat.zero_le _)
  refine ⟨h0.os.trans h.os, h0.tape.trans h.tape, h0.output.trans h.output, Nat.le_trans h.size h0.size, fun k hk hn => ?_⟩
  have h1 : w'.heap[k]? = w.heap[k]? := hg.block k (Nat.lt_of_lt_of_le hk h.size) fun e => hn (hr k e.symm hk)
  exact h1.trans (h.block k hk hn)
theorem Keeps.below {B : Nat} (h : Keeps S a b) (hB : B ≤ a.heap.size) (hS : ∀ k, S k → B ≤ k) : Below B a b :=
  ⟨h.os, h.tape, h.output, h.size, fun k hk => h.block k (Nat.lt_of_lt_of_le hk hB) fun hs => Nat.not_le_of_lt hk (hS k hs)⟩
theorem keepsOf {B : Nat} (h : Below B a b) : Keeps (fun k => B ≤ k) a b := ⟨h.os, h.tape, h.output, h.size, fun k _ hn => h.block k (by omega)⟩
theorem keepsAll (h : Below a.heap.size a b) : Keeps S a b := ⟨h.os, h.tape, h.output, h.size, fun k hk _ => h.block k hk⟩
theorem Whole.keeps (h : Whole w g t cs) (hk : Keeps S w w') (hn : ¬ S g) : Whole w' g t cs := (hk.block g h.inside hn).trans h
theorem Keeps.cell (h : Keeps S w w') {b o : Nat} (hb : b < w.heap.size) (hn : ¬ S b) : w'.cell? ⟨b, o, none⟩ = w.cell? ⟨b, o, none⟩ := World.cell?_of_block (w := w) (a := ⟨b, o, none⟩) (h.block b hb hn)
end

/-! ### Rows of integers -/
def ints (l : List Int) : Array Value := (l.map (Value.int .i64)).toArray
theorem ints_size (l : List Int) : (ints l).size = l.length := by simp [ints]
theorem ints_get (l : List Int) (i : Nat) : (ints l)[i]? = (l[i]?).map (Value.int .i64) := by simp [ints]
theorem ints_at (l : List Int) (i : Nat) (h : i < l.length) : (ints l)[i]? = some (.int .i64 (l.getD i 0)) := by
  rw [ints_get, List.getD_eq_getElem?_getD, List.getElem?_eq_getElem h]; rfl
theorem ints_set (l : List Int) (i : Nat) (x : Int) : (ints l).setIfInBounds i (.int .i64 x) = ints (l.set i x) := by
  apply Array.ext_getElem?
  intro k
  simp [ints]
theorem ints_inj {a b : List Int} (h : ints a = ints b) : a = b := by
  unfold ints at h
  have h' : a.map (Value.int .i64) = b.map (Value.int .i64) := by simpa using h
  have e : ∀ l : List Int, (l.map (Value.int .i64)).map (fun v => match v with | .int _ n => n | _ => 0) = l := fun l => by rw [List.map_map]; exact List.map_id l
  rw [← e a, h', e b]
/-- 0, 1, .., n - 1. -/
def rng (n : Nat) : List Int := (List.range n).map Int.ofNat
theorem rng_length (n : Nat) : (rng n).length = n := by simp [rng]
theorem ints_rng (n : Nat) : full n (fun i => .int .i64 (i : Int)) = ints (rng n) := by
  unfold full ints rng; simp
end Go.Proofs.YthmfbcfbcookiaaGreatDoor
