/-
  Lists of structs, laid out cell by cell. Conditions: none.
-/
import Derived.Test.YthmfbcfbcookiaaGreatDoorWMg
namespace Go.Proofs.YthmfbcfbcookiaaGreatDoor
open Go.RowKit
/-- The cells of a list, element by element. -/
def flat {α : Type} (f : α → List Value) (l : List α) : List Value := l.flatMap f
theorem flat_length {α : Type} {f : α → List Value} {k : Nat} (hf : ∀ a, (f a).length = k) (l : List α) : (flat f l).length = l.length * k := by
  induction l with
  | nil => simp [flat]
  | cons a l ih => rw [flat, List.flatMap_cons, List.length_append, hf]; unfold flat at ih; rw [ih, List.length_cons, Nat.succ_mul, Nat.add_comm]
theorem flat_get {α : Type} {f : α → List Value} {k : Nat} (hf : ∀ a, (f a).length = k) (l : List α) (i : Nat) (a : α) (hi : l[i]? = some a) (j : Nat) (hj : j < k) : (flat f l)[i * k + j]? = (f a)[j]? := by
  induction l generalizing i with
  | nil => simp at hi
  | cons b l ih =>
    rw [flat, List.flatMap_cons]
    cases i with
    | zero =>
      simp only [List.getElem?_cons_zero, Option.some.injEq] at hi
      subst hi
      rw [List.getElem?_append_left (by rw [hf]; omega), Nat.zero_mul, Nat.zero_add]
    | succ i =>
      simp only [List.getElem?_cons_succ] at hi
      rw [List.getElem?_append_right (by rw [hf, Nat.succ_mul]; omega), hf, show (i + 1) * k + j - k = i * k + j by rw [Nat.succ_mul]; omega]
      exact ih i hi
theorem make_rows {P : Program} (t e : TypeId) (z : Value) (size bytes : Nat) (ht : P.underlying t = some (.slice e)) (hinfo : (P.info? e).map (fun i => (i.zero, i.size, i.bytes)) = some (some z, size, bytes))
    (n : Nat) (hbytes : bytes * n ≤ 281474976710656) (h63 : n ≤ 9223372036854775807) (w : World) :
    (Instr.makeSlice t (.int .i64 (n : Int)) (.int .i64 (n : Int))).run P w = .ok (.slice (some ⟨w.heap.size, 0, none⟩) n n) (w.alloc (.cells (madeCells z.cells (n * size)) e)) := by
  obtain ⟨i, hi, hzz⟩ := Option.map_eq_some_iff.1 hinfo
  simp only [Prod.mk.injEq] at hzz
  obtain ⟨hz, hs, hb⟩ := hzz
  have hb' : (i.bytes : Int) * (n : Int) ≤ 281474976710656 := by
    have h : ((i.bytes * n : Nat) : Int) ≤ 281474976710656 := by rw [hb]; omega
    rwa [Int.natCast_mul] at h
  have hr := run_make (P := P) w t e i z ht hi hz .i64 .i64 n n (by omega) (Int.le_refl _) hb' (by omega)
  simpa [hs] using hr
/-- Elements of k cells each, where a slice says. -/
def FLies {α : Type} (f : α → List Value) (k : Nat) (w : World) (B : Nat) (A : Option Addr) (xs : List α) : Prop := ∀ i c, xs[i]? = some c → ∃ g off, A = some ⟨g, off, none⟩ ∧ g < B ∧ ∀ j, j < k → w.cell? ⟨g, off + i * k + j, none⟩ = (f c)[j]?
section
variable {α : Type} {f : α → List Value} {k : Nat} {w w' : World} {B : Nat} {A : Option Addr} {xs : List α}
theorem FLies.keeps {S : Nat → Prop} (h : FLies f k w B A xs) (hk : Keeps S w w') (hS : ∀ b, b < B → ¬ S b) (hB : B ≤ w.heap.size := by omega) : FLies f k w' B A xs := fun i c hi => by
  obtain ⟨g, off, e, hg, hc⟩ := h i c hi
  exact ⟨g, off, e, hg, fun j hj => (hk.cell (by omega) (hS g hg)).trans (hc j hj)⟩
theorem FLies.more {B' : Nat} (h : FLies f k w B A xs) (hB : B ≤ B') : FLies f k w B' A xs := fun i c hi => by
  obtain ⟨g, off, e, hg, hc⟩ := h i c hi
  exact ⟨g, off, e, by omega, hc⟩
theorem FLies.drewN (h : FLies f k w B A xs) (n : Nat) : FLies f k (w.drewN n) B A xs := h
theorem FLies.nil : FLies f k w B A ([] : List α) := fun i c h => by simp at h
/-- Out of a block that is known whole: the first ones of the list that fills it. -/
theorem FLies.whole (hf : ∀ a, (f a).length = k) {g : Nat} {t : TypeId} {ys : List α} (h : Whole w g t (flat f ys).toArray) (hp : ∀ (i : Nat) (c : α), xs[i]? = some c → ys[i]? = some c) (hB : g < B) : FLies f k w B (some ⟨g, 0, none⟩) xs := fun i c hi =>
  ⟨g, 0, rfl, hB, fun j hj => by rw [Nat.zero_add, h.cellAt, List.getElem?_toArray]; exact flat_get hf ys i c (hp i c hi) j hj⟩
end
end Go.Proofs.YthmfbcfbcookiaaGreatDoor
