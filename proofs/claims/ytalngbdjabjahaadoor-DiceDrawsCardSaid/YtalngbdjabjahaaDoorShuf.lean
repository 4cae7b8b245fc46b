/-
  Shuffle as a plain function of what is answered. Conditions: none.
-/
import Derived.Test.YtalngbdjabjahaaDoorKeep
import Derived.Test.YtalngbdjabjahaaDoorProg
namespace Go.Proofs.YtalngbdjabjahaaDoor
open Go.RowKit
theorem info_int : (Tryd.prog.info? 3).map (fun i => (i.zero, i.size, i.bytes)) = some (some (.int .i64 0), 1, 8) := by kernel_rfl
/-- Two places exchanged. -/
def swp (l : List Int) (i j : Nat) : List Int := (l.set i (l.getD j 0)).set j (l.getD i 0)
theorem swp_length (l : List Int) (i j : Nat) : (swp l i j).length = l.length := by simp [swp]
section
variable {σ : Type} (ans : σ → Nat → Int × Bool) (nxt : σ → Nat → σ)
/-- Is the answer one that serves? -/
def okAns (r : Int × Bool) (i : Nat) : Bool := r.2 && decide (0 ≤ r.1) && decide (r.1 ≤ (i : Int))
def shuf : Nat → List Int → σ → Option (List Int) × σ
  | 0, l, s => (some l, s)
  | i + 1, l, s => if okAns (ans s (i + 2)) (i + 1) then shuf i (swp l (i + 1) (ans s (i + 2)).1.toNat) (nxt s (i + 2)) else (none, nxt s (i + 2))
theorem shuf_zero (l : List Int) (s : σ) : shuf ans nxt 0 l s = (some l, s) := rfl
theorem shuf_yes {i : Nat} {l : List Int} {s : σ} (h : okAns (ans s (i + 2)) (i + 1) = true) : shuf ans nxt (i + 1) l s = shuf ans nxt i (swp l (i + 1) (ans s (i + 2)).1.toNat) (nxt s (i + 2)) := by rw [shuf, if_pos h]
theorem shuf_no {i : Nat} {l : List Int} {s : σ} (h : okAns (ans s (i + 2)) (i + 1) = false) : shuf ans nxt (i + 1) l s = (none, nxt s (i + 2)) := by rw [shuf, if_neg (by rw [h]; exact Bool.false_ne_true)]
end
/-- What Shuffle leaves: the row of its own at the next block, if all answers served. -/
def ShPost {σ : Type} (Inv : σ → World → Prop) (S : Nat → Prop) (n : Nat) (w : World) (r : Option (List Int) × σ) (e : Ending) (w' : World) : Prop :=
  Inv r.2 w' ∧ Keeps S w w' ∧ w.heap.size < w'.heap.size ∧
  match r.1 with
  | some l => e = .returned (.tuple #[.slice (some ⟨w.heap.size, 0, none⟩) n n, .bool true]) ∧ Whole w' w.heap.size 3 (ints l) ∧ l.length = n
  | none => e = .returned (.tuple #[.slice none 0 0, .bool false])
/-- A cell read behind a store into the same row. -/
theorem cell_put {w : World} {g : Nat} {l : List Int} (h : Whole w g 3 (ints l)) (i j : Nat) (hj : j < l.length) :
    (w.setCell ⟨g, i, none⟩ (.int .i64 (l.getD j 0))).cell? ⟨g, j, none⟩ = some (.int .i64 (l.getD j 0)) := by
  have h1 := (h.put i (.int .i64 (l.getD j 0))).cellAt j
  rw [h1, ints_set, ints_at _ _ (by simpa using hj)]
  congr 2
  rw [List.getD_eq_getElem?_getD, List.getElem?_set]
  split
  · split
    · rfl
    · omega
  · rw [List.getD_eq_getElem?_getD]
theorem free_put {w : World} {g : Nat} {l : List Int} (h : Whole w g 3 (ints l)) (i j : Nat) (x : Int) :
    (w.setCell ⟨g, i, none⟩ (.int .i64 x)).frozen? ⟨g, j, none⟩ = false := (h.put i _).free j
theorem whole_swp {w : World} {g : Nat} {l : List Int} (h : Whole w g 3 (ints l)) (i j : Nat) :
    Whole ((w.setCell ⟨g, i, none⟩ (.int .i64 (l.getD j 0))).setCell ⟨g, j, none⟩ (.int .i64 (l.getD i 0))) g 3 (ints (swp l i j)) := by
  have h1 := (h.put i (.int .i64 (l.getD j 0))).put j (.int .i64 (l.getD i 0))
  rw [ints_set, ints_set] at h1
  exact h1
section
variable {σ : Type} {Inv : σ → World → Prop} {S : Nat → Prop} {n : Nat} {w w' : World} {R : Option (List Int) × σ} {s : σ}
theorem shPost_some {l : List Int} (hR : (some l, s) = R) (hI : Inv s w') (hK : Keeps S w w') (hs : w.heap.size < w'.heap.size) (hW : Whole w' w.heap.size 3 (ints l)) (hl : l.length = n) :
    ShPost Inv S n w R (.returned (.tuple #[.slice (some ⟨w.heap.size, 0, none⟩) n n, .bool true])) w' := by
  subst hR; exact ⟨hI, hK, hs, rfl, hW, hl⟩
theorem shPost_none (hR : (none, s) = R) (hI : Inv s w') (hK : Keeps S w w') (hs : w.heap.size < w'.heap.size) :
    ShPost Inv S n w R (.returned (.tuple #[.slice none 0 0, .bool false])) w' := by
  subst hR; exact ⟨hI, hK, hs, rfl⟩
end
end Go.Proofs.YtalngbdjabjahaaDoor
