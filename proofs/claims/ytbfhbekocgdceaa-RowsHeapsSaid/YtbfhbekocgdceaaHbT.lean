/-
  rows.Heap of Thing: Put: the walk. Conditions: lengths within 10 ^ 8.
-/
import Derived.Test.YtbfhbekocgdceaaHaT
import Derived.Test.YtbfhbekocgdceaaHbI
namespace Go.Proofs.Ytbfhbekocgdceaa
open Go.RowKit
theorem flat_setT (l : List EnT) (i : Nat) (e : EnT) (hi : i < l.length) : (((flat EnT.cells l).set (i * 3) (.int .i64 e.rank)).set (i * 3 + 1) (.int .i64 e.name)).set (i * 3 + 2) (.int .i64 e.came) = flat EnT.cells (l.set i e) := by
  have hl := flat_length (f := EnT.cells) (k := 3) (fun _ => rfl) l
  rw [set3 _ _ _ (i * 3) _ (by rw [hl]; omega), flat_set (k := 3) (fun _ => rfl) l i e hi]
  rfl
def swapLT (l : List EnT) (i k : Nat) (ei ek : EnT) : List EnT := (l.set i ek).set k ei
theorem HeapT.swap {w : World} {p g c i k : Nat} {l : List EnT} {came : Int} {ei ek : EnT} (h : HeapT w p (some ⟨g, 0, none⟩) c l came) (hi : i < l.length) (hk : k < l.length) : HeapT ((((((w.setCell ⟨g, i * 3, none⟩ (.int .i64 ek.rank)).setCell ⟨g, i * 3 + 1, none⟩ (.int .i64 ek.name)).setCell ⟨g, i * 3 + 2, none⟩ (.int .i64 ek.came)).setCell ⟨g, k * 3, none⟩ (.int .i64 ei.rank)).setCell ⟨g, k * 3 + 1, none⟩ (.int .i64 ei.name)).setCell ⟨g, k * 3 + 2, none⟩ (.int .i64 ei.came)).drew p (some ⟨g, 0, none⟩) c (swapLT l i k ei ek) came ∧ Keeps (fun b => b = g) w ((((((w.setCell ⟨g, i * 3, none⟩ (.int .i64 ek.rank)).setCell ⟨g, i * 3 + 1, none⟩ (.int .i64 ek.name)).setCell ⟨g, i * 3 + 2, none⟩ (.int .i64 ek.came)).setCell ⟨g, k * 3, none⟩ (.int .i64 ei.rank)).setCell ⟨g, k * 3 + 1, none⟩ (.int .i64 ei.name)).setCell ⟨g, k * 3 + 2, none⟩ (.int .i64 ei.came)).drew := by
  have hpg := (h.own.lt g rfl).1
  have hll : (swapLT l i k ei ek).length = l.length := by simp [swapLT]
  refine ⟨⟨?_, ?_⟩, ?_⟩
  · rw [hll]
    exact (((((((h.box).putFar (p := ⟨g, i * 3, none⟩) (by show p ≠ g; omega) _).putFar (p := ⟨g, i * 3 + 1, none⟩) (by show p ≠ g; omega) _).putFar (p := ⟨g, i * 3 + 2, none⟩) (by show p ≠ g; omega) _).putFar (p := ⟨g, k * 3, none⟩) (by show p ≠ g; omega) _).putFar (p := ⟨g, k * 3 + 1, none⟩) (by show p ≠ g; omega) _).putFar (p := ⟨g, k * 3 + 2, none⟩) (by show p ≠ g; omega) _).drew
  · rw [hll]
    have h1 := h.own
    have h1 := own_setN (k := i * 3) h1 (.int .i64 ek.rank)
    have h1 := own_setN (k := i * 3 + 1) h1 (.int .i64 ek.name)
    have h1 := own_setN (k := i * 3 + 2) h1 (.int .i64 ek.came)
    have h1 := own_setN (k := k * 3) h1 (.int .i64 ei.rank)
    have h1 := own_setN (k := k * 3 + 1) h1 (.int .i64 ei.name)
    have h1 := own_setN (k := k * 3 + 2) h1 (.int .i64 ei.came)
    rw [flat_setT l i ek hi, flat_setT (l.set i ek) k ei (by simpa using hk)] at h1
    exact own_drewN h1
  · refine Keeps.drew ?_
    refine Keeps.setCell (S := fun b => b = g) ?_ (fun _ => rfl) _
    refine Keeps.setCell (S := fun b => b = g) ?_ (fun _ => rfl) _
    refine Keeps.setCell (S := fun b => b = g) ?_ (fun _ => rfl) _
    refine Keeps.setCell (S := fun b => b = g) ?_ (fun _ => rfl) _
    refine Keeps.setCell (S := fun b => b = g) ?_ (fun _ => rfl) _
    refine Keeps.setCell (S := fun b => b = g) ?_ (fun _ => rfl) _
    exact Keeps.refl _ _
/-- A thing goes up. -/
def upT (l : List EnT) (i : Nat) : List EnT :=
  if _h : i = 0 then l else
    match l[i]?, l[(i - 1) / 2]? with
    | some ei, some ek => if ahT ei ek then upT (swapLT l i ((i - 1) / 2) ei ek) ((i - 1) / 2) else l
    | _, _ => l
termination_by i
decreasing_by omega
def putOneT (l : List EnT) (came : Int) (x : Int × Int) : List EnT := upT (l ++ [⟨x.1, x.2, came⟩]) l.length
end Go.Proofs.Ytbfhbekocgdceaa
