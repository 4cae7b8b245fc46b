/-
  rows.Heap of int: Take: the plain side. No condition.
-/
import Derived.Test.YtbfhbekocgdceaaHbI
namespace Go.Proofs.Ytbfhbekocgdceaa
open Go.RowKit
theorem HeapI.set0 {w : World} {p g c : Nat} {l : List EnI} {came : Int} {ez : EnI} (h : HeapI w p (some ⟨g, 0, none⟩) c l came) (hl : 0 < l.length) : HeapI ((w.setCell ⟨g, 0, none⟩ (.int .i64 ez.x)).setCell ⟨g, 1, none⟩ (.int .i64 ez.came)).drew p (some ⟨g, 0, none⟩) c (l.set 0 ez) came ∧ Keeps (fun b => b = g) w ((w.setCell ⟨g, 0, none⟩ (.int .i64 ez.x)).setCell ⟨g, 1, none⟩ (.int .i64 ez.came)).drew := by
  have hpg := (h.own.lt g rfl).1
  refine ⟨⟨?_, ?_⟩, ?_⟩
  · rw [List.length_set]
    exact (((h.box).putFar (p := ⟨g, 0, none⟩) (by show p ≠ g; omega) _).putFar (p := ⟨g, 1, none⟩) (by show p ≠ g; omega) _).drew
  · rw [List.length_set]
    have h1 := h.own
    have h1 := own_setN (k := 0) h1 (.int .i64 ez.x)
    have h1 := own_setN (k := 1) h1 (.int .i64 ez.came)
    have h2 := flat_setI l 0 ez hl
    simp only [Nat.zero_mul, Nat.zero_add] at h2
    rw [h2] at h1
    exact own_drewN h1
  · refine Keeps.drew ?_
    refine Keeps.setCell (S := fun b => b = g) ?_ (fun _ => rfl) _
    refine Keeps.setCell (S := fun b => b = g) ?_ (fun _ => rfl) _
    exact Keeps.refl _ _
theorem flat_takeI (l : List EnI) (m : Nat) : flat EnI.cells (l.take m) = (flat EnI.cells l).take (m * 2) := by
  induction l generalizing m with
  | nil => simp [flat]
  | cons a l ih =>
    cases m with
    | zero => simp [flat]
    | succ m =>
      have := ih m
      unfold flat at this ⊢
      rw [List.take_succ_cons, List.flatMap_cons, List.flatMap_cons, this]
      have e1 : (m + 1) * 2 = (EnI.cells a).length + m * 2 := by rw [Nat.succ_mul]; show _ = 2 + m * 2; omega
      rw [e1, List.take_length_add_append]
/-- The row cut short. -/
theorem HeapI.cut {w : World} {p g c : Nat} {l : List EnI} {came : Int} (h : HeapI w p (some ⟨g, 0, none⟩) c l came) {m : Nat} (hm : m ≤ l.length) : HeapI (w.setCell ⟨p, 1, none⟩ (.slice (some ⟨g, 0, none⟩) m c)) p (some ⟨g, 0, none⟩) c (l.take m) came := by
  have hll : (l.take m).length = m := by rw [List.length_take]; omega
  have hb := h.box.put 1 (.slice (some ⟨g, 0, none⟩) m c)
  refine ⟨?_, ?_⟩
  · rw [hll]; exact hb
  · rw [hll, flat_takeI]
    have h1 : w.ownsRow (p + 1) 136 2 (.slice (some ⟨g, 0, none⟩) m c) m ((flat EnI.cells l).take (m * 2)) := by
      have hfl := flat_length (f := EnI.cells) (k := 2) (fun _ => rfl) l
      have hmm : m * 2 ≤ l.length * 2 := Nat.mul_le_mul_right _ hm
      refine ⟨by rw [List.length_take, hfl]; omega, ?_⟩
      rcases h.own.2 with ⟨h0, _⟩ | ⟨g', cap', cur, hv, hbb, hh, hc, hmx, hs, ht⟩
      · cases h0
      · injection hv with e1 e2 e3
        injection e1 with e1
        injection e1 with e1
        subst e1 e3
        refine .inr ⟨g, c, cur, rfl, hbb, hh, by omega, hmx, hs, ?_⟩
        rw [← ht]
        simp only [List.take_take]
        congr 1
        have h3 : cur.size = c * 2 := hs
        have h4 : cur.toList.length = cur.size := by simp
        have h5 : l.length * 2 ≤ c * 2 := Nat.mul_le_mul_right _ hc
        omega
    exact ownsRow_setCell_below h1 (show p < p + 1 by omega) _
theorem HeapI.cap {w : World} {p g c : Nat} {l : List EnI} {came : Int} (h : HeapI w p (some ⟨g, 0, none⟩) c l came) : l.length ≤ c := by
  rcases h.own.2 with ⟨h0, _⟩ | ⟨g', cap', cur, hv, hbb, hh, hc, hmx, hs, ht⟩
  · cases h0
  · injection hv with e1 e2 e3
    subst e3
    exact hc
/-- A thing goes down. -/
def downI (l : List EnI) (i : Nat) : List EnI :=
  if _h : l.length ≤ 2 * i + 1 then l else
    match l[i]?, l[2 * i + 1]? with
    | some ei, some ek =>
      match (if 2 * i + 2 < l.length then l[2 * i + 2]? else none) with
      | some er =>
        if ahI er ek then (if ahI er ei then downI (swapLI l i (2 * i + 2) ei er) (2 * i + 2) else l)
        else (if ahI ek ei then downI (swapLI l i (2 * i + 1) ei ek) (2 * i + 1) else l)
      | none => if ahI ek ei then downI (swapLI l i (2 * i + 1) ei ek) (2 * i + 1) else l
    | _, _ => l
termination_by l.length - i
decreasing_by all_goals (simp only [swapLI, List.length_set]; omega)
def takeI (l : List EnI) : List EnI :=
  match l[l.length - 1]? with
  | some z => downI ((l.set 0 z).take (l.length - 1)) 0
  | none => []
theorem downI_length (l : List EnI) (i : Nat) : (downI l i).length = l.length := by
  induction h : l.length - i using Nat.strongRecOn generalizing l i with
  | ind m ih =>
    subst h
    unfold downI
    have sl : ∀ k ei ek, (swapLI l i k ei ek).length = l.length := fun k ei ek => by simp [swapLI]
    split
    · rfl
    · split
      · split
        · split
          · split
            · rw [ih _ (by rw [sl]; omega) _ _ rfl, sl]
            · rfl
          · split
            · rw [ih _ (by rw [sl]; omega) _ _ rfl, sl]
            · rfl
        · split
          · rw [ih _ (by rw [sl]; omega) _ _ rfl, sl]
          · rfl
      · rfl
end Go.Proofs.Ytbfhbekocgdceaa
