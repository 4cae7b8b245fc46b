/-
  rows.Heap of Thing: Take: the plain side. No condition.
-/
import Derived.Test.YtbfhbekocgdceaaHbT
namespace Go.Proofs.Ytbfhbekocgdceaa
open Go.RowKit
theorem HeapT.set0 {w : World} {p g c : Nat} {l : List EnT} {came : Int} {ez : EnT} (h : HeapT w p (some ⟨g, 0, none⟩) c l came) (hl : 0 < l.length) : HeapT (((w.setCell ⟨g, 0, none⟩ (.int .i64 ez.rank)).setCell ⟨g, 1, none⟩ (.int .i64 ez.name)).setCell ⟨g, 2, none⟩ (.int .i64 ez.came)).drew p (some ⟨g, 0, none⟩) c (l.set 0 ez) came ∧ Keeps (fun b => b = g) w (((w.setCell ⟨g, 0, none⟩ (.int .i64 ez.rank)).setCell ⟨g, 1, none⟩ (.int .i64 ez.name)).setCell ⟨g, 2, none⟩ (.int .i64 ez.came)).drew := by
  have hpg := (h.own.lt g rfl).1
  refine ⟨⟨?_, ?_⟩, ?_⟩
  · rw [List.length_set]
    exact ((((h.box).putFar (p := ⟨g, 0, none⟩) (by show p ≠ g; omega) _).putFar (p := ⟨g, 1, none⟩) (by show p ≠ g; omega) _).putFar (p := ⟨g, 2, none⟩) (by show p ≠ g; omega) _).drew
  · rw [List.length_set]
    have h1 := h.own
    have h1 := own_setN (k := 0) h1 (.int .i64 ez.rank)
    have h1 := own_setN (k := 1) h1 (.int .i64 ez.name)
    have h1 := own_setN (k := 2) h1 (.int .i64 ez.came)
    have h2 := flat_setT l 0 ez hl
    simp only [Nat.zero_mul, Nat.zero_add] at h2
    rw [h2] at h1
    exact own_drewN h1
  · refine Keeps.drew ?_
    refine Keeps.setCell (S := fun b => b = g) ?_ (fun _ => rfl) _
    refine Keeps.setCell (S := fun b => b = g) ?_ (fun _ => rfl) _
    refine Keeps.setCell (S := fun b => b = g) ?_ (fun _ => rfl) _
    exact Keeps.refl _ _
theorem flat_takeT (l : List EnT) (m : Nat) : flat EnT.cells (l.take m) = (flat EnT.cells l).take (m * 3) := by
  induction l generalizing m with
  | nil => simp [flat]
  | cons a l ih =>
    cases m with
    | zero => simp [flat]
    | succ m =>
      have := ih m
      unfold flat at this ⊢
      rw [List.take_succ_cons, List.flatMap_cons, List.flatMap_cons, this]
      have e1 : (m + 1) * 3 = (EnT.cells a).length + m * 3 := by rw [Nat.succ_mul]; show _ = 3 + m * 3; omega
      rw [e1, List.take_length_add_append]
/-- The row cut short. -/
theorem HeapT.cut {w : World} {p g c : Nat} {l : List EnT} {came : Int} (h : HeapT w p (some ⟨g, 0, none⟩) c l came) {m : Nat} (hm : m ≤ l.length) : HeapT (w.setCell ⟨p, 1, none⟩ (.slice (some ⟨g, 0, none⟩) m c)) p (some ⟨g, 0, none⟩) c (l.take m) came := by
  have hll : (l.take m).length = m := by rw [List.length_take]; omega
  have hb := h.box.put 1 (.slice (some ⟨g, 0, none⟩) m c)
  refine ⟨?_, ?_⟩
  · rw [hll]; exact hb
  · rw [hll, flat_takeT]
    have h1 : w.ownsRow (p + 1) 116 3 (.slice (some ⟨g, 0, none⟩) m c) m ((flat EnT.cells l).take (m * 3)) := by
      have hfl := flat_length (f := EnT.cells) (k := 3) (fun _ => rfl) l
      have hmm : m * 3 ≤ l.length * 3 := Nat.mul_le_mul_right _ hm
      refine ⟨by rw [List.length_take, hfl]; omega, ?_⟩
      rcases h.own.2 with ⟨h0, _⟩ | ⟨g', cap', cur, hv, hbb, hh, hc, hmx, hs, ht⟩
      · cases h0
      · injection hv with e1 e2 e3
        injection e1 with e1
        injection e1 with e1
        subst e1 e3
        refine .inr ⟨g, c, cur, rfl, hbb, hh, by omega, hmx, hs, ?_⟩
        rw [← ht]
        simp only [List.take_take]
        congr 1
        have h3 : cur.size = c * 3 := hs
        have h4 : cur.toList.length = cur.size := by simp
        have h5 : l.length * 3 ≤ c * 3 := Nat.mul_le_mul_right _ hc
        omega
    exact ownsRow_setCell_below h1 (show p < p + 1 by omega) _
theorem HeapT.cap {w : World} {p g c : Nat} {l : List EnT} {came : Int} (h : HeapT w p (some ⟨g, 0, none⟩) c l came) : l.length ≤ c := by
  rcases h.own.2 with ⟨h0, _⟩ | ⟨g', cap', cur, hv, hbb, hh, hc, hmx, hs, ht⟩
  · cases h0
  · injection hv with e1 e2 e3
    subst e3
    exact hc
/-- A thing goes down. -/
def downT (l : List EnT) (i : Nat) : List EnT :=
  if _h : l.length ≤ 2 * i + 1 then l else
    match l[i]?, l[2 * i + 1]? with
    | some ei, some ek =>
      match (if 2 * i + 2 < l.length then l[2 * i + 2]? else none) with
      | some er =>
        if ahT er ek then (if ahT er ei then downT (swapLT l i (2 * i + 2) ei er) (2 * i + 2) else l)
        else (if ahT ek ei then downT (swapLT l i (2 * i + 1) ei ek) (2 * i + 1) else l)
      | none => if ahT ek ei then downT (swapLT l i (2 * i + 1) ei ek) (2 * i + 1) else l
    | _, _ => l
termination_by l.length - i
decreasing_by all_goals (simp only [swapLT, List.length_set]; omega)
def takeT (l : List EnT) : List EnT :=
  match l[l.length - 1]? with
  | some z => downT ((l.set 0 z).take (l.length - 1)) 0
  | none => []
theorem downT_length (l : List EnT) (i : Nat) : (downT l i).length = l.length := by
  induction h : l.length - i using Nat.strongRecOn generalizing l i with
  | ind m ih =>
    subst h
    unfold downT
    have sl : ∀ k ei ek, (swapLT l i k ei ek).length = l.length := fun k ei ek => by simp [swapLT]
    split
    · rfl
    · split
      · split
        · split
          · split
            · rw [ih _ (by rw [sl]; omega) _ _ rfl, sl]
            · rfl
          · split
            · rw [ih _ (by rw [sl]; omega) _ _ rfl, sl]
            · rfl
        · split
          · rw [ih _ (by rw [sl]; omega) _ _ rfl, sl]
          · rfl
      · rfl
end Go.Proofs.Ytbfhbekocgdceaa
