/-
  rows.Heap of Pair: Take: the plain side. No condition.
-/
import Derived.Test.YtbfhbekocgdceaaHbP
namespace Go.Proofs.Ytbfhbekocgdceaa
open Go.RowKit
theorem HeapP.set0 {w : World} {p g c : Nat} {l : List EnP} {came : Int} {ez : EnP} (h : HeapP w p (some ⟨g, 0, none⟩) c l came) (hl : 0 < l.length) : HeapP (((w.setCell ⟨g, 0, none⟩ (.int .i8 ez.rank)).setCell ⟨g, 1, none⟩ (.string ez.name)).setCell ⟨g, 2, none⟩ (.int .i64 ez.came)).drew p (some ⟨g, 0, none⟩) c (l.set 0 ez) came ∧ Keeps (fun b => b = g) w (((w.setCell ⟨g, 0, none⟩ (.int .i8 ez.rank)).setCell ⟨g, 1, none⟩ (.string ez.name)).setCell ⟨g, 2, none⟩ (.int .i64 ez.came)).drew := by
  have hpg := (h.own.lt g rfl).1
  refine ⟨⟨?_, ?_⟩, ?_⟩
  · rw [List.length_set]
    exact ((((h.box).putFar (p := ⟨g, 0, none⟩) (by show p ≠ g; omega) _).putFar (p := ⟨g, 1, none⟩) (by show p ≠ g; omega) _).putFar (p := ⟨g, 2, none⟩) (by show p ≠ g; omega) _).drew
  · rw [List.length_set]
    have h1 := h.own
    have h1 := own_setN (k := 0) h1 (.int .i8 ez.rank)
    have h1 := own_setN (k := 1) h1 (.string ez.name)
    have h1 := own_setN (k := 2) h1 (.int .i64 ez.came)
    have h2 := flat_setP l 0 ez hl
    simp only [Nat.zero_mul, Nat.zero_add] at h2
    rw [h2] at h1
    exact own_drewN h1
  · refine Keeps.drew ?_
    refine Keeps.setCell (S := fun b => b = g) ?_ (fun _ => rfl) _
    refine Keeps.setCell (S := fun b => b = g) ?_ (fun _ => rfl) _
    refine Keeps.setCell (S := fun b => b = g) ?_ (fun _ => rfl) _
    exact Keeps.refl _ _
theorem flat_takeP (l : List EnP) (m : Nat) : flat EnP.cells (l.take m) = (flat EnP.cells l).take (m * 3) := by
  induction l generalizing m with
  | nil => simp [flat]
  | cons a l ih =>
    cases m with
    | zero => simp [flat]
    | succ m =>
      have := ih m
      unfold flat at this ⊢
      rw [List.take_succ_cons, List.flatMap_cons, List.flatMap_cons, this]
      have e1 : (m + 1) * 3 = (EnP.cells a).length + m * 3 := by rw [Nat.succ_mul]; show _ = 3 + m * 3; omega
      rw [e1, List.take_length_add_append]
/-- The row cut short. -/
theorem HeapP.cut {w : World} {p g c : Nat} {l : List EnP} {came : Int} (h : HeapP w p (some ⟨g, 0, none⟩) c l came) {m : Nat} (hm : m ≤ l.length) : HeapP (w.setCell ⟨p, 1, none⟩ (.slice (some ⟨g, 0, none⟩) m c)) p (some ⟨g, 0, none⟩) c (l.take m) came := by
  have hll : (l.take m).length = m := by rw [List.length_take]; omega
  have hb := h.box.put 1 (.slice (some ⟨g, 0, none⟩) m c)
  refine ⟨?_, ?_⟩
  · rw [hll]; exact hb
  · rw [hll, flat_takeP]
    have h1 : w.ownsRow (p + 1) 121 3 (.slice (some ⟨g, 0, none⟩) m c) m ((flat EnP.cells l).take (m * 3)) := by
      have hfl := flat_length (f := EnP.cells) (k := 3) (fun _ => rfl) l
      have hmm : m * 3 ≤ l.length * 3 := Nat.mul_le_mul_right _ hm
      refine ⟨by rw [List.length_take, hfl]; omega, ?_⟩
      rcases h.own.2 with ⟨h0, _⟩ | ⟨g', cap', cur, hv, hbb, hh, hc, hmx, hs, ht⟩
      · cases h0
      · injection hv with e1 e2 e3
        injection e1 with e1
        injection e1 with e1
        subst e1 e3
        refine .inr ⟨g, c, cur, rfl, hbb, hh, by omega, hmx, hs, ?_⟩
        rw [← ht]
        simp only [List.take_take]
        congr 1
        have h3 : cur.size = c * 3 := hs
        have h4 : cur.toList.length = cur.size := by simp
        have h5 : l.length * 3 ≤ c * 3 := Nat.mul_le_mul_right _ hc
        omega
    exact ownsRow_setCell_below h1 (show p < p + 1 by omega) _
theorem HeapP.cap {w : World} {p g c : Nat} {l : List EnP} {came : Int} (h : HeapP w p (some ⟨g, 0, none⟩) c l came) : l.length ≤ c := by
  rcases h.own.2 with ⟨h0, _⟩ | ⟨g', cap', cur, hv, hbb, hh, hc, hmx, hs, ht⟩
  · cases h0
  · injection hv with e1 e2 e3
    subst e3
    exact hc
/-- A thing goes down. -/
def downP (l : List EnP) (i : Nat) : List EnP :=
  if _h : l.length ≤ 2 * i + 1 then l else
    match l[i]?, l[2 * i + 1]? with
    | some ei, some ek =>
      match (if 2 * i + 2 < l.length then l[2 * i + 2]? else none) with
      | some er =>
        if ahP er ek then (if ahP er ei then downP (swapLP l i (2 * i + 2) ei er) (2 * i + 2) else l)
        else (if ahP ek ei then downP (swapLP l i (2 * i + 1) ei ek) (2 * i + 1) else l)
      | none => if ahP ek ei then downP (swapLP l i (2 * i + 1) ei ek) (2 * i + 1) else l
    | _, _ => l
termination_by l.length - i
decreasing_by all_goals (simp only [swapLP, List.length_set]; omega)
def takeP (l : List EnP) : List EnP :=
  match l[l.length - 1]? with
  | some z => downP ((l.set 0 z).take (l.length - 1)) 0
  | none => []
theorem downP_length (l : List EnP) (i : Nat) : (downP l i).length = l.length := by
  induction h : l.length - i using Nat.strongRecOn generalizing l i with
  | ind m ih =>
    subst h
    unfold downP
    have sl : ∀ k ei ek, (swapLP l i k ei ek).length = l.length := fun k ei ek => by simp [swapLP]
    split
    · rfl
    · split
      · split
        · split
          · split
            · rw [ih _ (by rw [sl]; omega) _ _ rfl, sl]
            · rfl
          · split
            · rw [ih _ (by rw [sl]; omega) _ _ rfl, sl]
            · rfl
        · split
          · rw [ih _ (by rw [sl]; omega) _ _ rfl, sl]
          · rfl
      · rfl
end Go.Proofs.Ytbfhbekocgdceaa
