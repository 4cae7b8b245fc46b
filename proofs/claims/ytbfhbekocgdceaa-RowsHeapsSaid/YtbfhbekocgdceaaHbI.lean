/-
  rows.Heap of int: Put: the walk. Conditions: lengths within 10 ^ 8.
-/
import Derived.Test.YtbfhbekocgdceaaHaI

namespace Go.Proofs.Ytbfhbekocgdceaa
open Go.RowKit
theorem own_setN {w : World} {base g n cap k s : Nat} {e : TypeId} {xs : List Value} (h : w.ownsRow base e s (.slice (some ⟨g, 0, none⟩) n cap) n xs) (u : Value) : (w.setCell ⟨g, k, none⟩ u).ownsRow base e s (.slice (some ⟨g, 0, none⟩) n cap) n (xs.set k u) := by
  refine ⟨by rw [List.length_set]; exact h.1, ?_⟩
  rcases h.2 with ⟨h0, _⟩ | ⟨g', cap', cur, hv, hb, hh, hc, hm, hs, ht⟩
  · cases h0
  · injection hv with h1 h2 h3
    injection h1 with h1
    injection h1 with h1
    subst h1 h3
    refine .inr ⟨g, cap, cur.setIfInBounds k u, rfl, hb, heap_setCell_same w g k cur e u hh, hc, hm, by rw [Array.size_setIfInBounds]; exact hs, ?_⟩
    rw [← ht, Array.toList_setIfInBounds, List.take_set]
theorem own_drewN {w : World} {base n s : Nat} {v : Value} {e : TypeId} {xs : List Value} (h : w.ownsRow base e s v n xs) : w.drew.ownsRow base e s v n xs := h
theorem flat_set {α : Type} {f : α → List Value} {k : Nat} (hf : ∀ a, (f a).length = k) : ∀ (l : List α) (i : Nat) (c : α), i < l.length → flat f (l.set i c) = (flat f l).take (i * k) ++ (f c ++ (flat f l).drop (i * k + k))
  | a :: l, 0, c, _ => by simp [flat, List.drop_left' (hf a)]
  | a :: l, i + 1, c, h => by
    have ih := flat_set hf l i c (by simpa using h)
    unfold flat at ih ⊢
    rw [List.set_cons_succ, List.flatMap_cons, List.flatMap_cons, ih]
    have e1 : (i + 1) * k = k + i * k := by rw [Nat.succ_mul]; omega
    have e2 : (f a ++ l.flatMap f).take (k + i * k) = f a ++ (l.flatMap f).take (i * k) := by rw [← hf a, List.take_length_add_append]
    have e3 : (f a ++ l.flatMap f).drop (k + (i * k + k)) = (l.flatMap f).drop (i * k + k) := by rw [← hf a, List.drop_length_add_append]
    rw [e1, e2, Nat.add_assoc, e3, List.append_assoc]
theorem set2 (a b : Value) : ∀ (p : Nat) (xs : List Value), p + 1 < xs.length → (xs.set p a).set (p + 1) b = xs.take p ++ ([a, b] ++ xs.drop (p + 2))
  | 0, x :: y :: r, _ => by simp
  | p + 1, x :: r, h => by
    have := set2 a b p r (by simpa using h)
    simpa using this
theorem set3 (a b c : Value) : ∀ (p : Nat) (xs : List Value), p + 2 < xs.length → ((xs.set p a).set (p + 1) b).set (p + 2) c = xs.take p ++ ([a, b, c] ++ xs.drop (p + 3))
  | 0, x :: y :: z :: r, _ => by simp
  | p + 1, x :: r, h => by
    have := set3 a b c p r (by simp at h; omega)
    simpa using this
theorem flat_setI (l : List EnI) (i : Nat) (e : EnI) (hi : i < l.length) : ((flat EnI.cells l).set (i * 2) (.int .i64 e.x)).set (i * 2 + 1) (.int .i64 e.came) = flat EnI.cells (l.set i e) := by
  have hl := flat_length (f := EnI.cells) (k := 2) (fun _ => rfl) l
  rw [set2 _ _ (i * 2) _ (by rw [hl]; omega), flat_set (k := 2) (fun _ => rfl) l i e hi]
  rfl
def swapLI (l : List EnI) (i k : Nat) (ei ek : EnI) : List EnI := (l.set i ek).set k ei
theorem HeapI.swap {w : World} {p g c i k : Nat} {l : List EnI} {came : Int} {ei ek : EnI} (h : HeapI w p (some ⟨g, 0, none⟩) c l came) (hi : i < l.length) (hk : k < l.length) : HeapI ((((w.setCell ⟨g, i * 2, none⟩ (.int .i64 ek.x)).setCell ⟨g, i * 2 + 1, none⟩ (.int .i64 ek.came)).setCell ⟨g, k * 2, none⟩ (.int .i64 ei.x)).setCell ⟨g, k * 2 + 1, none⟩ (.int .i64 ei.came)).drew p (some ⟨g, 0, none⟩) c (swapLI l i k ei ek) came ∧ Keeps (fun b => b = g) w ((((w.setCell ⟨g, i * 2, none⟩ (.int .i64 ek.x)).setCell ⟨g, i * 2 + 1, none⟩ (.int .i64 ek.came)).setCell ⟨g, k * 2, none⟩ (.int .i64 ei.x)).setCell ⟨g, k * 2 + 1, none⟩ (.int .i64 ei.came)).drew := by
  have hpg := (h.own.lt g rfl).1
  have hll : (swapLI l i k ei ek).length = l.length := by simp [swapLI]
  refine ⟨⟨?_, ?_⟩, ?_⟩
  · rw [hll]
    exact (((((h.box).putFar (p := ⟨g, i * 2, none⟩) (by show p ≠ g; omega) _).putFar (p := ⟨g, i * 2 + 1, none⟩) (by show p ≠ g; omega) _).putFar (p := ⟨g, k * 2, none⟩) (by show p ≠ g; omega) _).putFar (p := ⟨g, k * 2 + 1, none⟩) (by show p ≠ g; omega) _).drew
  · rw [hll]
    have h1 := h.own
    have h1 := own_setN (k := i * 2) h1 (.int .i64 ek.x)
    have h1 := own_setN (k := i * 2 + 1) h1 (.int .i64 ek.came)
    have h1 := own_setN (k := k * 2) h1 (.int .i64 ei.x)
    have h1 := own_setN (k := k * 2 + 1) h1 (.int .i64 ei.came)
    rw [flat_setI l i ek hi, flat_setI (l.set i ek) k ei (by simpa using hk)] at h1
    exact own_drewN h1
  · refine Keeps.drew ?_
    refine Keeps.setCell (S := fun b => b = g) ?_ (fun _ => rfl) _
    refine Keeps.setCell (S := fun b => b = g) ?_ (fun _ => rfl) _
    refine Keeps.setCell (S := fun b => b = g) ?_ (fun _ => rfl) _
    refine Keeps.setCell (S := fun b => b = g) ?_ (fun _ => rfl) _
    exact Keeps.refl _ _
/-- A thing goes up. -/
def upI (l : List EnI) (i : Nat) : List EnI :=
  if _h : i = 0 then l else
    match l[i]?, l[(i - 1) / 2]? with
    | some ei, some ek => if ahI ei ek then upI (swapLI l i ((i - 1) / 2) ei ek) ((i - 1) / 2) else l
    | _, _ => l
termination_by i
decreasing_by omega
def putOneI (l : List EnI) (came : Int) (x : Int) : List EnI := upI (l ++ [⟨x, came⟩]) l.length
end Go.Proofs.Ytbfhbekocgdceaa
