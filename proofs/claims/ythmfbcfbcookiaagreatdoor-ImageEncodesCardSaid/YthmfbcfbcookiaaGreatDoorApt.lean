/-
  Slices that lie apart; a region cut off from what follows. Conditions: none.
-/
import Derived.Test.YthmfbcfbcookiaaGreatDoorWMe
import Derived.Test.YthmfbcfbcookiaaGreatDoorProg
import Derived.Deep.RegionHeld3
import Derived.Deep.RegionLaw
namespace Go.Proofs.YthmfbcfbcookiaaGreatDoor
open Go.RowKit
/-- No two of these slices lie in one block. -/
def Apt (cells : List Value) : Prop := ∀ (i j : Nat) (u v : Value) (b : Nat), cells[i]? = some u → cells[j]? = some v → u.ownBlock = some b → v.ownBlock = some b → i = j
theorem Apt.none (n : Nat) : Apt (List.replicate n (.slice none 0 0)) := fun i j u v b hu _ hb _ => by
  rw [List.getElem?_replicate] at hu
  split at hu
  · injection hu with hu; rw [← hu] at hb; cases hb
  · cases hu
theorem Apt.set {cells : List Value} {i : Nat} {x : Value} (h : Apt cells) (hnew : ∀ b, x.ownBlock = some b → ∀ (j : Nat) (u : Value), cells[j]? = some u → u.ownBlock ≠ some b) : Apt (cells.set i x) := fun j k u v b hu hv hb hb' => by
  rw [List.getElem?_set] at hu hv
  by_cases e1 : i = j
  · by_cases e2 : i = k
    · omega
    · rw [if_pos e1] at hu
      rw [if_neg e2] at hv
      split at hu
      · injection hu with hu; subst hu; exact absurd hb' (hnew b hb k v hv)
      · cases hu
  · rw [if_neg e1] at hu
    by_cases e2 : i = k
    · rw [if_pos e2] at hv
      split at hv
      · injection hv with hv; subst hv; exact absurd hb (hnew b hb' j u hu)
      · cases hv
    · rw [if_neg e2] at hv
      exact h j k u v b hu hv hb hb'
theorem RowsOwn.cell_lt {w : World} {B : Nat} {v : Value} {rows : List (List Int)} {cells : List Value} (h : RowsOwn w B v rows cells) {j b : Nat} {u : Value} (hu : cells[j]? = some u) (hb : u.ownBlock = some b) : b < w.heap.size := by
  have hl : cells.length = rows.length := own_length h.own
  have hj := (List.getElem?_eq_some_iff.1 hu).1
  obtain ⟨Ai, ci, h1, h2⟩ := h.row j rows[j] (List.getElem?_eq_getElem (by omega))
  rw [hu] at h1
  injection h1 with h1
  subst h1
  exact (h2.lt b hb).2
theorem regionCut {P : Program} {c : Code} {Q : Exit → Act → World → Prop} {a : Act} {w : World} (R : Act → Act → World → Prop) (h1 : Code.wp P c (fun e a' w' => e = .normal ∧ R a a' w') a w) (h2 : ∀ a' w', R a a' w' → Q .normal a' w') : Code.wp P c Q a w :=
  Code.wp_mono (fun e a' w' h => by obtain ⟨rfl, h⟩ := h; exact h2 a' w' h) h1
theorem stepIf {c : Bool} {A B : Prop} (hc : c = true) (h : A) : if c = true then A else B := by rw [if_pos hc]; exact h
theorem sizeSt : (Tryz.prog.info? 27).map (·.size) = some 7 := by kernel_rfl
end Go.Proofs.YthmfbcfbcookiaaGreatDoor
