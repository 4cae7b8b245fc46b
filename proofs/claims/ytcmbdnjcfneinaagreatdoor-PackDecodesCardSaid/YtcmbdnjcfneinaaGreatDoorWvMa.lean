/-
  Rows of structs that are made with marks behind them: what is known of a row whose first places are filled. Conditions: none.
-/
import Derived.Test.YtcmbdnjcfneinaaGreatDoorMemM
namespace Go.Proofs.YtcmbdnjcfneinaaGreatDoor
open Go.RowKit
/-- Cells written one behind the other. -/
def putW (w : World) (g : Nat) : Nat → List Value → World
  | _, [] => w
  | o, v :: l => putW (w.setCell ⟨g, o, none⟩ v) g (o + 1) l
def putC (cs : Array Value) : Nat → List Value → Array Value
  | _, [] => cs
  | o, v :: l => putC (cs.setIfInBounds o v) (o + 1) l
theorem putC_size (l : List Value) : ∀ (cs : Array Value) (o : Nat), (putC cs o l).size = cs.size := by
  induction l with
  | nil => intro _ _; rfl
  | cons v l ih => intro cs o; show (putC (cs.setIfInBounds o v) (o + 1) l).size = _; rw [ih, Array.size_setIfInBounds]
theorem putC_far (l : List Value) : ∀ (cs : Array Value) (o j : Nat), j < o ∨ o + l.length ≤ j → (putC cs o l)[j]? = cs[j]? := by
  induction l with
  | nil => intro _ _ _ _; rfl
  | cons v l ih =>
    intro cs o j h
    rw [List.length_cons] at h
    show (putC (cs.setIfInBounds o v) (o + 1) l)[j]? = _
    rw [ih _ _ _ (by omega), Array.getElem?_setIfInBounds, if_neg (by omega)]
theorem putC_here (l : List Value) : ∀ (cs : Array Value) (o m : Nat), m < l.length → o + l.length ≤ cs.size → (putC cs o l)[o + m]? = l[m]? := by
  induction l with
  | nil => intro _ _ m h; cases h
  | cons v l ih =>
    intro cs o m hm ho
    rw [List.length_cons] at hm ho
    show (putC (cs.setIfInBounds o v) (o + 1) l)[o + m]? = _
    cases m with
    | zero => rw [putC_far _ _ _ _ (by omega), Array.getElem?_setIfInBounds, if_pos (by omega), if_pos (by omega)]; rfl
    | succ m =>
      have h := ih (cs.setIfInBounds o v) (o + 1) m (by omega) (by rw [Array.size_setIfInBounds]; omega)
      rw [show o + (m + 1) = o + 1 + m by omega, h]; rfl
theorem Whole.putW {g : Nat} {t : TypeId} (l : List Value) : ∀ {w : World} {cs : Array Value} (o : Nat), Whole w g t cs → Whole (putW w g o l) g t (putC cs o l) := by
  induction l with
  | nil => intro _ _ _ h; exact h
  | cons v l ih => intro w cs o h; exact ih (o + 1) (h.put o v)
theorem Keeps.putW {g : Nat} {S : Nat → Prop} {a : World} (l : List Value) : ∀ {w : World} (o : Nat), Keeps S a w → (g < a.heap.size → S g) → Keeps S a (putW w g o l) := by
  induction l with
  | nil => intro _ _ h _; exact h
  | cons v l ih => intro w o h hg; exact ih (o + 1) (h.setCell (p := ⟨g, o, none⟩) hg v) hg
/-- What is known of an element, told of its cells; all its blocks lie from B on. -/
structure ElK {α : Type} (El : World → Nat → List Value → α → Prop) : Prop where
  keeps : ∀ (S : Nat → Prop) (w w' : World) (B : Nat) (v : List Value) (x : α), El w B v x → Keeps S w w' → (∀ b, B ≤ b → ¬ S b) → El w' B v x
  less : ∀ (w : World) (B B' : Nat) (v : List Value) (x : α), El w B v x → B' ≤ B → El w B' v x
/-- A row of the elements l with marks behind it, in the block g, the first i places filled. -/
structure WUp {α : Type} (El : World → Nat → List Value → α → Prop) (mark : Nat → List Value) (k : Nat) (t : TypeId) (g : Nat) (l : List α) (w : World) (cs : Array Value) (i : Nat) : Prop where
  size : cs.size = (l.length + 64) * k
  whole : Whole w g t cs
  el : ∀ j x, j < i → l[j]? = some x → ∃ v, v.length = k ∧ El w (g + 1) v x ∧ ∀ m, m < k → cs[j * k + m]? = v[m]?
  marks : ∀ j, j < i → l.length ≤ j → ∀ m, m < k → cs[j * k + m]? = (mark j)[m]?
section
variable {α : Type} {El : World → Nat → List Value → α → Prop} {mark : Nat → List Value} {k : Nat} {t : TypeId} {g : Nat} {l : List α} {w w' : World} {cs : Array Value} {i : Nat} {S : Nat → Prop}
theorem WUp.keeps (hE : ElK El) (h : WUp El mark k t g l w cs i) (hk : Keeps S w w') (hS : ∀ b, g ≤ b → ¬ S b) : WUp El mark k t g l w' cs i :=
  ⟨h.size, h.whole.keeps hk (hS g (Nat.le_refl _)), fun j x hj hx => by
    obtain ⟨v, hv, he, hc⟩ := h.el j x hj hx
    exact ⟨v, hv, hE.keeps _ _ _ _ _ _ he hk fun b hb => hS b (by omega), hc⟩, h.marks⟩
theorem place_le {j i k n : Nat} (h : j < i) (hi : i ≤ n) : j * k + k ≤ i * k ∧ i * k ≤ n * k := by
  have h1 : (j + 1) * k ≤ i * k := Nat.mul_le_mul_right k h
  rw [Nat.succ_mul] at h1
  exact ⟨h1, Nat.mul_le_mul_right k hi⟩
theorem WUp.next (hE : ElK El) (h : WUp El mark k t g l w cs i) (hi : i < l.length + 64) (v : List Value) (hv : v.length = k) (hx : ∀ x, l[i]? = some x → El w (g + 1) v x) (hm : l.length ≤ i → v = mark i) : WUp El mark k t g l (putW w g (i * k) v) (putC cs (i * k) v) (i + 1) := by
  have hroom : i * k + k ≤ cs.size := by rw [h.size]; exact (place_le hi (Nat.le_refl _)).1
  have hk : Keeps (fun b => b = g) w (putW w g (i * k) v) := (Keeps.refl _ w).putW v _ fun _ => rfl
  have hold : ∀ j, j < i → ∀ m, m < k → (putC cs (i * k) v)[j * k + m]? = cs[j * k + m]? := fun j hj m hm => putC_far _ _ _ _ (.inl (by have := (place_le (k := k) hj (Nat.le_refl _)).1; omega))
  have hnew : ∀ m, m < k → (putC cs (i * k) v)[i * k + m]? = v[m]? := fun m hm => putC_here _ _ _ _ (by omega) (by omega)
  refine ⟨by rw [putC_size]; exact h.size, h.whole.putW v _, fun j x hj hjx => ?_, fun j hj hlj m hm' => ?_⟩
  · rcases Nat.lt_or_ge j i with hlt | hge
    · obtain ⟨u, hu, he, hc⟩ := h.el j x hlt hjx
      exact ⟨u, hu, hE.keeps _ _ _ _ _ _ he hk fun b hb e => by omega, fun m hm => (hold j hlt m hm).trans (hc m hm)⟩
    · obtain rfl : j = i := by omega
      exact ⟨v, hv, hE.keeps _ _ _ _ _ _ (hx x hjx) hk fun b hb e => by omega, hnew⟩
  · rcases Nat.lt_or_ge j i with hlt | hge
    · exact (hold j hlt m hm').trans (h.marks j hlt hlj m hm')
    · obtain rfl : j = i := by omega
      rw [hnew m hm', hm hlj]
theorem WUp.start (h : Whole w g t cs) (hs : cs.size = (l.length + 64) * k) : WUp El mark k t g l w cs 0 :=
  ⟨hs, h, fun _ _ h => absurd h (Nat.not_lt_zero _), fun _ h => absurd h (Nat.not_lt_zero _)⟩
/-- The cells of the place i. -/
theorem WUp.cells (h : WUp El mark k t g l w cs i) (hi : i < l.length + 64) (m : Nat) (hm : m < k) : (∃ u, w.cell? ⟨g, i * k + m, none⟩ = some u) ∧ w.frozen? ⟨g, i * k + m, none⟩ = false := by
  have hroom : i * k + k ≤ cs.size := by rw [h.size]; exact (place_le hi (Nat.le_refl _)).1
  exact ⟨⟨_, (h.whole.cellAt _).trans (Array.getElem?_eq_getElem (by omega))⟩, h.whole.free _⟩
end
end Go.Proofs.YtcmbdnjcfneinaaGreatDoor
/-
  A result that lies in a block of its own. Conditions: none.
-/
namespace Go.Proofs.YtcmbdnjcfneinaaGreatDoor
open Go.RowKit
theorem results_cell {P : Program} {fn : Func} {a : Tmp} {t : TypeId} (h : fn.results = #[.cell a t]) (tmps : Array Value) (g : Nat) (hp : tmps.getD a undef = .pointer (some ⟨g, 0, none⟩)) (cs : Array Value) (w : World) (hW : Whole w g t cs) (d : TypeDesc) (hu : P.underlying t = some d)
    (hd : (match d with | .struct _ | .array _ _ => true | _ => false) = true) (hi : (P.info? t).map (·.size) = some cs.size) : (results fn tmps).run P w = .ok (.agg cs) w := by
  have hl := run_loadVar_row (P := P) w g t t cs (0, 0) d hW hu hd hi
  have hp' : tmps[a]?.getD undef = .pointer (some ⟨g, 0, none⟩) := by rw [← Array.getD_eq_getD_getElem?]; exact hp
  simp [results, h, hp', asAddr, hl]
end Go.Proofs.YtcmbdnjcfneinaaGreatDoor
