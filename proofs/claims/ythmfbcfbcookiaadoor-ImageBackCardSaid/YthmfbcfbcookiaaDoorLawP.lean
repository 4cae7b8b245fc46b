/-
  A list of structs that comes in, opened. Conditions: each field is one cell.
-/
import Derived.Test.YthmfbcfbcookiaaDoorLaw
import Derived.Deep.Fields
import Derived.Deep.Slices
namespace Go.Proofs.YthmfbcfbcookiaaDoor
open Go.ChangeShapes Go.WideShapes Go.ChangeAt Go.RowKit Go.Deep
section
variable {H : Type} {enc : TypeId × Value → H} {P : Program} {W : World}
/-- The cells of a list of structs: field j of element i. -/
def Fielded (W : World) (B : Nat) (A : Option Addr) (n len : Nat) (V : Nat → Nat → Value) : Prop :=
  ∀ i, i < len → ∀ j, j < n → ∃ g off, A = some ⟨g, off, none⟩ ∧ g < B ∧ W.cell? ⟨g, off + i * n + j, none⟩ = some (V i j)
theorem open_structs {base : Nat} {t e : TypeId} {fs : Array Field} {v : Value} {d : DataW H} {p : List MemPlace} (ht : P.underlying t = some (.slice e)) (he : P.underlying e = some (.struct fs)) (hone : oneCellFields P fs = true) (hC : P.cellsOf e = fs.size)
    (hval : Value.okWide P W .any base t v) (h : DataW.Trod enc P W 0 (fun _ => true) true t v d p) (hlt : ∀ x ∈ p, x.block < W.heap.size) :
    ∃ (A : Option Addr) (len cap : Nat) (V : Nat → Nat → Value), v = .slice A len cap ∧ Fielded W W.heap.size A fs.size len V ∧ len ≤ cap ∧ cap ≤ maxLen ∧ (len = 0 ∨ ∃ elems spare, d = .slice elems spare ∧ elems.length = len) ∧
      ∀ i, i < len → ∀ (j : Nat) (f : Field), fs[j]? = some f → ∃ n x, DataW.trod enc P W 0 (fun _ => true) true n f.type [V i j] = some x := by
  obtain ⟨a0, len0, cap0, rfl⟩ := okWide_slice ht hval
  obtain ⟨fuel, hf⟩ := h
  rcases open_slice ht hf with ⟨hcs, hx⟩ | ⟨a, len, cap, m, n, D, Pl, hcs, _, hl, hm, hmm, hx, hel⟩
  · simp [Value.cells] at hcs
    obtain ⟨rfl, rfl, rfl⟩ := hcs
    exact ⟨none, 0, 0, fun _ _ => undef, rfl, fun i hi => absurd hi (Nat.not_lt_zero _), Nat.le_refl _, Nat.zero_le _, .inl rfl, fun i hi => absurd hi (Nat.not_lt_zero _)⟩
  · simp [Value.cells] at hcs
    obtain ⟨rfl, rfl, rfl⟩ := hcs
    simp only [Prod.mk.injEq] at hx
    obtain ⟨rfl, rfl⟩ := hx
    simp only [if_true] at hmm
    subst hmm
    rw [hC] at hel
    have hq : ∀ i, i < len0 → ∃ cs' : List Value, cs'.length = fs.size ∧ (∀ j, j < fs.size → W.cell? ((a.add (i * fs.size)).add j) = cs'[j]?) ∧ DataW.trod enc P W 0 (fun _ => true) true n e cs' = some (D i, Pl i) := fun i hi => by
      obtain ⟨cs', h1, h2⟩ := hel i (by omega)
      obtain ⟨_, h3, h4⟩ := World.cells?_some h1
      exact ⟨cs', h3, h4, h2⟩
    obtain ⟨C, hCs⟩ := choose_lt hq
    refine ⟨some a, len0, m, fun i j => (C i).getD j undef, rfl, ?_, hl, hm, .inr ⟨_, _, rfl, by simp⟩, ?_⟩
    · intro i hi j hj
      obtain ⟨h3, h4, _⟩ := hCs i hi
      have h5 := h4 j hj
      rw [List.getElem?_eq_getElem (by omega)] at h5
      obtain ⟨b, off, spot⟩ := a
      have hspot : spot = none := by
        obtain ⟨h6, h7, _⟩ := hCs 0 (by omega)
        have h8 := h7 0 (by omega)
        rw [List.getElem?_eq_getElem (by omega)] at h8
        simpa [Addr.add] using World.cell?_spot h8
      subst hspot
      rw [add_plain, add_plain] at h5
      refine ⟨b, off, rfl, ?_, ?_⟩
      · have hn : 0 < m * fs.size := by
          have h7 : 0 < m := by omega
          have h8 : 0 < fs.size := by omega
          exact Nat.mul_pos h7 h8
        exact hlt (.cell b off) (List.mem_append.2 (.inl (by rw [hC]; exact MemPlace.mem_row.2 ⟨0, hn, by simp⟩)))
      · rw [h5]; simp [List.getD, List.getElem?_eq_getElem (show j < (C i).length by omega)]
    · intro i hi j f hf'
      obtain ⟨h3, _, h5⟩ := hCs i hi
      obtain ⟨xs, k, _, _, _, hxl, hff⟩ := DataW.trod_struct he h5
      have hlt' : j < fs.size := (Array.getElem?_eq_some_iff.1 hf').1
      obtain ⟨ho, hc1⟩ := hone_of hone j f hf'
      have g := hff j f hf'
      rw [ho, hc1, take1_drop (C i) j undef (by omega), List.getElem?_eq_getElem (by omega)] at g
      exact ⟨k, _, g⟩
end
end Go.Proofs.YthmfbcfbcookiaaDoor
