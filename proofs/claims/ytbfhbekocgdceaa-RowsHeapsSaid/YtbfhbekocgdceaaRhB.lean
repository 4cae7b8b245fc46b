/-
  RowsHeaps: the plain law: the heap of the program holds what the reference's list holds. Conditions: none.
-/
import Derived.Test.YtbfhbekocgdceaaRhA
import Derived.Test.YtbfhbekocgdceaaHpT
namespace Go.Proofs.Ytbfhbekocgdceaa
def thing (e : EnT) : Int × Int := (e.rank, e.name)
theorem entsT_things : ∀ (xs : List (Int × Int)) (n : Int), (entsT xs n).map thing = xs
  | [], _ => rfl
  | x :: r, n => by rw [entsT, List.map_cons, entsT_things r]; rfl
theorem entsT_sort : ∀ (xs : List (Int × Int)) (n : Int), (entsT xs n).Pairwise (fun a b => a.came < b.came)
  | [], _ => List.Pairwise.nil
  | x :: r, n => by
    rw [entsT]
    refine List.Pairwise.cons (fun e he => ?_) (entsT_sort r (n + 1))
    have := (entsT_came r (n + 1) e he).1
    show n < e.came
    omega
/-- The heap's entries l, the same in the order in which they came: s. -/
structure HeapS (l s : List EnT) (came : Int) : Prop where
  hp : heap.Hp ahT l
  perm : l.Perm s
  sort : s.Pairwise (fun a b => a.came < b.came)
  lt : ∀ e ∈ s, e.came < came
theorem HeapS.start : HeapS [] [] 0 := ⟨fun i x y _ hx => by simp at hx, List.Perm.refl _, List.Pairwise.nil, fun e he => by cases he⟩
theorem HeapS.put {l s : List EnT} {came : Int} (h : HeapS l s came) (xs : List (Int × Int)) : HeapS (putsT l came xs) (s ++ entsT xs came) (came + xs.length) := by
  obtain ⟨h1, h2⟩ := putsT_heap xs l came h.hp
  refine ⟨h1, h2.trans (h.perm.append_right _), List.pairwise_append.2 ⟨h.sort, entsT_sort xs came, fun a ha b hb => ?_⟩, fun e he => ?_⟩
  · have := h.lt a ha; have := (entsT_came xs came b hb).1; omega
  · rcases List.mem_append.1 he with he | he
    · have := h.lt e he; omega
    · exact (entsT_came xs came e he).2
theorem HeapS.things {s : List EnT} {came : Int} (xs : List (Int × Int)) : (s ++ entsT xs came).map thing = s.map thing ++ xs := by rw [List.map_append, entsT_things]
theorem erase_perm {α : Type} : ∀ (s : List α) (i : Nat) (x : α), s[i]? = some x → (x :: s.eraseIdx i).Perm s
  | [], _, _, h => by simp at h
  | y :: s, 0, x, h => by
    obtain rfl : y = x := by simpa using h
    exact List.Perm.refl _
  | y :: s, i + 1, x, h => by
    have ih := erase_perm s i x (by simpa using h)
    rw [List.eraseIdx_cons_succ]
    exact (List.Perm.swap y x _).trans (ih.cons y)
theorem HeapS.take {l s : List EnT} {came : Int} (h : HeapS l s came) {at_ : Nat} (hm : FirstMin (s.map thing) at_ s.length) : ∃ e, s[at_]? = some e ∧ l[0]? = some e ∧ HeapS (takeT l) (s.eraseIdx at_) came := by
  obtain ⟨hlt, x, hx, hall⟩ := hm
  have he : s[at_]? = some s[at_] := List.getElem?_eq_getElem hlt
  have hxe : x = thing s[at_] := by rw [List.getElem?_map, he] at hx; injection hx with hx; exact hx.symm
  subst hxe
  have hp1 : l.Perm (s[at_] :: s.eraseIdx at_) := h.perm.trans (erase_perm s at_ _ he).symm
  obtain ⟨h1, h2, h3⟩ := takeT_least h.hp hp1 (fun y hy => by
    obtain ⟨j, hj, hjy⟩ := List.mem_eraseIdx_iff_getElem?.1 hy
    have hjl := (List.getElem?_eq_some_iff.1 hjy).1
    obtain ⟨h4, h5⟩ := hall j (thing y) hjl (by rw [List.getElem?_map, hjy]; rfl)
    rw [ahT_true]
    by_cases e : j < at_
    · exact .inl (h5 e)
    · have h6 : s[at_].came < y.came := by
        have h7 := (List.pairwise_iff_getElem.1 h.sort) at_ j hlt hjl (by omega)
        rw [(List.getElem?_eq_some_iff.1 hjy).2] at h7
        exact h7
      have h8 : s[at_].rank ≤ y.rank := h4
      omega)
  exact ⟨s[at_], he, h1, h2, h3, h.sort.sublist (List.eraseIdx_sublist _ _), fun e he => h.lt e ((List.eraseIdx_sublist _ _).subset he)⟩
theorem map_erase : ∀ (s : List EnT) (at_ : Nat), (s.eraseIdx at_).map thing = (s.map thing).eraseIdx at_
  | [], _ => by simp
  | y :: s, 0 => by simp
  | y :: s, i + 1 => by simp [map_erase s i]
end Go.Proofs.Ytbfhbekocgdceaa
