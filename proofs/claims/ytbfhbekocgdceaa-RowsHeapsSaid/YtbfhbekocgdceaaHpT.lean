/-
  Heaps of entries, by rank and then by when they came: plain laws. No condition.
-/
import Derived.Test.YtbfhbekocgdceaaHpG
import Derived.Test.YtbfhbekocgdceaaHeT
namespace Go.Proofs.Ytbfhbekocgdceaa
theorem ordT : heap.Ord ahT where
  asym := fun a b h => by
    simp only [ahT, ltT, Bool.or_eq_true, Bool.and_eq_true, Bool.not_eq_true', decide_eq_true_eq, decide_eq_false_iff_not, Bool.or_eq_false_iff, Bool.and_eq_false_imp] at h ⊢
    omega
  trans := fun a b c h h' => by
    simp only [ahT, ltT, Bool.not_eq_true', decide_eq_false_iff_not, Bool.or_eq_false_iff, Bool.and_eq_false_imp] at h h' ⊢
    omega
theorem ahT_true {a b : EnT} : ahT a b = true ↔ a.rank < b.rank ∨ (a.rank = b.rank ∧ a.came < b.came) := by
  simp only [ahT, ltT, Bool.or_eq_true, Bool.and_eq_true, Bool.not_eq_true', decide_eq_true_eq, decide_eq_false_iff_not]
  omega
theorem swapLT_eq (l : List EnT) (i k : Nat) (ei ek : EnT) : swapLT l i k ei ek = heap.swap l i k ei ek := rfl
theorem upT_eq (l : List EnT) (i : Nat) : upT l i = heap.up ahT l i := by
  induction i using Nat.strongRecOn generalizing l with
  | ind i ih =>
    unfold upT heap.up
    split
    · rfl
    · cases h1 : l[i]? with
      | none => rfl
      | some a =>
        cases h2 : l[(i - 1) / 2]? with
        | none => rfl
        | some b =>
          simp only []
          rw [ih _ (by omega)]
          rfl
theorem downT_eq (l : List EnT) (i : Nat) : downT l i = heap.down ahT l i := by
  induction h : l.length - i using Nat.strongRecOn generalizing l i with
  | ind m ih =>
    subst h
    unfold downT heap.down
    split
    · rfl
    · rename_i hl
      cases h1 : l[i]? with
      | none => rfl
      | some a =>
        cases h2 : l[2 * i + 1]? with
        | none => rfl
        | some b =>
          simp only []
          rw [ih _ (by simp only [swapLT, List.length_set]; omega) (swapLT l i (2 * i + 1) a b) (2 * i + 1) rfl]
          cases h3 : (if 2 * i + 2 < l.length then l[2 * i + 2]? else none) with
          | none => rfl
          | some c =>
            simp only []
            rw [ih _ (by simp only [swapLT, List.length_set]; omega) (swapLT l i (2 * i + 2) a c) (2 * i + 2) rfl]
            rfl
theorem takeT_eq (l : List EnT) : takeT l = heap.take ahT l := by
  unfold takeT heap.take
  cases h : l[l.length - 1]? with
  | none => rfl
  | some z => exact downT_eq _ _
/-- The entries of things that come one behind the other. -/
def entsT : List (Int × Int) → Int → List EnT
  | [], _ => []
  | x :: r, n => ⟨x.1, x.2, n⟩ :: entsT r (n + 1)
theorem entsT_length : ∀ (xs : List (Int × Int)) (n : Int), (entsT xs n).length = xs.length
  | [], _ => rfl
  | _ :: r, n => by rw [entsT, List.length_cons, entsT_length r, List.length_cons]
theorem entsT_append : ∀ (xs ys : List (Int × Int)) (n : Int), entsT (xs ++ ys) n = entsT xs n ++ entsT ys (n + xs.length)
  | [], ys, n => by simp [entsT]
  | x :: r, ys, n => by
    rw [List.cons_append, entsT, entsT, entsT_append r ys (n + 1), List.cons_append, List.length_cons]
    congr 3
    omega
theorem entsT_came : ∀ (xs : List (Int × Int)) (n : Int) (e : EnT), e ∈ entsT xs n → n ≤ e.came ∧ e.came < n + xs.length
  | [], _, _, h => by simp [entsT] at h
  | x :: r, n, e, h => by
    rw [entsT, List.mem_cons] at h
    rcases h with h | h
    · subst h; simp; omega
    · have := entsT_came r (n + 1) e h
      rw [List.length_cons]; omega
theorem putsT_heap : ∀ (xs : List (Int × Int)) (l : List EnT) (n : Int), heap.Hp ahT l → heap.Hp ahT (putsT l n xs) ∧ (putsT l n xs).Perm (l ++ entsT xs n)
  | [], l, n, h => by rw [putsT, entsT, List.append_nil]; exact ⟨h, List.Perm.refl _⟩
  | x :: r, l, n, h => by
    have h1 := heap.put_heap ordT h ⟨x.1, x.2, n⟩
    rw [putsT, putOneT, upT_eq]
    have h2 := putsT_heap r _ (n + 1) h1.1
    refine ⟨h2.1, h2.2.trans ?_⟩
    rw [entsT]
    refine (h1.2.append_right _).trans ?_
    rw [List.append_assoc]
    exact List.Perm.refl _
theorem putsT_append : ∀ (xs ys : List (Int × Int)) (l : List EnT) (n : Int), putsT l n (xs ++ ys) = putsT (putsT l n xs) (n + xs.length) ys
  | [], ys, l, n => by simp [putsT]
  | x :: r, ys, l, n => by
    rw [List.cons_append, putsT, putsT, putsT_append r ys _ (n + 1), List.length_cons]
    congr 1
    omega
theorem takeT_heap {l : List EnT} (h : heap.Hp ahT l) {e : EnT} (he : l[0]? = some e) : heap.Hp ahT (takeT l) ∧ (e :: takeT l).Perm l ∧ ∀ x ∈ l, ahT x e = false := by
  rw [takeT_eq]; exact heap.take_heap ordT h he
/-- The one that goes ahead of all others is taken. -/
theorem takeT_least {l s : List EnT} (h : heap.Hp ahT l) {x : EnT} (hp : l.Perm (x :: s)) (hx : ∀ y ∈ s, ahT x y = true) : l[0]? = some x ∧ heap.Hp ahT (takeT l) ∧ (takeT l).Perm s := by
  have hl : 0 < l.length := by rw [hp.length_eq]; simp
  obtain ⟨e, he⟩ : ∃ e, l[0]? = some e := ⟨_, List.getElem?_eq_getElem hl⟩
  obtain ⟨h1, h2, h3⟩ := takeT_heap h he
  have hex : e = x := by
    have hm : e ∈ x :: s := hp.subset (List.mem_of_getElem? he)
    rcases List.mem_cons.1 hm with h4 | h4
    · exact h4
    · have h5 := hx e h4
      have h6 := h3 x (hp.symm.subset (List.mem_cons_self))
      rw [h5] at h6; cases h6
  subst hex
  exact ⟨he, h1, (h2.trans hp).cons_inv⟩
end Go.Proofs.Ytbfhbekocgdceaa
