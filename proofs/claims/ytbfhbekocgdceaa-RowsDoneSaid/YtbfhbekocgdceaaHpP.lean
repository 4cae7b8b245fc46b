/-
  Heaps of entries, by rank and then by when they came: plain laws. No condition.
-/
import Derived.Test.YtbfhbekocgdceaaHpG
import Derived.Test.YtbfhbekocgdceaaHeP
namespace Go.Proofs.Ytbfhbekocgdceaa
theorem ordP : heap.Ord ahP where
  asym := fun a b h => by
    simp only [ahP, ltP, Bool.or_eq_true, Bool.and_eq_true, Bool.not_eq_true', decide_eq_true_eq, decide_eq_false_iff_not, Bool.or_eq_false_iff, Bool.and_eq_false_imp] at h ⊢
    omega
  trans := fun a b c h h' => by
    simp only [ahP, ltP, Bool.not_eq_true', decide_eq_false_iff_not, Bool.or_eq_false_iff, Bool.and_eq_false_imp] at h h' ⊢
    omega
theorem ahP_true {a b : EnP} : ahP a b = true ↔ a.rank < b.rank ∨ (a.rank = b.rank ∧ a.came < b.came) := by
  simp only [ahP, ltP, Bool.or_eq_true, Bool.and_eq_true, Bool.not_eq_true', decide_eq_true_eq, decide_eq_false_iff_not]
  omega
theorem swapLP_eq (l : List EnP) (i k : Nat) (ei ek : EnP) : swapLP l i k ei ek = heap.swap l i k ei ek := rfl
theorem upP_eq (l : List EnP) (i : Nat) : upP l i = heap.up ahP l i := by
  induction i using Nat.strongRecOn generalizing l with
  | ind i ih =>
    unfold upP heap.up
    split
    · rfl
    · cases h1 : l[i]? with
      | none => rfl
      | some a =>
        cases h2 : l[(i - 1) / 2]? with
        | none => rfl
        | some b =>
          simp only []
          rw [ih _ (by omega)]
          rfl
theorem downP_eq (l : List EnP) (i : Nat) : downP l i = heap.down ahP l i := by
  induction h : l.length - i using Nat.strongRecOn generalizing l i with
  | ind m ih =>
    subst h
    unfold downP heap.down
    split
    · rfl
    · rename_i hl
      cases h1 : l[i]? with
      | none => rfl
      | some a =>
        cases h2 : l[2 * i + 1]? with
        | none => rfl
        | some b =>
          simp only []
          rw [ih _ (by simp only [swapLP, List.length_set]; omega) (swapLP l i (2 * i + 1) a b) (2 * i + 1) rfl]
          cases h3 : (if 2 * i + 2 < l.length then l[2 * i + 2]? else none) with
          | none => rfl
          | some c =>
            simp only []
            rw [ih _ (by simp only [swapLP, List.length_set]; omega) (swapLP l i (2 * i + 2) a c) (2 * i + 2) rfl]
            rfl
theorem takeP_eq (l : List EnP) : takeP l = heap.take ahP l := by
  unfold takeP heap.take
  cases h : l[l.length - 1]? with
  | none => rfl
  | some z => exact downP_eq _ _
/-- The entries of things that come one behind the other. -/
def entsP : List (Int × ByteArray) → Int → List EnP
  | [], _ => []
  | x :: r, n => ⟨x.1, x.2, n⟩ :: entsP r (n + 1)
theorem entsP_length : ∀ (xs : List (Int × ByteArray)) (n : Int), (entsP xs n).length = xs.length
  | [], _ => rfl
  | _ :: r, n => by rw [entsP, List.length_cons, entsP_length r, List.length_cons]
theorem entsP_append : ∀ (xs ys : List (Int × ByteArray)) (n : Int), entsP (xs ++ ys) n = entsP xs n ++ entsP ys (n + xs.length)
  | [], ys, n => by simp [entsP]
  | x :: r, ys, n => by
    rw [List.cons_append, entsP, entsP, entsP_append r ys (n + 1), List.cons_append, List.length_cons]
    congr 3
    omega
theorem entsP_came : ∀ (xs : List (Int × ByteArray)) (n : Int) (e : EnP), e ∈ entsP xs n → n ≤ e.came ∧ e.came < n + xs.length
  | [], _, _, h => by simp [entsP] at h
  | x :: r, n, e, h => by
    rw [entsP, List.mem_cons] at h
    rcases h with h | h
    · subst h; simp; omega
    · have := entsP_came r (n + 1) e h
      rw [List.length_cons]; omega
theorem putsP_heap : ∀ (xs : List (Int × ByteArray)) (l : List EnP) (n : Int), heap.Hp ahP l → heap.Hp ahP (putsP l n xs) ∧ (putsP l n xs).Perm (l ++ entsP xs n)
  | [], l, n, h => by rw [putsP, entsP, List.append_nil]; exact ⟨h, List.Perm.refl _⟩
  | x :: r, l, n, h => by
    have h1 := heap.put_heap ordP h ⟨x.1, x.2, n⟩
    rw [putsP, putOneP, upP_eq]
    have h2 := putsP_heap r _ (n + 1) h1.1
    refine ⟨h2.1, h2.2.trans ?_⟩
    rw [entsP]
    refine (h1.2.append_right _).trans ?_
    rw [List.append_assoc]
    exact List.Perm.refl _
theorem putsP_append : ∀ (xs ys : List (Int × ByteArray)) (l : List EnP) (n : Int), putsP l n (xs ++ ys) = putsP (putsP l n xs) (n + xs.length) ys
  | [], ys, l, n => by simp [putsP]
  | x :: r, ys, l, n => by
    rw [List.cons_append, putsP, putsP, putsP_append r ys _ (n + 1), List.length_cons]
    congr 1
    omega
theorem takeP_heap {l : List EnP} (h : heap.Hp ahP l) {e : EnP} (he : l[0]? = some e) : heap.Hp ahP (takeP l) ∧ (e :: takeP l).Perm l ∧ ∀ x ∈ l, ahP x e = false := by
  rw [takeP_eq]; exact heap.take_heap ordP h he
/-- The one that goes ahead of all others is taken. -/
theorem takeP_least {l s : List EnP} (h : heap.Hp ahP l) {x : EnP} (hp : l.Perm (x :: s)) (hx : ∀ y ∈ s, ahP x y = true) : l[0]? = some x ∧ heap.Hp ahP (takeP l) ∧ (takeP l).Perm s := by
  have hl : 0 < l.length := by rw [hp.length_eq]; simp
  obtain ⟨e, he⟩ : ∃ e, l[0]? = some e := ⟨_, List.getElem?_eq_getElem hl⟩
  obtain ⟨h1, h2, h3⟩ := takeP_heap h he
  have hex : e = x := by
    have hm : e ∈ x :: s := hp.subset (List.mem_of_getElem? he)
    rcases List.mem_cons.1 hm with h4 | h4
    · exact h4
    · have h5 := hx e h4
      have h6 := h3 x (hp.symm.subset (List.mem_cons_self))
      rw [h5] at h6; cases h6
  subst hex
  exact ⟨he, h1, (h2.trans hp).cons_inv⟩
end Go.Proofs.Ytbfhbekocgdceaa
