/-
  What is left of a heap of pairs, rank by rank: plain laws. No condition.
-/
import Derived.Test.YtbfhbekocgdceaaHpP
namespace Go.Proofs.Ytbfhbekocgdceaa
/-- Is an entry still there, at the rank r and the place i? -/
def leftB (r : Int) (i : Nat) (e : EnP) : Bool := decide (r < e.rank ∨ (e.rank = r ∧ (i : Int) ≤ e.came))
def leftS (xs : List (Int × ByteArray)) (r : Int) (i : Nat) : List EnP := (entsP xs 0).filter (leftB r i)
theorem leftS_start (xs : List (Int × ByteArray)) (h : ∀ x ∈ xs, -128 ≤ x.1) : leftS xs (-128) 0 = entsP xs 0 := by
  have hr : ∀ (l : List (Int × ByteArray)) (n : Int), (∀ x ∈ l, -128 ≤ x.1) → ∀ e ∈ entsP l n, -128 ≤ e.rank := by
    intro l
    induction l with
    | nil => intro n _ e he; simp [entsP] at he
    | cons x l ih =>
      intro n hx e he
      rw [entsP, List.mem_cons] at he
      rcases he with he | he
      · subst he; exact hx x (List.mem_cons_self)
      · exact ih _ (fun y hy => hx y (List.mem_cons_of_mem _ hy)) e he
  refine List.filter_eq_self.2 fun e he => ?_
  have h1 := hr xs 0 h e he
  have h2 := entsP_came xs 0 e he
  simp [leftB]; omega
theorem leftS_end (xs : List (Int × ByteArray)) (h : ∀ x ∈ xs, x.1 ≤ 127) : leftS xs 128 0 = [] := by
  have hr : ∀ (l : List (Int × ByteArray)) (n : Int), (∀ x ∈ l, x.1 ≤ 127) → ∀ e ∈ entsP l n, e.rank ≤ 127 := by
    intro l
    induction l with
    | nil => intro n _ e he; simp [entsP] at he
    | cons x l ih =>
      intro n hx e he
      rw [entsP, List.mem_cons] at he
      rcases he with he | he
      · subst he; exact hx x (List.mem_cons_self)
      · exact ih _ (fun y hy => hx y (List.mem_cons_of_mem _ hy)) e he
  refine List.filter_eq_nil_iff.2 fun e he => ?_
  have h1 := hr xs 0 h e he
  simp [leftB]; omega
theorem leftS_turn (xs : List (Int × ByteArray)) (r : Int) : leftS xs r xs.length = leftS xs (r + 1) 0 := by
  refine List.filter_congr fun e he => ?_
  have h2 := entsP_came xs 0 e he
  simp only [leftB, decide_eq_decide]
  omega
theorem entsP_split (xs : List (Int × ByteArray)) (i : Nat) (h : i < xs.length) : entsP xs 0 = entsP (xs.take i) 0 ++ ⟨xs[i].1, xs[i].2, i⟩ :: entsP (xs.drop (i + 1)) (i + 1) := by
  have h1 : xs = xs.take i ++ xs[i] :: xs.drop (i + 1) := by rw [List.getElem_cons_drop, List.take_append_drop]
  conv => lhs; rw [h1]
  rw [entsP_append, entsP, List.length_take, Nat.min_eq_left (by omega)]
  simp
theorem leftS_skip (xs : List (Int × ByteArray)) (r : Int) (i : Nat) (h : i < xs.length) (hr : xs[i].1 ≠ r) : leftS xs r (i + 1) = leftS xs r i := by
  unfold leftS
  rw [entsP_split xs i h, List.filter_append, List.filter_append, List.filter_cons, List.filter_cons]
  have e1 : (entsP (xs.take i) 0).filter (leftB r (i + 1)) = (entsP (xs.take i) 0).filter (leftB r i) := List.filter_congr fun e he => by
    have h2 := entsP_came _ 0 e he
    rw [List.length_take] at h2
    simp only [leftB, decide_eq_decide]; omega
  have e2 : (entsP (xs.drop (i + 1)) (i + 1)).filter (leftB r (i + 1)) = (entsP (xs.drop (i + 1)) (i + 1)).filter (leftB r i) := List.filter_congr fun e he => by
    have h2 := entsP_came _ _ e he
    simp only [leftB, decide_eq_decide]; omega
  have e3 : leftB r (i + 1) ⟨xs[i].1, xs[i].2, i⟩ = leftB r i ⟨xs[i].1, xs[i].2, i⟩ := by
    simp only [leftB, decide_eq_decide]; omega
  rw [e1, e2, e3]
theorem leftS_next (xs : List (Int × ByteArray)) (r : Int) (i : Nat) (h : i < xs.length) (hr : xs[i].1 = r) : (leftS xs r i).Perm (⟨xs[i].1, xs[i].2, i⟩ :: leftS xs r (i + 1)) ∧ ∀ y ∈ leftS xs r (i + 1), ahP ⟨xs[i].1, xs[i].2, i⟩ y = true := by
  constructor
  · unfold leftS
    rw [entsP_split xs i h, List.filter_append, List.filter_append, List.filter_cons, List.filter_cons]
    have e1 : (entsP (xs.take i) 0).filter (leftB r (i + 1)) = (entsP (xs.take i) 0).filter (leftB r i) := List.filter_congr fun e he => by
      have h2 := entsP_came _ 0 e he
      rw [List.length_take] at h2
      simp only [leftB, decide_eq_decide]; omega
    have e2 : (entsP (xs.drop (i + 1)) (i + 1)).filter (leftB r (i + 1)) = (entsP (xs.drop (i + 1)) (i + 1)).filter (leftB r i) := List.filter_congr fun e he => by
      have h2 := entsP_came _ _ e he
      simp only [leftB, decide_eq_decide]; omega
    rw [e1, e2, if_pos (by simp [leftB]; omega), if_neg (by simp [leftB]; omega)]
    exact List.perm_middle
  · intro y hy
    obtain ⟨_, h2⟩ := List.mem_filter.1 hy
    rw [ahP_true]
    simp only [leftB, decide_eq_true_eq] at h2
    show xs[i].1 < y.rank ∨ (xs[i].1 = y.rank ∧ (i : Int) < y.came)
    omega
end Go.Proofs.Ytbfhbekocgdceaa
