/-
  How a reader with a fault that sticks goes on: the plain law. Conditions: none.
-/
import Derived.Test.YtcmbdnjcfneinaaGreatDoorPMa
namespace Go.Proofs.YtcmbdnjcfneinaaGreatDoor
/-- From a place and a fault, if any, to a place and a fault; what is read (anything, where there is a fault). -/
def Goes {α : Type} (p : Pr α) (b : List Oct) (i : Nat) (F : Option (Nat × Nat)) (j : Nat) (G : Option (Nat × Nat)) (a : α) : Prop :=
  match F with
  | some f => G = some f ∧ j = i
  | none => (p b i = .ok a j ∧ G = none) ∨ (p b i = .bad j ∧ G = some (50, j))
section
variable {α β : Type} {p : Pr α} {b : List Oct} {i j k : Nat} {F G H : Option (Nat × Nat)} {a : α}
theorem Goes.ret (a : α) : Goes (Pr.ret a) b i F i F a := by
  cases F with
  | some f => exact ⟨rfl, rfl⟩
  | none => exact .inl ⟨rfl, rfl⟩
theorem Goes.stuck {f : Nat × Nat} : Goes p b i (some f) i (some f) a := ⟨rfl, rfl⟩
theorem Goes.any {f : Nat × Nat} {a' : α} (h : Goes p b i F j (some f) a) : Goes p b i F j (some f) a' := by
  cases F with
  | some f => exact h
  | none =>
    rcases h with ⟨_, h⟩ | h
    · cases h
    · exact .inr h
theorem Goes.seq {f : α → Pr β} {c : β} (h : Goes p b i F j G a) (k' : Goes (f a) b j G k H c) : Goes (p.andThen f) b i F k H c := by
  cases F with
  | some f =>
    obtain ⟨rfl, rfl⟩ := h
    exact k'
  | none =>
    rcases h with ⟨h1, rfl⟩ | ⟨h1, rfl⟩
    · unfold Goes Pr.andThen
      simp only [h1]
      exact k'
    · obtain ⟨rfl, rfl⟩ := k'
      unfold Goes Pr.andThen
      simp only [h1]
      simp
theorem Goes.map (f : α → β) (h : Goes p b i F j G a) : Goes (p.map f) b i F j G (f a) := by
  cases F with
  | some f => exact h
  | none =>
    rcases h with ⟨h1, rfl⟩ | ⟨h1, rfl⟩
    · unfold Goes Pr.map
      simp only [h1]
      simp
    · unfold Goes Pr.map
      simp only [h1]
      simp
theorem rep_succ (p : Pr α) (n : Nat) (b : List Oct) (i : Nat) : repP p (n + 1) b i = (match p b i with | .bad q => .bad q | .ok a j => match repP p n b j with | .bad q => .bad q | .ok l k => .ok (a :: l) k : Rd (List α)) := by
  show (p.andThen fun a => (repP p n).map fun l => a :: l) b i = _
  unfold Pr.andThen Pr.map
  cases p b i with
  | bad q => rfl
  | ok a j =>
    simp only []
    cases repP p n b j <;> rfl
theorem snoc_at (p : Pr α) (n : Nat) (b : List Oct) (i : Nat) : (repP p n).andThen (fun l => p.map fun a => l ++ [a]) b i = (match repP p n b i with | .bad q => .bad q | .ok l j => match p b j with | .bad q => .bad q | .ok a k => .ok (l ++ [a]) k : Rd (List α)) := by
  unfold Pr.andThen Pr.map
  cases repP p n b i with
  | bad q => rfl
  | ok l j =>
    simp only []
    cases p b j <;> rfl
theorem rep_snoc_eq (p : Pr α) : ∀ (n : Nat) (b : List Oct) (i : Nat), repP p (n + 1) b i = (repP p n).andThen (fun l => p.map fun a => l ++ [a]) b i
  | 0, b, i => by
    rw [rep_succ, snoc_at]
    cases e : p b i with
    | bad q =>
      show _ = (match p b i with | .bad q => .bad q | .ok a k => .ok ([] ++ [a]) k : Rd (List α))
      rw [e]
    | ok a j =>
      show _ = (match p b i with | .bad q => .bad q | .ok a k => .ok ([] ++ [a]) k : Rd (List α))
      rw [e]
      rfl
  | n + 1, b, i => by
    rw [rep_succ, snoc_at, rep_succ]
    cases e : p b i with
    | bad q => rfl
    | ok a j =>
      simp only []
      rw [rep_snoc_eq p n b j, snoc_at]
      cases e2 : repP p n b j with
      | bad q => rfl
      | ok l k =>
        simp only []
        cases p b k <;> rfl
theorem Goes.snoc {n : Nat} {l : List α} (h : Goes (repP p n) b i F j G l) (h2 : Goes p b j G k H a) : Goes (repP p (n + 1)) b i F k H (l ++ [a]) := by
  have h3 : Goes ((repP p n).andThen fun l => p.map fun a => l ++ [a]) b i F k H (l ++ [a]) := h.seq (h2.map fun a => l ++ [a])
  have e : repP p (n + 1) = (repP p n).andThen fun l => p.map fun a => l ++ [a] := funext fun b => funext fun i => rep_snoc_eq p n b i
  rw [e]
  exact h3
theorem rep_bad_more {m : Nat} : ∀ {n : Nat}, repP p n b i = .bad j → n ≤ m → repP p m b i = .bad j := by
  intro n h hn
  induction m with
  | zero =>
    obtain rfl : n = 0 := by omega
    exact h
  | succ m ih =>
    by_cases e : n = m + 1
    · rw [← e]; exact h
    · rw [rep_snoc_eq]
      unfold Pr.andThen
      rw [ih (by omega)]
/-- Where a fault has been met the rest is let go. -/
theorem Goes.more {n m : Nat} {l l' : List α} {f : Nat × Nat} (h : Goes (repP p n) b i F j (some f) l) (hn : n ≤ m) : Goes (repP p m) b i F j (some f) l' := by
  cases F with
  | some f => exact h
  | none =>
    rcases h with ⟨_, h⟩ | ⟨h, e⟩
    · cases h
    · exact .inr ⟨rep_bad_more h hn, e⟩
theorem Goes.ok (h : Goes p b i none j none a) : p b i = .ok a j := by
  rcases h with ⟨h, _⟩ | ⟨_, h⟩
  · exact h
  · cases h
theorem Goes.bad {f : Nat × Nat} (h : Goes p b i none j (some f) a) : p b i = .bad j ∧ f = (50, j) := by
  rcases h with ⟨_, h⟩ | ⟨h, e⟩
  · cases h
  · injection e with e
    exact ⟨h, e⟩
theorem Goes.was {f : Nat × Nat} (h : Goes p b i (some f) j G a) : G = some f ∧ j = i := h
end
end Go.Proofs.YtcmbdnjcfneinaaGreatDoor
