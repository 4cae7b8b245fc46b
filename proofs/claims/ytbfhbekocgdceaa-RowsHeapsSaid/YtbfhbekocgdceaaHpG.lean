/-
  Heaps in lists, by a test of what goes ahead: plain laws. Condition: the test's 'not ahead' is an order (whole and handed on).
-/
import Derived.Test.YtbfhbekocgdceaaMem
namespace Go.Proofs.Ytbfhbekocgdceaa.heap
section
variable {α : Type} (lt : α → α → Bool)
/-- The test is an order. -/
structure Ord : Prop where
  asym : ∀ a b, lt a b = true → lt b a = false
  trans : ∀ a b c, lt b a = false → lt c b = false → lt c a = false
theorem Ord.irr {lt : α → α → Bool} (h : Ord lt) (a : α) : lt a a = false := by
  cases e : lt a a
  · rfl
  · exact (h.asym a a e).symm.trans e |>.symm ▸ rfl
def swap (l : List α) (i k : Nat) (ei ek : α) : List α := (l.set i ek).set k ei
def up (l : List α) (i : Nat) : List α :=
  if _h : i = 0 then l else
    match l[i]?, l[(i - 1) / 2]? with
    | some ei, some ek => if lt ei ek then up (swap l i ((i - 1) / 2) ei ek) ((i - 1) / 2) else l
    | _, _ => l
termination_by i
decreasing_by omega
def down (l : List α) (i : Nat) : List α :=
  if _h : l.length ≤ 2 * i + 1 then l else
    match l[i]?, l[2 * i + 1]? with
    | some ei, some ek =>
      match (if 2 * i + 2 < l.length then l[2 * i + 2]? else none) with
      | some er =>
        if lt er ek then (if lt er ei then down (swap l i (2 * i + 2) ei er) (2 * i + 2) else l)
        else (if lt ek ei then down (swap l i (2 * i + 1) ei ek) (2 * i + 1) else l)
      | none => if lt ek ei then down (swap l i (2 * i + 1) ei ek) (2 * i + 1) else l
    | _, _ => l
termination_by l.length - i
decreasing_by all_goals (simp only [swap, List.length_set]; omega)
def take (l : List α) : List α :=
  match l[l.length - 1]? with
  | some z => down lt ((l.set 0 z).take (l.length - 1)) 0
  | none => []
/-- No thing goes ahead of the one above it. -/
def Hp (l : List α) : Prop := ∀ (i : Nat) (x y : α), 0 < i → l[i]? = some x → l[(i - 1) / 2]? = some y → lt x y = false
def UpInv (l : List α) (i : Nat) : Prop :=
  (∀ (j : Nat) (x y : α), j ≠ i → 0 < j → l[j]? = some x → l[(j - 1) / 2]? = some y → lt x y = false) ∧
  (∀ (j : Nat) (x y : α), 0 < i → 0 < j → (j - 1) / 2 = i → l[j]? = some x → l[(i - 1) / 2]? = some y → lt x y = false)
def DownInv (l : List α) (i : Nat) : Prop :=
  (∀ (j : Nat) (x y : α), (j - 1) / 2 ≠ i → 0 < j → l[j]? = some x → l[(j - 1) / 2]? = some y → lt x y = false) ∧
  (∀ (j : Nat) (x y : α), 0 < i → 0 < j → (j - 1) / 2 = i → l[j]? = some x → l[(i - 1) / 2]? = some y → lt x y = false)
variable {lt}
theorem set_perm : ∀ (l : List α) (i : Nat) (a b : α), l[i]? = some a → (a :: l.set i b).Perm (b :: l)
  | [], _, _, _, h => by simp at h
  | x :: l, 0, a, b, h => by
    obtain rfl : x = a := by simpa using h
    exact List.Perm.swap b x l
  | x :: l, i + 1, a, b, h => by
    have ih := set_perm l i a b (by simpa using h)
    rw [List.set_cons_succ]
    exact (List.Perm.swap x a _).trans ((ih.cons x).trans (List.Perm.swap b x l))
theorem swap_perm {l : List α} {i k : Nat} {ei ek : α} (hi : l[i]? = some ei) (hk : l[k]? = some ek) : (swap l i k ei ek).Perm l := by
  have h1 := set_perm l i ei ek hi
  have h2 : (l.set i ek)[k]? = some ek := by
    rw [List.getElem?_set]
    split
    · rename_i e; subst e; rw [if_pos (List.getElem?_eq_some_iff.1 hi).1]
    · exact hk
  have h3 := set_perm (l.set i ek) k ek ei h2
  exact (h3.trans h1).cons_inv
theorem swap_length (l : List α) (i k : Nat) (ei ek : α) : (swap l i k ei ek).length = l.length := by simp [swap]
theorem swap_get {l : List α} {i k : Nat} {ei ek : α} (hi : i < l.length) (hk : k < l.length) (j : Nat) : (swap l i k ei ek)[j]? = if j = k then some ei else if j = i then some ek else l[j]? := by
  unfold swap
  rw [List.getElem?_set, List.length_set, List.getElem?_set]
  by_cases h1 : j = k
  · subst h1; rw [if_pos rfl, if_pos rfl, if_pos hk]
  · rw [if_neg (Ne.symm h1), if_neg h1]
    by_cases h2 : j = i
    · subst h2; rw [if_pos rfl, if_pos rfl, if_pos hi]
    · rw [if_neg (Ne.symm h2), if_neg h2]
theorem up_perm (l : List α) (i : Nat) : (up lt l i).Perm l := by
  induction i using Nat.strongRecOn generalizing l with
  | ind i ih =>
    unfold up
    split
    · exact List.Perm.refl _
    · split
      · rename_i h1 h2
        split
        · exact (ih _ (by omega) _).trans (swap_perm h1 h2)
        · exact List.Perm.refl _
      · exact List.Perm.refl _
theorem up_heap (H : Ord lt) (l : List α) (i : Nat) (hi : i < l.length) (h : UpInv lt l i) : Hp lt (up lt l i) := by
  induction i using Nat.strongRecOn generalizing l with
  | ind i ih =>
    unfold up
    split
    · rename_i e
      subst e
      intro j x y hj hx hy
      exact h.1 j x y (by omega) hj hx hy
    · rename_i h0
      obtain ⟨ei, hei⟩ : ∃ e, l[i]? = some e := ⟨_, List.getElem?_eq_getElem hi⟩
      obtain ⟨p, hp⟩ : ∃ p, p = (i - 1) / 2 := ⟨_, rfl⟩
      have hpl : p < l.length := by omega
      obtain ⟨ek, hek⟩ : ∃ e, l[p]? = some e := ⟨_, List.getElem?_eq_getElem hpl⟩
      rw [hei, ← hp, hek]
      simp only []
      split
      · rename_i hlt
        have has := H.asym _ _ hlt
        refine ih p (by omega) _ (by rw [swap_length]; exact hpl) ⟨?_, ?_⟩
        · intro j x y hjp hj hx hy
          rw [swap_get hi hpl] at hx hy
          rw [if_neg hjp] at hx
          by_cases e1 : j = i
          · subst e1
            rw [if_pos rfl] at hx
            rw [if_pos hp.symm] at hy
            injection hx with hx
            injection hy with hy
            subst hx hy
            exact has
          · rw [if_neg e1] at hx
            by_cases e2 : (j - 1) / 2 = p
            · rw [if_pos e2] at hy
              injection hy with hy
              subst hy
              exact H.trans _ _ _ has (h.1 j x ek e1 hj hx (by rw [e2]; exact hek))
            · rw [if_neg e2] at hy
              by_cases e3 : (j - 1) / 2 = i
              · rw [if_pos e3] at hy
                injection hy with hy
                subst hy
                exact h.2 j x ek (by omega) hj e3 hx (by rw [← hp]; exact hek)
              · rw [if_neg e3] at hy
                exact h.1 j x y e1 hj hx hy
        · intro j x y hp0 hj hjp hx hy
          rw [swap_get hi hpl] at hx hy
          rw [if_neg (by omega), if_neg (by omega)] at hy
          rw [if_neg (by omega)] at hx
          have hpy := h.1 p ek y (by omega) hp0 hek hy
          by_cases e1 : j = i
          · rw [if_pos e1] at hx
            injection hx with hx
            subst hx
            exact hpy
          · rw [if_neg e1] at hx
            exact H.trans _ _ _ hpy (h.1 j x ek e1 hj hx (by rw [hjp]; exact hek))
      · rename_i hlt
        intro j x y hj hx hy
        by_cases e : j = i
        · subst e
          rw [hei] at hx
          rw [← hp, hek] at hy
          injection hx with hx
          injection hy with hy
          subst hx hy
          simpa using hlt
        · exact h.1 j x y e hj hx hy
theorem down_perm (l : List α) (i : Nat) : (down lt l i).Perm l := by
  induction h : l.length - i using Nat.strongRecOn generalizing l i with
  | ind m ih =>
    subst h
    unfold down
    split
    · exact List.Perm.refl _
    · split
      · rename_i h1 h2
        split
        · rename_i h3
          split at h3
          · split
            · split
              · exact (ih _ (by rw [swap_length]; omega) _ _ rfl).trans (swap_perm h1 h3)
              · exact List.Perm.refl _
            · split
              · exact (ih _ (by rw [swap_length]; omega) _ _ rfl).trans (swap_perm h1 h2)
              · exact List.Perm.refl _
          · cases h3
        · split
          · exact (ih _ (by rw [swap_length]; omega) _ _ rfl).trans (swap_perm h1 h2)
          · exact List.Perm.refl _
      · exact List.Perm.refl _
/-- One step down, to the child k; the other children stay behind it. -/
theorem down_step (H : Ord lt) {l : List α} {i k : Nat} {ei ek : α} (hei : l[i]? = some ei) (hek : l[k]? = some ek) (hk : (k - 1) / 2 = i) (hk0 : 0 < k) (hc : ∀ (j : Nat) (x : α), 0 < j → (j - 1) / 2 = i → j ≠ k → l[j]? = some x → lt x ek = false) (h : DownInv lt l i) (hlt : lt ek ei = true) : DownInv lt (swap l i k ei ek) k := by
  have hi := (List.getElem?_eq_some_iff.1 hei).1
  have hkl := (List.getElem?_eq_some_iff.1 hek).1
  refine ⟨?_, ?_⟩
  · intro j x y hjp hj hx hy
    rw [swap_get hi hkl] at hx hy
    rw [if_neg hjp] at hy
    by_cases e1 : j = k
    · subst e1
      rw [if_pos rfl] at hx
      rw [if_pos hk] at hy
      injection hx with hx
      injection hy with hy
      subst hx hy
      exact H.asym _ _ hlt
    · rw [if_neg e1] at hx
      by_cases e2 : j = i
      · subst e2
        rw [if_pos rfl] at hx
        rw [if_neg (by omega)] at hy
        injection hx with hx
        subst hx
        exact h.2 k ek y hj hk0 hk hek hy
      · rw [if_neg e2] at hx
        by_cases e3 : (j - 1) / 2 = i
        · rw [if_pos e3] at hy
          injection hy with hy
          subst hy
          exact hc j x hj e3 e1 hx
        · rw [if_neg e3] at hy
          exact h.1 j x y e3 hj hx hy
  · intro j x y _ hj hjk hx hy
    rw [swap_get hi hkl] at hx hy
    rw [if_neg (by omega), if_pos (by omega)] at hy
    rw [if_neg (by omega), if_neg (by omega)] at hx
    injection hy with hy
    subst hy
    exact h.1 j x ek (by omega) hj hx (by rw [hjk]; exact hek)
/-- No step: it is a heap. -/
theorem down_stop (H : Ord lt) {l : List α} {i k : Nat} {ei ek : α} (hei : l[i]? = some ei) (hek : l[k]? = some ek) (hc : ∀ (j : Nat) (x : α), 0 < j → (j - 1) / 2 = i → j ≠ k → l[j]? = some x → lt x ek = false) (h : DownInv lt l i) (hlt : lt ek ei = false) : Hp lt l := by
  intro j x y hj hx hy
  by_cases e : (j - 1) / 2 = i
  · rw [e, hei] at hy
    injection hy with hy
    subst hy
    by_cases e1 : j = k
    · subst e1
      rw [hek] at hx
      injection hx with hx
      subst hx
      exact hlt
    · exact H.trans _ _ _ hlt (hc j x hj e e1 hx)
  · exact h.1 j x y e hj hx hy
theorem down_heap (H : Ord lt) (l : List α) (i : Nat) (h : DownInv lt l i) : Hp lt (down lt l i) := by
  induction hm : l.length - i using Nat.strongRecOn generalizing l i with
  | ind m ih =>
    subst hm
    unfold down
    split
    · rename_i hle
      intro j x y hj hx hy
      have := (List.getElem?_eq_some_iff.1 hx).1
      exact h.1 j x y (by omega) hj hx hy
    · rename_i hle
      obtain ⟨ei, hei⟩ : ∃ e, l[i]? = some e := ⟨_, List.getElem?_eq_getElem (by omega)⟩
      obtain ⟨ek, hek⟩ : ∃ e, l[2 * i + 1]? = some e := ⟨_, List.getElem?_eq_getElem (by omega)⟩
      rw [hei, hek]
      simp only []
      by_cases hr : 2 * i + 2 < l.length
      · obtain ⟨er, her⟩ : ∃ e, l[2 * i + 2]? = some e := ⟨_, List.getElem?_eq_getElem hr⟩
        rw [if_pos hr, her]
        simp only []
        split
        · rename_i h1
          have hc : ∀ (j : Nat) (x : α), 0 < j → (j - 1) / 2 = i → j ≠ 2 * i + 2 → l[j]? = some x → lt x er = false := fun j x hj e1 e2 hx => by
            obtain rfl : j = 2 * i + 1 := by omega
            rw [hek] at hx
            injection hx with hx
            subst hx
            exact H.asym _ _ h1
          split
          · rename_i h2
            exact ih _ (by rw [swap_length]; omega) _ _ (down_step H hei her (by omega) (by omega) hc h h2) rfl
          · rename_i h2
            exact down_stop H hei her hc h (by simpa using h2)
        · rename_i h1
          have hc : ∀ (j : Nat) (x : α), 0 < j → (j - 1) / 2 = i → j ≠ 2 * i + 1 → l[j]? = some x → lt x ek = false := fun j x hj e1 e2 hx => by
            obtain rfl : j = 2 * i + 2 := by omega
            rw [her] at hx
            injection hx with hx
            subst hx
            simpa using h1
          split
          · rename_i h2
            exact ih _ (by rw [swap_length]; omega) _ _ (down_step H hei hek (by omega) (by omega) hc h h2) rfl
          · rename_i h2
            exact down_stop H hei hek hc h (by simpa using h2)
      · rw [if_neg hr]
        simp only []
        have hc : ∀ (j : Nat) (x : α), 0 < j → (j - 1) / 2 = i → j ≠ 2 * i + 1 → l[j]? = some x → lt x ek = false := fun j x hj e1 e2 hx => by
          have := (List.getElem?_eq_some_iff.1 hx).1
          omega
        split
        · rename_i h2
          exact ih _ (by rw [swap_length]; omega) _ _ (down_step H hei hek (by omega) (by omega) hc h h2) rfl
        · rename_i h2
          exact down_stop H hei hek hc h (by simpa using h2)
/-- One more thing: still a heap, of those and it. -/
theorem put_heap (H : Ord lt) {l : List α} (h : Hp lt l) (x : α) : Hp lt (up lt (l ++ [x]) l.length) ∧ (up lt (l ++ [x]) l.length).Perm (l ++ [x]) := by
  refine ⟨up_heap H _ _ (by simp) ⟨?_, ?_⟩, up_perm _ _⟩
  · intro j a b hj hj0 ha hb
    have h1 := (List.getElem?_eq_some_iff.1 ha).1
    simp at h1
    rw [List.getElem?_append_left (by omega)] at ha hb
    exact h j a b hj0 ha hb
  · intro j a b _ _ hj ha _
    have h1 := (List.getElem?_eq_some_iff.1 ha).1
    simp at h1
    omega
/-- The first one goes ahead of all. -/
theorem first_least (H : Ord lt) {l : List α} (h : Hp lt l) {e : α} (he : l[0]? = some e) (i : Nat) (x : α) (hx : l[i]? = some x) : lt x e = false := by
  induction i using Nat.strongRecOn generalizing x with
  | ind i ih =>
    by_cases h0 : i = 0
    · subst h0
      rw [he] at hx
      injection hx with hx
      subst hx
      exact H.irr _
    · have hl := (List.getElem?_eq_some_iff.1 hx).1
      obtain ⟨y, hy⟩ : ∃ y, l[(i - 1) / 2]? = some y := ⟨_, List.getElem?_eq_getElem (by omega)⟩
      exact H.trans _ _ _ (ih _ (by omega) y hy) (h i x y (by omega) hx hy)
/-- What is taken, and what is left. -/
theorem take_heap (H : Ord lt) {l : List α} (h : Hp lt l) {e : α} (he : l[0]? = some e) : Hp lt (take lt l) ∧ (e :: take lt l).Perm l ∧ ∀ x ∈ l, lt x e = false := by
  have hl := (List.getElem?_eq_some_iff.1 he).1
  obtain ⟨z, hz⟩ : ∃ z, l[l.length - 1]? = some z := ⟨_, List.getElem?_eq_getElem (by omega)⟩
  have ht : take lt l = down lt ((l.set 0 z).take (l.length - 1)) 0 := by unfold take; rw [hz]
  rw [ht]
  refine ⟨down_heap H _ _ ⟨?_, fun _ _ _ h0 => absurd h0 (Nat.lt_irrefl _)⟩, ?_, fun x hx => ?_⟩
  · intro j x y hj hj0 hx hy
    rw [List.getElem?_take] at hx hy
    split at hx
    · split at hy
      · rw [List.getElem?_set, if_neg (by omega)] at hx hy
        exact h j x y hj0 hx hy
      · cases hy
    · cases hx
  · have h1 := set_perm l 0 e z he
    have h2 : l.set 0 z = (l.set 0 z).take (l.length - 1) ++ [z] := by
      have h3 : (l.set 0 z)[l.length - 1]? = some z := by
        rw [List.getElem?_set]
        split
        · first | rfl | rw [if_pos (by omega)]
        · exact hz
      have h4 := List.take_append_drop (l.length - 1) (l.set 0 z)
      have h5 : (l.set 0 z).drop (l.length - 1) = [z] := by
        rw [List.drop_eq_getElem_cons (by rw [List.length_set]; omega)]
        have h6 := (List.getElem?_eq_some_iff.1 h3).2
        rw [h6, List.drop_of_length_le (by rw [List.length_set]; omega)]
      rw [h5] at h4
      exact h4.symm
    rw [h2] at h1
    have h3 : (z :: e :: (l.set 0 z).take (l.length - 1)).Perm (z :: l) := by
      refine List.Perm.trans ?_ h1
      have := (List.perm_append_comm (l₁ := [z]) (l₂ := (l.set 0 z).take (l.length - 1)))
      exact (List.Perm.swap e z _).trans (this.cons e)
    exact (((down_perm (lt := lt) _ 0).cons e)).trans h3.cons_inv
  · obtain ⟨i, hi, rfl⟩ := List.mem_iff_getElem.1 hx
    exact first_least H h he i _ (List.getElem?_eq_getElem hi)
end
end Go.Proofs.Ytbfhbekocgdceaa.heap
