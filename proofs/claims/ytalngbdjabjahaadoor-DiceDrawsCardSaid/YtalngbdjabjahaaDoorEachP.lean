/-
  Orders and answers, plain: an order comes of the answers that are reckoned back from it; one answer turned gives another order, or none. Conditions: none.
-/
import Derived.Test.YtalngbdjabjahaaDoorShuf
namespace Go.Proofs.YtalngbdjabjahaaDoor
/-- Is it an order? -/
def IsOrd (l : List Int) : Prop := (∀ x ∈ l, 0 ≤ x ∧ x < (l.length : Int)) ∧ l.Nodup
theorem getD_get {l : List Int} {i : Nat} (h : i < l.length) : l.getD i 0 = l[i] := by rw [List.getD_eq_getElem?_getD, List.getElem?_eq_getElem h]; rfl
theorem swp_perm {l : List Int} {i j : Nat} (hi : i < l.length) (hj : j < l.length) : (swp l i j).Perm l := by
  unfold swp
  rw [getD_get hi, getD_get hj]
  exact List.set_set_perm hi hj
theorem swp_top {l : List Int} {i j : Nat} (hi : i < l.length) (hj : j ≤ i) : (swp l i j).getD i 0 = l.getD j 0 := by
  unfold swp
  rw [List.getD_eq_getElem?_getD, List.getElem?_set]
  by_cases e : j = i
  · subst e; rw [if_pos rfl, if_pos (by simpa using hi)]; rfl
  · rw [if_neg e, List.getElem?_set, if_pos rfl, if_pos hi]; rfl
theorem swp_past {l : List Int} {i j k : Nat} (hj : j ≤ i) (hk : i < k) : (swp l i j)[k]? = l[k]? := by
  unfold swp
  rw [List.getElem?_set_ne (by omega), List.getElem?_set_ne (by omega)]
theorem rng_nodup (n : Nat) : (rng n).Nodup := by
  unfold rng
  exact List.pairwise_map.2 (List.nodup_range.imp (fun h e => h (Int.ofNat_inj.1 e)))
theorem rng_ord (n : Nat) : IsOrd (rng n) := by
  refine ⟨fun x hx => ?_, rng_nodup n⟩
  unfold rng at hx ⊢
  obtain ⟨k, hk, rfl⟩ := List.mem_map.1 hx
  have := List.mem_range.1 hk
  simp
  omega
theorem ord_perm {a b : List Int} (h : a.Perm b) (hb : IsOrd b) : IsOrd a :=
  ⟨fun x hx => by rw [h.length_eq]; exact hb.1 x (h.mem_iff.1 hx), h.nodup_iff.2 hb.2⟩
theorem perm_of : ∀ {a b : List Int}, a.Nodup → a ⊆ b → b.length ≤ a.length → a.Perm b
  | [], b, _, _, h => by
    have : b = [] := List.length_eq_zero_iff.1 (by simpa using h)
    subst this; exact List.Perm.refl _
  | x :: a, b, hn, hs, h => by
    have hx : x ∈ b := hs List.mem_cons_self
    have hp := List.perm_cons_erase hx
    have hn' := List.nodup_cons.1 hn
    have h2 : a.Perm (b.erase x) := perm_of hn'.2 (fun y hy => (List.mem_erase_of_ne (fun e : y = x => hn'.1 (by rw [← e]; exact hy))).2 (hs (List.mem_cons_of_mem _ hy))) (by
      have := hp.length_eq
      simp at this h
      omega)
    exact (h2.cons x).trans hp.symm
/-- An order is a permutation of the first numbers. -/
theorem ord_rng {l : List Int} (h : IsOrd l) : l.Perm (rng l.length) := by
  have hsub : l ⊆ rng l.length := fun x hx => by
    have := h.1 x hx
    unfold rng
    exact List.mem_map.2 ⟨x.toNat, List.mem_range.2 (by omega), by simp; omega⟩
  exact perm_of h.2 hsub (by rw [rng_length]; exact Nat.le_refl _)
/-- The order that comes of answers. -/
def shL : Nat → List Int → List Int → Option (List Int)
  | 0, l, _ => some l
  | _ + 1, _, [] => none
  | i + 1, l, j :: js => if 0 ≤ j ∧ j ≤ ((i + 1 : Nat) : Int) then shL i (swp l (i + 1) j.toNat) js else none
theorem shL_past : ∀ (i : Nat) (l js r : List Int), shL i l js = some r → ∀ k, i < k → r[k]? = l[k]?
  | 0, l, _, r, h, k, _ => by injection h with h; rw [h]
  | _ + 1, _, [], _, h, _, _ => by cases h
  | i + 1, l, j :: js, r, h, k, hk => by
    rw [shL] at h
    by_cases hj : 0 ≤ j ∧ j ≤ ((i + 1 : Nat) : Int)
    · rw [if_pos hj] at h
      rw [shL_past i _ js r h k (by omega)]
      exact swp_past (by omega) (by omega)
    · rw [if_neg hj] at h; cases h
theorem shL_top {i : Nat} {l js r : List Int} {j : Int} (hl : i + 1 < l.length) (h : shL (i + 1) l (j :: js) = some r) : r[i + 1]? = some (l.getD j.toNat 0) ∧ 0 ≤ j ∧ j ≤ ((i + 1 : Nat) : Int) := by
  rw [shL] at h
  by_cases hj : 0 ≤ j ∧ j ≤ ((i + 1 : Nat) : Int)
  · rw [if_pos hj] at h
    refine ⟨?_, hj⟩
    rw [shL_past i _ js r h (i + 1) (by omega)]
    have h1 := swp_top (l := l) (i := i + 1) (j := j.toNat) hl (by omega)
    rw [List.getD_eq_getElem?_getD] at h1
    rw [← h1, List.getElem?_eq_getElem (by rw [swp_length]; exact hl)]
    rfl
  · rw [if_neg hj] at h; cases h
theorem nodup_getD {l : List Int} (h : l.Nodup) {a b : Nat} (ha : a < l.length) (hb : b < l.length) (e : l.getD a 0 = l.getD b 0) : a = b := by
  rw [getD_get ha, getD_get hb] at e
  exact (List.getElem_inj h).1 e
/-- One answer turned: another order, or none. -/
theorem shL_turn : ∀ (i : Nat) (l js r r' : List Int) (at_ : Nat) (o : Int), i < l.length → l.Nodup → at_ < js.length → js.length ≤ i → js.getD at_ 0 ≠ o → shL i l js = some r → shL i l (js.set at_ o) = some r' → r ≠ r'
  | 0, _, js, _, _, at_, _, _, _, h1, h2, _, _, _ => absurd h1 (by omega)
  | i + 1, l, [], _, _, at_, _, _, _, h1, _, _, _, _ => absurd h1 (Nat.not_lt_zero _)
  | i + 1, l, j :: js, r, r', 0, o, hl, hn, _, _, hne, h, h' => by
    intro e
    subst e
    obtain ⟨t1, a1, b1⟩ := shL_top hl h
    obtain ⟨t2, a2, b2⟩ := shL_top hl h'
    rw [t1] at t2
    injection t2 with t2
    have := nodup_getD hn (by omega) (by omega) t2
    apply hne
    show j = o
    omega
  | i + 1, l, j :: js, r, r', k + 1, o, hl, hn, h1, h2, hne, h, h' => by
    have h1' : k < js.length := by simpa using h1
    have h2' : js.length ≤ i := by simpa using h2
    rw [List.set_cons_succ] at h'
    rw [shL] at h h'
    by_cases hj : 0 ≤ j ∧ j ≤ ((i + 1 : Nat) : Int)
    · rw [if_pos hj] at h h'
      refine shL_turn i (swp l (i + 1) j.toNat) js r r' k o (by rw [swp_length]; omega) ((swp_perm hl (by omega)).nodup_iff.2 hn) h1' h2' ?_ h h'
      exact hne
    · rw [if_neg hj] at h; cases h
/-- Is there an order at all? Just if every answer serves. -/
theorem shL_some : ∀ (i : Nat) (l js : List Int), js.length = i → ((shL i l js).isSome = true ↔ ∀ k, k < i → 0 ≤ js.getD k 0 ∧ js.getD k 0 ≤ ((i - k : Nat) : Int))
  | 0, _, _, _ => ⟨fun _ k hk => absurd hk (Nat.not_lt_zero _), fun _ => rfl⟩
  | i + 1, l, [], h => by cases h
  | i + 1, l, j :: js, h => by
    have h' : js.length = i := by simpa using h
    rw [shL]
    by_cases hj : 0 ≤ j ∧ j ≤ ((i + 1 : Nat) : Int)
    · rw [if_pos hj, shL_some i _ js h']
      constructor
      · intro hk k hlt
        cases k with
        | zero => exact hj
        | succ k =>
          have := hk k (by omega)
          rw [show i + 1 - (k + 1) = i - k by omega]
          exact this
      · intro hk k hlt
        have := hk (k + 1) (by omega)
        rw [show i + 1 - (k + 1) = i - k by omega] at this
        exact this
    · rw [if_neg hj]
      exact ⟨(fun h => by cases h), fun hk => absurd (hk 0 (by omega)) hj⟩
/-- The first place at which x stands, looked for from k on in m steps; the last one, if it does not. -/
def lookFrom (l : List Int) (x : Int) : Nat → Nat → Nat
  | 0, k => k
  | m + 1, k => if l.getD k 0 = x then k else lookFrom l x m (k + 1)
theorem lookFrom_le (l : List Int) (x : Int) : ∀ m k, k ≤ lookFrom l x m k ∧ lookFrom l x m k ≤ k + m
  | 0, k => ⟨Nat.le_refl _, Nat.le_refl _⟩
  | m + 1, k => by
    unfold lookFrom
    split
    · omega
    · have := lookFrom_le l x m (k + 1); omega
theorem lookFrom_is (l : List Int) (x : Int) : ∀ m k, (∃ p, k ≤ p ∧ p ≤ k + m ∧ l.getD p 0 = x) → l.getD (lookFrom l x m k) 0 = x
  | 0, k, ⟨p, h1, h2, h3⟩ => by
    obtain rfl : p = k := by omega
    exact h3
  | m + 1, k, ⟨p, h1, h2, h3⟩ => by
    unfold lookFrom
    by_cases e : l.getD k 0 = x
    · rw [if_pos e]; exact e
    · rw [if_neg e]
      refine lookFrom_is l x m (k + 1) ⟨p, ?_, by omega, h3⟩
      rcases Nat.lt_or_ge k p with h | h
      · exact h
      · exact absurd (by rw [show k = p by omega]; exact h3) e
/-- The answers by which an order comes, from place i down. -/
def backL : Nat → List Int → List Int → List Int
  | 0, _, _ => []
  | i + 1, l, o => ((lookFrom l (o.getD (i + 1) 0) (i + 1) 0 : Nat) : Int) :: backL i (swp l (i + 1) (lookFrom l (o.getD (i + 1) 0) (i + 1) 0)) o
theorem backL_length : ∀ (i : Nat) (l o : List Int), (backL i l o).length = i
  | 0, _, _ => rfl
  | i + 1, l, o => by rw [backL, List.length_cons, backL_length]
theorem backL_bd : ∀ (i : Nat) (l o : List Int), ∀ j ∈ backL i l o, 0 ≤ j ∧ j ≤ (i : Int)
  | 0, _, _, j, h => by cases h
  | i + 1, l, o, j, h => by
    rw [backL] at h
    rcases List.mem_cons.1 h with rfl | h
    · have := (lookFrom_le l (o.getD (i + 1) 0) (i + 1) 0).2
      omega
    · have := backL_bd i _ o j h
      omega
/-- The order comes of them. -/
theorem shL_back : ∀ (i : Nat) (l o : List Int), i < l.length → l.Perm o → o.Nodup → (∀ k, i < k → l[k]? = o[k]?) → shL i l (backL i l o) = some o
  | 0, l, o, hl, hp, hn, hk => by
    rw [shL]
    congr 1
    apply List.ext_getElem? 
    intro k
    cases k with
    | succ k => exact hk (k + 1) (by omega)
    | zero =>
      have hlen := hp.length_eq
      obtain ⟨p, hpl, hpe⟩ := List.getElem_of_mem (hp.mem_iff.1 (List.getElem_mem hl))
      cases p with
      | zero => rw [List.getElem?_eq_getElem hl, List.getElem?_eq_getElem hpl, hpe]
      | succ p =>
        exfalso
        have h1 := hk (p + 1) (by omega)
        rw [List.getElem?_eq_getElem hpl, hpe, List.getElem?_eq_getElem (by omega)] at h1
        injection h1 with h1
        have := (List.getElem_inj (hp.nodup_iff.2 hn)).1 h1
        omega
  | i + 1, l, o, hl, hp, hn, hk => by
    have hlen := hp.length_eq
    have hol : i + 1 < o.length := by omega
    have hle := lookFrom_le l (o.getD (i + 1) 0) (i + 1) 0
    have hmem : ∃ p, 0 ≤ p ∧ p ≤ 0 + (i + 1) ∧ l.getD p 0 = o.getD (i + 1) 0 := by
      obtain ⟨p, hpl, hpe⟩ := List.getElem_of_mem (hp.mem_iff.2 (List.getElem_mem hol))
      refine ⟨p, Nat.zero_le _, ?_, by rw [getD_get hpl, getD_get hol, hpe]⟩
      rcases Nat.lt_or_ge (i + 1) p with h | h
      · exfalso
        have h1 := hk p h
        rw [List.getElem?_eq_getElem hpl, hpe, List.getElem?_eq_getElem (by omega)] at h1
        injection h1 with h1
        have := (List.getElem_inj hn).1 h1
        omega
      · omega
    have his := lookFrom_is l _ _ _ hmem
    rw [backL]
    generalize lookFrom l (o.getD (i + 1) 0) (i + 1) 0 = j at *
    rw [shL, if_pos ⟨by omega, by omega⟩, Int.toNat_natCast]
    refine shL_back i _ o (by rw [swp_length]; omega) ((swp_perm hl (by omega)).trans hp) hn ?_
    intro k hik
    rcases Nat.lt_or_ge (i + 1) k with h | h
    · rw [swp_past (by omega) h]; exact hk k h
    · obtain rfl : k = i + 1 := by omega
      have h1 := swp_top (l := l) (i := i + 1) (j := j) hl (by omega)
      rw [his, getD_get (by rw [swp_length]; exact hl), getD_get hol] at h1
      rw [List.getElem?_eq_getElem (by rw [swp_length]; exact hl), List.getElem?_eq_getElem hol, h1]
end Go.Proofs.YtalngbdjabjahaaDoor
