/-
  States that may be, and what stands where: the plain law of StateStands. Conditions: none.
-/
import Derived.Test.YtgbikcliembkcaaDoorChF
namespace Go.Proofs.YtgbikcliembkcaaDoor
open Go.RowKit
/-- A state that may be. -/
structure MayBe (s : St) : Prop where
  head : headB s = true
  pl : ∀ a ∈ s.players, plB a = true
  cd : ∀ a ∈ s.cards, cardB s.players.length a = true
  good : AllGood s.cards.length s.zones.flatten
  full : s.zones.flatten.length = s.cards.length
  turn : turnB s = true
  whose : whoseB s = true
  fin : endB s = true
  win : winB s = true
theorem firstF_none {l : List Bool} : firstF l = none ↔ ∀ b ∈ l, b = true := by
  induction l with
  | nil => simp [firstF]
  | cons a l ih => cases a <;> simp [firstF, ih]
theorem lead_le (m : Nat) : ∀ (l seen : List Int), lead m seen l ≤ l.length
  | [], _ => by simp [lead]
  | x :: r, seen => by
    rw [lead]
    split
    · have := lead_le m r (x :: seen); simp; omega
    · simp
theorem lead_full (m : Nat) : ∀ (l seen : List Int), lead m seen l = l.length → l.Nodup ∧ ∀ x ∈ l, 0 ≤ x ∧ x < (m : Int) ∧ x ∉ seen
  | [], _, _ => ⟨List.nodup_nil, fun x h => by simp at h⟩
  | x :: r, seen, h => by
    rw [lead] at h
    split at h
    · rename_i hx
      obtain ⟨h1, h2⟩ := lead_full m r (x :: seen) (by simpa using h)
      refine ⟨List.nodup_cons.2 ⟨fun hm => (h2 x hm).2.2 (by simp), h1⟩, fun y hy => ?_⟩
      rcases List.mem_cons.1 hy with rfl | hy'
      · exact hx
      · obtain ⟨a, b, c⟩ := h2 y hy'
        exact ⟨a, b, fun hs => c (by simp [hs])⟩
    · simp at h
theorem mayBe_iff (s : St) : firstF (thingsB s) = none ↔ MayBe s := by
  rw [firstF_none]
  constructor
  · intro h
    have hh : headB s = true := by
      cases e : headB s
      · rw [thingsB, if_neg (by rw [e]; decide)] at h
        exact absurd (h false (by simp)) (by decide)
      · rfl
    rw [thingsB, if_pos hh] at h
    have hl : ¬ lead s.cards.length [] s.zones.flatten < s.zones.flatten.length := fun hl => by
      rw [if_pos hl] at h
      exact absurd (h false (by simp)) (by decide)
    rw [if_neg hl] at h
    have h0 := lead_full s.cards.length s.zones.flatten [] (by have := lead_le s.cards.length s.zones.flatten []; omega)
    refine ⟨hh, fun a ha => h _ (by simp; exact .inr (.inl ⟨a, ha, rfl⟩)), fun a ha => h _ (by simp; exact .inr (.inr (.inl ⟨a, ha, rfl⟩))), ⟨h0.1, fun x hx => ⟨(h0.2 x hx).1, (h0.2 x hx).2.1⟩⟩, ?_, h _ (by simp), h _ (by simp), h _ (by simp), h _ (by simp)⟩
    exact of_decide_eq_true (h _ (List.mem_cons_of_mem _ (List.mem_append_right _ (List.mem_append_right _ (List.mem_append_right _ (List.mem_cons_self ..))))))
  · intro h b hb
    rw [thingsB, if_pos h.head, if_neg (by rw [lead_all h.good]; omega)] at hb
    rcases List.mem_cons.1 hb with e | hb
    · exact e
    rcases List.mem_append.1 hb with hb | hb
    · obtain ⟨a, ha, rfl⟩ := List.mem_map.1 hb; exact h.pl a ha
    rcases List.mem_append.1 hb with hb | hb
    · obtain ⟨a, ha, rfl⟩ := List.mem_map.1 hb; exact h.cd a ha
    rcases List.mem_append.1 hb with hb | hb
    · exact (List.mem_replicate.1 hb).2
    simp only [List.mem_cons, List.not_mem_nil, or_false] at hb
    rcases hb with rfl | rfl | rfl | rfl | rfl
    · exact decide_eq_true h.full
    · exact h.turn
    · exact h.whose
    · exact h.fin
    · exact h.win
theorem check_ok {s : St} (h : MayBe s) : checkP s = (0, 0) := by rw [checkP, (mayBe_iff s).2 h]; rfl
theorem check_bad {s : St} (h : ¬ MayBe s) : (checkP s).1 = 10 ∧ 0 ≤ (checkP s).2 := by
  unfold checkP
  cases e : firstF (thingsB s) with
  | none => exact absurd ((mayBe_iff s).1 e) h
  | some i => exact ⟨rfl, by simp [answer]⟩
theorem where_bad {s : St} (h : ¬ MayBe s) (c : Int) : whereO s c = none := by rw [whereO, if_neg (by rw [(check_bad h).1]; decide)]
theorem findI_at {c : Int} {l : List Int} {i : Nat} (hn : l.Nodup) (hi : l[i]? = some c) : findI c l = some i := by
  obtain ⟨hl, e⟩ := List.getElem?_eq_some_iff.1 hi
  have hs : l = l.take i ++ c :: l.drop (i + 1) := by rw [← e, ← List.drop_eq_getElem_cons hl, List.take_append_drop]
  rw [hs] at hn
  have hc : c ∉ l.take i := fun hm => (List.nodup_append.1 hn).2.2 c hm c (by simp) rfl
  conv => lhs; rw [hs]
  rw [findI_some hc, List.length_take, Nat.min_eq_left (Nat.le_of_lt hl)]
theorem split_at {α : Type} {l : List α} {z : Nat} {r : α} (hz : l[z]? = some r) : l = l.take z ++ r :: l.drop (z + 1) := by
  obtain ⟨hl, e⟩ := List.getElem?_eq_some_iff.1 hz
  rw [← e, ← List.drop_eq_getElem_cons hl, List.take_append_drop]
theorem where_at {s : St} (h : MayBe s) {z i : Nat} {r : List Int} {c : Int} (hz : s.zones[z]? = some r) (hi : r[i]? = some c) : whereO s c = some (z, i) := by
  rw [whereO, if_pos (by rw [check_ok h])]
  have hn := h.good.1
  have hs := split_at hz
  have hzl := (List.getElem?_eq_some_iff.1 hz).1
  rw [hs, List.flatten_append, List.flatten_cons] at hn
  obtain ⟨_, h2, h3⟩ := List.nodup_append.1 hn
  obtain ⟨h4, _, _⟩ := List.nodup_append.1 h2
  conv => lhs; rw [hs]
  rw [findR_some (fun r' hr' hc => h3 c (List.mem_flatten.2 ⟨r', hr', hc⟩) c (List.mem_append.2 (.inl (List.mem_of_getElem? hi))) rfl) (findI_at h4 hi), List.length_take, Nat.min_eq_left (Nat.le_of_lt hzl)]
/-- Each card stands somewhere. -/
theorem stands {s : St} (h : MayBe s) {c : Int} (h0 : 0 ≤ c) (h1 : c < (s.cards.length : Int)) : ∃ (z i : Nat) (r : List Int), s.zones[z]? = some r ∧ r[i]? = some c := by
  have := (h.good.full.2.1 h.full) c.toNat (by omega)
  rw [Int.toNat_of_nonneg h0] at this
  obtain ⟨r, hr, hc⟩ := List.mem_flatten.1 this
  obtain ⟨z, hz⟩ := List.mem_iff_getElem?.1 hr
  obtain ⟨i, hi⟩ := List.mem_iff_getElem?.1 hc
  exact ⟨z, i, r, hz, hi⟩
/-- One row is another one. -/
def rowS (s : St) (z : Nat) (r : List Int) : St := { s with zones := s.zones.set z r }
theorem perm_set {l : List (List Int)} {z : Nat} {r : List Int} (hz : l[z]? = some r) (r2 : List Int) : ∃ rest : List Int, l.flatten.Perm (r ++ rest) ∧ (l.set z r2).flatten.Perm (r2 ++ rest) := by
  have hs := split_at hz
  have hzl := (List.getElem?_eq_some_iff.1 hz).1
  have hset : l.set z r2 = l.take z ++ r2 :: l.drop (z + 1) := by rw [List.set_eq_take_append_cons_drop, if_pos hzl]
  refine ⟨(l.take z).flatten ++ (l.drop (z + 1)).flatten, ?_, ?_⟩
  · conv => lhs; rw [hs]
    rw [List.flatten_append, List.flatten_cons]
    exact List.perm_append_comm_assoc _ _ _
  · rw [hset, List.flatten_append, List.flatten_cons]
    exact List.perm_append_comm_assoc _ _ _
theorem rowS_length {s : St} {z : Nat} {r : List Int} (hz : s.zones[z]? = some r) (r2 : List Int) : (rowS s z r2).zones.flatten.length + r.length = s.zones.flatten.length + r2.length := by
  obtain ⟨rest, h1, h2⟩ := perm_set hz r2
  have e1 := h1.length_eq
  have e2 : (rowS s z r2).zones.flatten.length = (r2 ++ rest).length := h2.length_eq
  simp only [List.length_append] at e1 e2
  omega
theorem not_may {t : St} (h : t.zones.flatten.length ≠ t.cards.length) : (checkP t).1 = 10 := (check_bad fun hm => h hm.full).1
theorem may_perm {s t : St} (h : MayBe s) (hp : t.players = s.players) (hc : t.cards = s.cards) (hl : t.zones.length = s.zones.length) (hf : t.zones.flatten.Perm s.zones.flatten) (h1 : t.turn = s.turn) (h2 : t.whose = s.whose) (h3 : t.fin = s.fin) (h4 : t.winner = s.winner) : MayBe t := by
  refine ⟨?_, by rw [hp]; exact h.pl, by rw [hc, hp]; exact h.cd, ⟨hf.nodup_iff.2 h.good.1, fun x hx => by rw [hc]; exact h.good.2 x (hf.mem_iff.1 hx)⟩, by rw [hf.length_eq, hc]; exact h.full, ?_, ?_, ?_, ?_⟩
  · have := h.head; unfold headB at *; rw [hp, hc, hl]; exact this
  · have := h.turn; unfold turnB at *; rw [h1]; exact this
  · have := h.whose; unfold whoseB at *; rw [h2, hp]; exact this
  · have := h.fin; unfold endB at *; rw [h3]; exact this
  · have := h.win; unfold winB at *; rw [h3, h4, hp]; exact this
/-- A number put into a row. -/
def putR (r : List Int) (at_ : Nat) (c : Int) : List Int := r.take at_ ++ c :: r.drop at_
/-- A row without one of its places. -/
def goneR (r : List Int) (i : Nat) : List Int := r.take i ++ r.drop (i + 1)
theorem putR_length (r : List Int) (at_ : Nat) (c : Int) : (putR r at_ c).length = r.length + 1 := by
  simp [putR]; omega
theorem goneR_length {r : List Int} {i : Nat} (h : i < r.length) : (goneR r i).length + 1 = r.length := by
  simp [goneR]; omega
theorem putR_perm (r : List Int) (at_ : Nat) (c : Int) : (putR r at_ c).Perm (c :: r) := by
  unfold putR
  have := List.perm_middle (a := c) (l₁ := r.take at_) (l₂ := r.drop at_)
  rwa [List.take_append_drop] at this
theorem goneR_perm {r : List Int} {i : Nat} {c : Int} (h : r[i]? = some c) : r.Perm (c :: goneR r i) := by
  conv => lhs; rw [split_at h]
  exact List.perm_middle
/-- Only put: it may not be. -/
theorem twice_not {s : St} (h : MayBe s) {z : Nat} {r : List Int} (hz : s.zones[z]? = some r) (at_ : Nat) (c : Int) : (checkP (rowS s z (putR r at_ c))).1 = 10 := by
  refine not_may ?_
  have := rowS_length hz (putR r at_ c)
  rw [putR_length] at this
  have := h.full
  show (rowS s z (putR r at_ c)).zones.flatten.length ≠ s.cards.length
  omega
/-- Only taken: it may not be. -/
theorem gone_not {s : St} (h : MayBe s) {z i : Nat} {r : List Int} (hz : s.zones[z]? = some r) (hi : i < r.length) : (checkP (rowS s z (goneR r i))).1 = 10 := by
  refine not_may ?_
  have := rowS_length hz (goneR r i)
  have := goneR_length hi
  have := h.full
  show (rowS s z (goneR r i)).zones.flatten.length ≠ s.cards.length
  omega
/-- Taken and put: it may be. -/
theorem moved_may {s : St} (h : MayBe s) {z i y at_ : Nat} {r q : List Int} {c : Int} (hz : s.zones[z]? = some r) (hi : r[i]? = some c) (hy : (rowS s z (goneR r i)).zones[y]? = some q) : (checkP (rowS (rowS s z (goneR r i)) y (putR q at_ c))).1 = 0 := by
  rw [check_ok]
  obtain ⟨rest, h1, h2⟩ := perm_set hz (goneR r i)
  obtain ⟨rest', h3, h4⟩ := perm_set hy (putR q at_ c)
  refine may_perm h rfl rfl (by simp [rowS]) ?_ rfl rfl rfl rfl
  refine h4.trans ?_
  refine ((putR_perm q at_ c).append_right rest').trans ?_
  rw [List.cons_append]
  refine (h3.symm.cons c).trans ?_
  show (c :: (s.zones.set z (goneR r i)).flatten).Perm _
  refine (h2.cons c).trans ?_
  rw [← List.cons_append]
  exact ((goneR_perm hi).symm.append_right rest).trans h1.symm
/-- A number counted round. -/
def roundP (n m : Int) : Int := if n.tmod m < 0 then n.tmod m + m else n.tmod m
theorem roundP_in {n m : Int} (h : 0 < m) : 0 ≤ roundP n m ∧ roundP n m < m := by
  have h1 := Int.tmod_lt_of_pos n h
  have h2 := Int.lt_tmod_of_pos n h
  unfold roundP
  split <;> omega
end Go.Proofs.YtgbikcliembkcaaDoor
