/-
  How a game begins: the plain law of StateBegins; decks of the call's own. Conditions: none.
-/
import Derived.Test.YtgbikcliembkcaaDoorNwB
import Derived.Test.YtgbikcliembkcaaDoorStandP
namespace Go.Proofs.YtgbikcliembkcaaDoor
open Go.RowKit
/-- Lengths added, no further than the bound. -/
def sumTo : Nat → List Nat → Nat
  | n, [] => n
  | n, x :: l => if n ≤ 16777216 then sumTo (n + x) l else n
theorem sumTo_small : ∀ (l : List Nat) (n : Nat), sumTo n l ≤ 16777216 → sumTo n l = n + l.sum
  | [], n, _ => by simp [sumTo]
  | x :: l, n, h => by
    unfold sumTo at h ⊢
    by_cases hn : n ≤ 16777216
    · rw [if_pos hn] at h ⊢
      rw [sumTo_small l _ h, List.sum_cons]; omega
    · rw [if_neg hn] at h; omega
theorem sumTo_le (l : List Nat) (hl : ∀ x ∈ l, x ≤ 1000000000000000) : ∀ n, n ≤ 2000000000000000 → sumTo n l ≤ 2000000000000000 := by
  induction l with
  | nil => intro n h; simpa [sumTo] using h
  | cons x l ih =>
    intro n h
    unfold sumTo
    split
    · exact ih (fun y hy => hl y (by simp [hy])) _ (by have := hl x (by simp); omega)
    · exact h
theorem split_take {α : Type} {l : List α} {z : Nat} {r : α} (hz : l[z]? = some r) : l = l.take z ++ r :: l.drop (z + 1) := split_at hz
theorem newCards_at {decks : List (List Cd)} {p j : Nat} {d : List Cd} {c : Cd} (hp : decks[p]? = some d) (hj : d[j]? = some c) : (newCards 0 decks)[(decks.take p).flatten.length + j]? = some (ownedBy p c) := by
  have hjl := (List.getElem?_eq_some_iff.1 hj).1
  have hpl := (List.getElem?_eq_some_iff.1 hp).1
  have e : newCards 0 decks = newCards 0 (decks.take p) ++ newCards p (d :: decks.drop (p + 1)) := by
    conv => lhs; rw [split_at hp]
    rw [newCards_append, List.length_take, Nat.min_eq_left (Nat.le_of_lt hpl), Nat.zero_add]
  rw [e, newCards, List.getElem?_append_right (by rw [newCards_length]; omega), newCards_length, Nat.add_sub_cancel_left, List.getElem?_append_left (by simpa using hjl), List.getElem?_map, hj]
  rfl
theorem newZones_at {decks : List (List Cd)} {p : Nat} {d : List Cd} (hp : decks[p]? = some d) : (newZones 0 decks)[4 * p]? = some (rangeI (decks.take p).flatten.length d.length) := by
  have hpl := (List.getElem?_eq_some_iff.1 hp).1
  conv => lhs; rw [split_at hp]
  rw [newZones_append, newZones, List.getElem?_append_right (by rw [newZones_length, List.length_take]; omega), newZones_length, List.length_take, Nat.min_eq_left (Nat.le_of_lt hpl), Nat.sub_self, Nat.zero_add]
  rfl
theorem rangeI_at {k m j : Nat} (h : j < m) : (rangeI k m)[j]? = some ((k + j : Nat) : Int) := by
  simp [rangeI, h]
/-- Where the i-th card of all comes from. -/
theorem deck_of {α : Type} : ∀ (decks : List (List α)) (i : Nat), i < decks.flatten.length → ∃ (p j : Nat) (d : List α), decks[p]? = some d ∧ j < d.length ∧ i = (decks.take p).flatten.length + j
  | [], i, h => by simp at h
  | d :: l, i, h => by
    by_cases hi : i < d.length
    · exact ⟨0, i, d, rfl, hi, by simp⟩
    · rw [List.flatten_cons, List.length_append] at h
      obtain ⟨p, j, d', h1, h2, h3⟩ := deck_of l (i - d.length) (by omega)
      exact ⟨p + 1, j, d', h1, h2, by rw [List.take_succ_cons, List.flatten_cons, List.length_append]; omega⟩
theorem newZones_flat : ∀ (l : List (List Cd)) (k : Nat), (newZones k l).flatten = rangeI k l.flatten.length
  | [], k => by simp [newZones, rangeI]
  | d :: l, k => by
    rw [newZones]
    simp only [List.flatten_cons, List.nil_append, newZones_flat l, List.length_append]
    unfold rangeI
    rw [List.range_add, List.map_append, List.map_map]
    congr 1
    apply List.map_congr_left
    intro i _
    simp; omega
theorem rangeI_good (m : Nat) : AllGood m (rangeI 0 m) := by
  refine ⟨?_, fun x hx => ?_⟩
  · unfold rangeI
    refine List.Pairwise.map _ (fun a b h => ?_) List.nodup_range
    intro e
    apply h
    have : (a : Int) = (b : Int) := by simpa using e
    exact Int.ofNat.inj this
  · unfold rangeI at hx
    obtain ⟨i, hi, rfl⟩ := List.mem_map.1 hx
    have := List.mem_range.1 hi
    simp; omega
/-- What New answers may be. -/
theorem begins_may {decks : List (List Cd)} {life energy : Int} (h : newOk decks life energy = true) : MayBe (newS decks life energy) := by
  simp only [newOk, Bool.and_eq_true, decide_eq_true_eq, List.all_eq_true] at h
  obtain ⟨⟨⟨⟨⟨⟨h1, h2⟩, h3⟩, h4⟩, h5⟩, h6⟩, h7⟩ := h
  have hl := newCards_length decks 0
  have hz := newZones_length decks 0
  have hf := newZones_flat decks 0
  refine ⟨?_, ?_, ?_, ?_, ?_, ?_, ?_, ?_, ?_⟩
  · rw [head_iff]; simp only [newS, List.length_replicate]; omega
  · intro a ha
    simp only [newS] at ha
    obtain rfl := (List.mem_replicate.1 ha).2
    simp [plB, h3, h4]
  · intro a ha
    simp only [newS, List.length_replicate] at ha ⊢
    exact h7 a ha
  · simp only [newS]; rw [hf, hl]; exact rangeI_good _
  · simp only [newS]; rw [hf, rangeI_length, hl]
  · rfl
  · simp [whoseB, newS]; omega
  · rfl
  · rfl
/-- Each card is in its owner's deck. -/
theorem begins_where {decks : List (List Cd)} {life energy : Int} (h : newOk decks life energy = true) (i : Nat) (hi : i < (newCards 0 decks).length) : ∃ (c : Cd) (z j : Nat), (newS decks life energy).cards[i]? = some c ∧ whereO (newS decks life energy) (i : Int) = some (z, j) ∧ (z : Int) = 4 * c.owner ∧ 0 ≤ c.owner ∧ c.owner ≤ 4 := by
  have hm := begins_may h
  rw [newCards_length] at hi
  obtain ⟨p, j, d, hp, hj, rfl⟩ := deck_of decks i hi
  have hd := head_iff _ |>.1 hm.head
  have hpl := (List.getElem?_eq_some_iff.1 hp).1
  simp only [newS, List.length_replicate] at hd
  refine ⟨ownedBy p d[j], 4 * p, j, newCards_at hp (List.getElem?_eq_getElem hj), where_at hm (newZones_at hp) (rangeI_at hj), by simp [ownedBy], by simp [ownedBy], by simp [ownedBy]; omega⟩
/-- Decks of the call's own, in a row of its own. -/
structure DecksOwn (w : World) (base : Nat) (v : Value) (decks : List (List Cd)) (cells : List Value) : Prop where
  own : w.ownsRow base 26 1 v decks.length cells
  row : ∀ (i : Nat) (r : List Cd), decks[i]? = some r → ∃ (Ai : Option Addr) (ci : Nat), cells[i]? = some (.slice Ai r.length ci) ∧ w.ownsRow base 68 6 (.slice Ai r.length ci) r.length (flat Cd.cells r)
theorem DecksOwn.nil (w : World) (base : Nat) : DecksOwn w base (.slice none 0 0) [] [] := ⟨World.ownsRow_nil _ _ _ _, fun i r h => by simp at h⟩
theorem DecksOwn.lie {w : World} {base : Nat} {A : Option Addr} {cap : Nat} {decks : List (List Cd)} {cells : List Value} (h : DecksOwn w base (.slice A decks.length cap) decks cells) : DecksLie w w.heap.size A decks := fun i r hi => by
  obtain ⟨Ai, ci, hc, ho⟩ := h.row i r hi
  obtain ⟨g, off, e, hg, h1⟩ := own_lies_n h.own i _ hc
  exact ⟨g, off, Ai, ci, e, hg, h1, Lies.flies (fun _ => rfl) (by decide) (own_lies_n ho)⟩
theorem DecksOwn.keeps {S : Nat → Prop} {w w' : World} {B : Nat} {v : Value} {decks : List (List Cd)} {cells : List Value} (h : DecksOwn w B v decks cells) (hk : Keeps S w w') (hS : ∀ b, B ≤ b → ¬ S b) : DecksOwn w' B v decks cells :=
  ⟨own_keepsS h.own hk fun b hb => hS b (h.own.lt b hb).1, fun i r hi => by
    obtain ⟨Ai, ci, hc, ho⟩ := h.row i r hi
    exact ⟨Ai, ci, hc, own_keepsS ho hk fun b hb => hS b (ho.lt b hb).1⟩⟩
theorem DecksOwn.push {w w' : World} {B c2 : Nat} {v : Value} {A2 : Option Addr} {decks : List (List Cd)} {cells : List Value} {x : List Cd} {A1 : Option Addr} {c1 : Nat} (h : DecksOwn w B v decks cells) (ho : w.ownsRow B 68 6 (.slice A1 x.length c1) x.length (flat Cd.cells x))
    (hg : w.grownBy w' v.ownBlock) (hown : w'.ownsRow B 26 1 (.slice A2 (decks.length + 1) c2) (decks.length + 1) (cells ++ [.slice A1 x.length c1])) : DecksOwn w' B (.slice A2 (decks ++ [x]).length c2) (decks ++ [x]) (cells ++ [.slice A1 x.length c1]) := by
  have hcl : cells.length = decks.length := by rw [h.own.1, Nat.mul_one]
  have hkept : ∀ {v' : Value} {n : Nat} {ys : List Value}, w.ownsRow B 68 6 v' n ys → w'.ownsRow B 68 6 v' n ys := fun {v'} {n} {ys} h' => h'.kept hg (by
    rcases h'.2 with ⟨rfl, _⟩ | ⟨g, _, cur, rfl, _, hb, _⟩
    · exact .inl rfl
    · refine .inr fun e => ?_
      rcases h.own.2 with ⟨rfl, _⟩ | ⟨g', _, cur', rfl, _, hb', _⟩
      · cases e
      · simp only [Value.ownBlock, Option.some.injEq] at e
        subst e
        rw [hb] at hb'
        injection hb' with hb'
        injection hb' with _ hb' _
        exact absurd hb' (by decide))
  refine ⟨by rw [List.length_append]; exact hown, fun i r hi => ?_⟩
  rw [List.getElem?_append] at hi
  split at hi
  · rename_i hlt
    obtain ⟨Ai, ci, hc, ho'⟩ := h.row i r hi
    exact ⟨Ai, ci, by rw [List.getElem?_append_left (by omega)]; exact hc, hkept ho'⟩
  · rename_i hge
    have h0 : i - decks.length = 0 := by
      rcases Nat.eq_zero_or_pos (i - decks.length) with h | h
      · exact h
      · rw [List.getElem?_eq_none (by simp; omega)] at hi; cases hi
    rw [h0] at hi
    obtain rfl : x = r := by simpa using hi
    exact ⟨A1, c1, by rw [List.getElem?_append_right (by omega), hcl, h0]; rfl, hkept ho⟩
end Go.Proofs.YtgbikcliembkcaaDoor
