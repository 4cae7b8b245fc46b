/-
  Copies of lists of numbers, players, cards: the walks. Conditions: lengths within 10 ^ 9.
-/
import Derived.Test.YthmfbcfbcookiaaDoorFCards
import Derived.Test.YthmfbcfbcookiaaDoorFPlayers
import Derived.Test.YthmfbcfbcookiaaDoorAppendN
namespace Go.Proofs.YthmfbcfbcookiaaDoor
open Go.RowKit
theorem FLies.lies {α : Type} {f : α → List Value} {k : Nat} {w : World} {B : Nat} {A : Option Addr} {xs : List α} (hf : ∀ a, (f a).length = k) (hk : 0 < k) (h : FLies f k w B A xs) : Lies w B A (flat f xs) := fun j u hu => by
  have hj : j < xs.length * k := by rw [← flat_length hf]; exact (List.getElem?_eq_some_iff.1 hu).1
  have hi : j / k < xs.length := Nat.div_lt_of_lt_mul (by rw [Nat.mul_comm]; exact hj)
  obtain ⟨g, off, e, hg, hc⟩ := h (j / k) _ (List.getElem?_eq_getElem hi)
  have hm := Nat.mod_lt j hk
  have e1 := flat_get hf xs (j / k) _ (List.getElem?_eq_getElem hi) (j % k) hm
  have e2 : j / k * k + j % k = j := by rw [Nat.mul_comm]; exact Nat.div_add_mod j k
  rw [e2, hu] at e1
  have e3 := hc (j % k) hm
  rw [Nat.add_assoc, e2, ← e1] at e3
  exact ⟨g, off, e, hg, e3⟩
theorem Lies.flies {α : Type} {f : α → List Value} {k : Nat} {w : World} {B : Nat} {A : Option Addr} {xs : List α} (hf : ∀ a, (f a).length = k) (hk : 0 < k) (h : Lies w B A (flat f xs)) : FLies f k w B A xs := fun i c hi => by
  have hg := fun j hj => flat_get hf xs i c hi j hj
  have h0 := hg 0 hk
  obtain ⟨u, hu⟩ : ∃ u, (f c)[0]? = some u := ⟨_, List.getElem?_eq_getElem (by rw [hf]; exact hk)⟩
  obtain ⟨g, off, e, hb, _⟩ := h (i * k + 0) u (h0.trans hu)
  refine ⟨g, off, e, hb, fun j hj => ?_⟩
  obtain ⟨v, hv⟩ : ∃ v, (f c)[j]? = some v := ⟨_, List.getElem?_eq_getElem (by rw [hf]; exact hj)⟩
  obtain ⟨g', off', e', _, hc⟩ := h (i * k + j) v ((hg j hj).trans hv)
  rw [e] at e'
  injection e' with e'
  injection e' with e1 e2
  subst e1 e2
  rw [Nat.add_assoc, hc, hv]
theorem own_lies_n {w : World} {base n size cap : Nat} {e : TypeId} {xs : List Value} {A : Option Addr} (h : w.ownsRow base e size (.slice A n cap) n xs) : Lies w w.heap.size A xs := by
  intro k u hu
  have hk : k < n * size := by rw [← h.1]; exact (List.getElem?_eq_some_iff.1 hu).1
  rcases h.2 with ⟨_, h0⟩ | ⟨g, cap', cur, hv, _, hh, _⟩
  · subst h0; simp at hk
  · injection hv with hA _ _
    subst hA
    refine ⟨g, 0, rfl, (Array.getElem?_eq_some_iff.1 hh).1, ?_⟩
    rw [Nat.zero_add, h.cellAt k hk, hu]
theorem cells_one_pl (xs : List Pl) : ∀ u ∈ flat Pl.cells xs, u.oneCell' = true := fun u hu => by
  obtain ⟨c, _, h⟩ := List.mem_flatMap.1 hu
  simp only [Pl.cells, List.mem_cons, List.not_mem_nil, or_false] at h
  rcases h with rfl | rfl | rfl <;> rfl
theorem cells_one_cd (xs : List Cd) : ∀ u ∈ flat Cd.cells xs, u.oneCell' = true := fun u hu => by
  obtain ⟨c, _, h⟩ := List.mem_flatMap.1 hu
  simp only [Cd.cells, List.mem_cons, List.not_mem_nil, or_false] at h
  rcases h with rfl | rfl | rfl | rfl | rfl | rfl <;> rfl
theorem cells_one_int (xs : List Int) : ∀ u ∈ xs.map (Value.int .i64), u.oneCell' = true := fun u hu => by
  obtain ⟨c, _, rfl⟩ := List.mem_map.1 hu; rfl
end Go.Proofs.YthmfbcfbcookiaaDoor
