/-
  Copies of lists of numbers, players, cards: the walks. Conditions: lengths within 10 ^ 9.
-/
import Derived.Test.YtgbikcliembkcaaDoorFCards
import Derived.Test.YtgbikcliembkcaaDoorFPlayers
import Derived.Test.YtgbikcliembkcaaDoorAppendN
namespace Go.Proofs.YtgbikcliembkcaaDoor
open Go.RowKit
theorem FLies.lies {α : Type} {f : α → List Value} {k : Nat} {w : World} {B : Nat} {A : Option Addr} {xs : List α} (hf : ∀ a, (f a).length = k) (hk : 0 < k) (h : FLies f k w B A xs) : Lies w B A (flat f xs) := fun j u hu => by
  have hj : j < xs.length * k := by rw [← flat_length hf]; exact (List.getElem?_eq_some_iff.1 hu).1
  have hi : j / k < xs.length := Nat.div_lt_of_lt_mul (by rw [Nat.mul_comm]; exact hj)
  obtain ⟨g, off, e, hg, hc⟩ := h (j / k) _ (List.getElem?_eq_getElem hi)
  have hm := Nat.mod_lt j hk
  have e1 := flat_get hf xs (j / k) _ (List.getElem?_eq_getElem hi) (j % k) hm
  have e2 : j / k * k + j % k = j := by rw [Nat.mul_comm]; exact Nat.div_add_mod j k
  rw [e2, hu] at e1
  have e3 := hc (j % k) hm
  rw [Nat.add_assoc, e2, ← e1] at e3
  exact ⟨g, off, e, hg, e3⟩
theorem Lies.flies {α : Type} {f : α → List Value} {k : Nat} {w : World} {B : Nat} {A : Option Addr} {xs : List α} (hf : ∀ a, (f a).length = k) (hk : 0 < k) (h : Lies w B A (flat f xs)) : FLies f k w B A xs := fun i c hi => by
  have hg := fun j hj => flat_get hf xs i c hi j hj
  have h0 := hg 0 hk
  obtain ⟨u, hu⟩ : ∃ u, (f c)[0]? = some u := ⟨_, List.getElem?_eq_getElem (by rw [hf]; exact hk)⟩
  obtain ⟨g, off, e, hb, _⟩ := h (i * k + 0) u (h0.trans hu)
  refine ⟨g, off, e, hb, fun j hj => ?_⟩
  obtain ⟨v, hv⟩ : ∃ v, (f c)[j]? = some v := ⟨_, List.getElem?_eq_getElem (by rw [hf]; exact hj)⟩
  obtain ⟨g', off', e', _, hc⟩ := h (i * k + j) v ((hg j hj).trans hv)
  rw [e] at e'
  injection e' with e'
  injection e' with e1 e2
  subst e1 e2
  rw [Nat.add_assoc, hc, hv]
theorem own_lies_n {w : World} {base n size cap : Nat} {e : TypeId} {xs : List Value} {A : Option Addr} (h : w.ownsRow base e size (.slice A n cap) n xs) : Lies w w.heap.size A xs := by
  intro k u hu
  have hk : k < n * size := by rw [← h.1]; exact (List.getElem?_eq_some_iff.1 hu).1
  rcases h.2 with ⟨_, h0⟩ | ⟨g, cap', cur, hv, _, hh, _⟩
  · subst h0; simp at hk
  · injection hv with hA _ _
    subst hA
    refine ⟨g, 0, rfl, (Array.getElem?_eq_some_iff.1 hh).1, ?_⟩
    rw [Nat.zero_add, h.cellAt k hk, hu]
theorem cells_one_pl (xs : List Pl) : ∀ u ∈ flat Pl.cells xs, u.oneCell' = true := fun u hu => by
  obtain ⟨c, _, h⟩ := List.mem_flatMap.1 hu
  simp only [Pl.cells, List.mem_cons, List.not_mem_nil, or_false] at h
  rcases h with rfl | rfl | rfl <;> rfl
theorem cells_one_cd (xs : List Cd) : ∀ u ∈ flat Cd.cells xs, u.oneCell' = true := fun u hu => by
  obtain ⟨c, _, h⟩ := List.mem_flatMap.1 hu
  simp only [Cd.cells, List.mem_cons, List.not_mem_nil, or_false] at h
  rcases h with rfl | rfl | rfl | rfl | rfl | rfl <;> rfl
theorem cells_one_int (xs : List Int) : ∀ u ∈ xs.map (Value.int .i64), u.oneCell' = true := fun u hu => by
  obtain ⟨c, _, rfl⟩ := List.mem_map.1 hu; rfl
theorem copyInts_any (xs : List Int) (A : Option Addr) (cap : Nat) (w : World) (hx : Lies w w.heap.size A (xs.map (Value.int .i64))) (hl : xs.length ≤ 1000000000) :
    Calls Tryd.prog 72 #[.slice A xs.length cap] w fun e w' => ∃ A' cap', e = .returned (.slice A' xs.length cap') ∧ w'.ownsRow w.heap.size 3 1 (.slice A' xs.length cap') xs.length (xs.map (Value.int .i64)) ∧ Keeps (fun _ => False) w w' := by
  go_enter Tryd.func72, Tryd.ntmps72
  go_wp2_with (first
    | (at_builtin
       refine wpList_append_cells _ rfl _ _ 74 rfl w.heap.size 3 (.int .i64 0) 1 8 Tryd.underlying74 info_int rfl (by decide) (.slice none 0 0) 0 [] rfl (World.ownsRow_nil _ _ _ _) w.heap.size A xs.length cap (xs.map (Value.int .i64)) rfl hx (by simp) (cells_one_int xs) (by simp only [maxLen]; omega) (by omega) (Nat.le_refl _) ?_
       intro A' cap' w1 hown hg _ _ _
       simp only [Nat.zero_add, List.nil_append] at hown))
  go_ret
  exact ⟨A', cap', rfl, hown, (Keeps.refl _ w).grown hg (fun k hk => by cases hk)⟩
theorem copyPlayers_any (xs : List Pl) (A : Option Addr) (cap : Nat) (w : World) (hx : PlLies w w.heap.size A xs) (hl : xs.length ≤ 1000000000) :
    Calls Tryd.prog 62 #[.slice A xs.length cap] w fun e w' => ∃ A' cap', e = .returned (.slice A' xs.length cap') ∧ w'.ownsRow w.heap.size 72 3 (.slice A' xs.length cap') xs.length (flat Pl.cells xs) ∧ Keeps (fun _ => False) w w' := by
  go_enter Tryd.func62, Tryd.ntmps62
  go_wp2_with (first
    | (at_builtin
       refine wpList_append_cells _ rfl _ _ 28 rfl w.heap.size 72 (.agg #[.int .i32 0, .int .i32 0, .bool false]) 3 12 Tryd.underlying28 info_pl rfl (by decide) (.slice none 0 0) 0 [] rfl (World.ownsRow_nil _ _ _ _) w.heap.size A xs.length cap (flat Pl.cells xs) rfl (FLies.lies (f := Pl.cells) (fun _ => rfl) (by decide) hx) (flat_length (k := 3) (fun _ => rfl) xs) (cells_one_pl xs) (by simp only [maxLen]; omega) (by omega) (Nat.le_refl _) ?_
       intro A' cap' w1 hown hg _ _ _
       simp only [Nat.zero_add, List.nil_append] at hown))
  go_ret
  exact ⟨A', cap', rfl, hown, (Keeps.refl _ w).grown hg (fun k hk => by cases hk)⟩
theorem copyCards_any (xs : List Cd) (A : Option Addr) (cap : Nat) (w : World) (hx : CdLies w w.heap.size A xs) (hl : xs.length ≤ 1000000000) :
    Calls Tryd.prog 63 #[.slice A xs.length cap] w fun e w' => ∃ A' cap', e = .returned (.slice A' xs.length cap') ∧ w'.ownsRow w.heap.size 68 6 (.slice A' xs.length cap') xs.length (flat Cd.cells xs) ∧ Keeps (fun _ => False) w w' := by
  go_enter Tryd.func63, Tryd.ntmps63
  go_wp2_with (first
    | (at_builtin
       refine wpList_append_cells _ rfl _ _ 26 rfl w.heap.size 68 (.agg #[.int .i64 0, .int .i64 0, .int .i32 0, .int .i32 0, .int .i32 0, .int .i32 0]) 6 32 Tryd.underlying26 info_cd rfl (by decide) (.slice none 0 0) 0 [] rfl (World.ownsRow_nil _ _ _ _) w.heap.size A xs.length cap (flat Cd.cells xs) rfl (FLies.lies (f := Cd.cells) (fun _ => rfl) (by decide) hx) (flat_length (k := 6) (fun _ => rfl) xs) (cells_one_cd xs) (by simp only [maxLen]; omega) (by omega) (Nat.le_refl _) ?_
       intro A' cap' w1 hown hg _ _ _
       simp only [Nat.zero_add, List.nil_append] at hown))
  go_ret
  exact ⟨A', cap', rfl, hown, (Keeps.refl _ w).grown hg (fun k hk => by cases hk)⟩
end Go.Proofs.YtgbikcliembkcaaDoor
