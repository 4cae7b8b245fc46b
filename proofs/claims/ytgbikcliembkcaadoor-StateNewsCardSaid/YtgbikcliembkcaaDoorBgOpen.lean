/-
  A deal that comes in, opened. Conditions: none.
-/
import Derived.Test.YtgbikcliembkcaaDoorStOpen
import Derived.Test.YtgbikcliembkcaaDoorSb
namespace Go.Proofs.YtgbikcliembkcaaDoor
open Go.Joins Go.ChangeShapes Go.WideShapes Go.ChangeAt Go.RowKit Go.Deep
section
variable {H : Type} {enc : TypeId × Value → H} {W : World}
set_option maxRecDepth 100000 in
/-- A list of decks, read out of one cell. -/
theorem trod_decks {v : Value} {x : DataW H × List MemPlace} {n : Nat} (h : DataW.trod enc Tryd.prog W 0 (fun _ => true) true n 22 [v] = some x) (hlt : ∀ y ∈ x.2, y.block < W.heap.size) (hw : Light Tryd.prog 22 x.1) :
    ∃ (A : Option Addr) (decks : List (List Cd)) (cap : Nat), v = .slice A decks.length cap ∧ DecksLie W W.heap.size A decks ∧ DealBig decks := by
  rcases open_slice Tryd.underlying22 h with ⟨hcs, rfl⟩ | ⟨a, len, cap, m, n', D, Pl, hcs, _, hl, hm, hmm, rfl, hel⟩
  · obtain rfl : v = .slice none 0 0 := by simpa using hcs
    exact ⟨none, [], 0, rfl, fun i d h => by simp at h, ⟨by simp, by simp⟩⟩
  · obtain rfl : v = .slice (some a) len cap := by simpa using hcs
    simp only [if_true] at hmm
    subst hmm
    have hce : Tryd.prog.cellsOf 26 = 1 := by kernel_rfl
    rw [hce] at hel
    simp only [Nat.mul_one] at hel
    have hq : ∀ i, i < len → ∃ r : List Cd, (∃ Ai ci, W.cell? (a.add i) = some (.slice Ai r.length ci) ∧ CdLies W W.heap.size Ai r) ∧ r.length ≤ 1000000000000000 := fun i hi' => by
      obtain ⟨cs', h1, h2⟩ := hel i (by omega)
      obtain ⟨_, h3, h4⟩ := World.cells?_some h1
      obtain ⟨u, rfl⟩ := List.length_eq_one_iff.1 h3
      obtain ⟨Ai, xs, ci, rfl, l, _, _, b⟩ := trod_cards h2 (fun y hy => hlt y (List.mem_append.2 (.inr (List.mem_flatMap.2 ⟨i, List.mem_range.2 (by omega), hy⟩)))) (hw.elem Tryd.underlying22 (List.mem_map.2 ⟨i, List.mem_range.2 hi', rfl⟩))
      have h5 := h4 0 (by omega)
      exact ⟨xs, ⟨Ai, ci, by simpa [Addr.add] using h5, l⟩, b⟩
    obtain ⟨C, hCs⟩ := choose_lt hq
    have hby := hw.size Tryd.underlying22
    rw [show Tryd.prog.bytesOf 26 = 24 by kernel_rfl] at hby
    simp only [reachBytes, List.length_map, List.length_range] at hby
    refine ⟨some a, (List.range len).map C, m, by simp, ?_, ⟨by simp; omega, ?_⟩⟩
    · intro i r hr
      have hli : i < len := by
        rcases Nat.lt_or_ge i len with h | h
        · exact h
        · rw [List.getElem?_eq_none (by simp; omega)] at hr; cases hr
      obtain rfl : C i = r := by simpa [List.getElem?_map, List.getElem?_range hli] using hr
      obtain ⟨⟨Ai, ci, h5, l⟩, _⟩ := hCs i hli
      obtain ⟨b, off, spot⟩ := a
      have hspot : spot = none := by
        obtain ⟨⟨_, _, h6, _⟩, _⟩ := hCs 0 (by omega)
        simpa [Addr.add] using World.cell?_spot h6
      subst hspot
      rw [add_plain] at h5
      exact ⟨b, off, Ai, ci, rfl, hlt (.cell b off) (List.mem_append.2 (.inl (by rw [hce]; exact MemPlace.mem_row.2 ⟨0, by omega, by simp⟩))), h5, l⟩
    · intro r hr
      obtain ⟨i, hi', rfl⟩ := List.mem_map.1 hr
      exact (hCs i (List.mem_range.1 hi')).2
set_option maxRecDepth 100000 in
/-- A deal that comes in. -/
theorem open_deal {base : Nat} {v : Value} {d : DataW H} {p : List MemPlace} (hval : Value.okWide Tryd.prog W .any base 24 v) (h : DataW.Trod enc Tryd.prog W 0 (fun _ => true) true 24 v d p) (hlt : ∀ x ∈ p, x.block < W.heap.size) (hw : Light Tryd.prog 24 d) :
    ∃ (decks : List (List Cd)) (A : Option Addr) (cap : Nat) (life energy : Int), v = .agg #[.slice A decks.length cap, .int .i32 life, .int .i32 energy] ∧ DecksLie W W.heap.size A decks ∧ DealBig decks ∧ (Lit.int .i32 life).wf = true ∧ (Lit.int .i32 energy).wf = true := by
  obtain ⟨v0, v1, v2, y0, y1, y2, n, rfl, rfl, rfl, h0, h1, h2⟩ := open_agg3 Tryd.underlying24 (by kernel_rfl) (by kernel_rfl) hval h
  obtain ⟨A, decks, cap, rfl, l, b⟩ := trod_decks h0 (fun x hx => hlt x (by simp [hx])) (hw.field Tryd.underlying24 (j := 0) rfl rfl)
  obtain ⟨z1, c1, _, w1⟩ := DataW.trod_int Tryd.underlying21 h1
  obtain ⟨z2, c2, _, w2⟩ := DataW.trod_int Tryd.underlying21 h2
  obtain rfl := (List.cons.inj c1).1
  obtain rfl := (List.cons.inj c2).1
  exact ⟨decks, A, cap, z1, z2, rfl, l, b, w1, w2⟩
end
end Go.Proofs.YtgbikcliembkcaaDoor
