/-
  The law DiceWalks: at every input. Conditions: none.
-/
import Derived.Test.YtalngbdjabjahaaDiceW
namespace Go.Proofs.Ytalngbdjabjahaa
open Go.RowKit Go.Shelf
attribute [local go_sem] Oper.semAt_some

set_option maxRecDepth 100000 in
set_option maxHeartbeats 1000000 in
theorem diceWalks_no (s a b : Int) (h : (a < 0) ∨ (0 ≤ a ∧ 200 < a) ∨ (0 ≤ a ∧ a ≤ 200 ∧ b < 0) ∨ (0 ≤ a ∧ a ≤ 200 ∧ 0 ≤ b ∧ 200 < b)) (w : World) :
    Calls Try.prog 7 #[.int .u64 s, .int .i64 a, .int .i64 b] w fun e w' => e = .returned (.bool true) ∧ Below w.heap.size w w' := by
  refine (callsIn_wide (n := 30)).1 ?_
  refine callsIn_of_wp_marks Try.func7 rfl trivial ?_ rfl
  simp only [Try.ntmps7, List.size_toArray, List.length_cons, List.length_nil, Nat.reduceAdd, Nat.reduceSub, Array.replicate_succ, Array.replicate_zero, List.push_toArray, List.append_toArray, List.nil_append, List.cons_append]
  have hw := (Whole.made ((w.alloc (.cells #[.int .i64 a] 3)).alloc (.cells #[.int .i64 b] 3)) 4 #[.bool false])
  simp only [World.size_alloc] at hw
  have HW := Lib.hid hw
  have hB : Below w.heap.size w (((w.alloc (.cells #[.int .i64 a] 3)).alloc (.cells #[.int .i64 b] 3)).alloc (.cells #[.bool false] 4)) := (((Below.refl _ w).alloc (Nat.le_refl _) _).alloc (by simp) _).alloc (by simp; omega) _
  have HB := Lib.hid hB
  clear hw hB
  rcases h with h1 | ⟨h1, h2⟩ | ⟨h1, h2, h3⟩ | ⟨h1, h2, h3, h4⟩
  all_goals
    gi_wp2_with fail
    refine ⟨trivial, (callsIn_wide.2 (lives_any _)).mono ?_⟩
    rintro e w1 ⟨rfl, hb1⟩
    have hw1 := HW.out.past hb1
    have hc : w1.cell? ⟨w.heap.size + 1 + 1, 0, none⟩ = some (.bool false) := hw1.cellAt 0
    have hf : w1.frozen? ⟨w.heap.size + 1 + 1, 0, none⟩ = false := hw1.free 0
    have HB1 := Lib.hid (belowThen' HB.out hb1)
    clear hb1 hw1 HW HB
    gi_wp2_with fail
    have hr := World.cell?_setCell_same' w1 ⟨w.heap.size + 1 + 1, 0, none⟩ (.bool true) (by rw [hc]; rfl)
    refine ⟨.bool true, ?_, rfl, HB1.out.setCell (p := ⟨w.heap.size + 1 + 1, 0, none⟩) (Nat.le_trans (Nat.le_succ _) (Nat.le_succ _)) _⟩
    simp [results, Try.f7, go_sem, hr]
theorem diceWalks_any (s a b : Int) (hs : 0 ≤ s ∧ s ≤ 18446744073709551615) (w : World) :
    Calls Try.prog 7 #[.int .u64 s, .int .i64 a, .int .i64 b] w fun e w' => e = .returned (.bool true) ∧ Below w.heap.size w w' := by
  by_cases h : 0 ≤ a ∧ a ≤ 200 ∧ 0 ≤ b ∧ b ≤ 200
  · obtain ⟨z, rfl⟩ := Int.eq_ofNat_of_zero_le hs.1
    obtain ⟨f1, rfl⟩ := Int.eq_ofNat_of_zero_le h.1
    obtain ⟨f2, rfl⟩ := Int.eq_ofNat_of_zero_le h.2.2.1
    exact diceWalks_in z f1 f2 (by omega) (by omega) w
  · exact diceWalks_no s a b (by omega) w
end Go.Proofs.Ytalngbdjabjahaa
