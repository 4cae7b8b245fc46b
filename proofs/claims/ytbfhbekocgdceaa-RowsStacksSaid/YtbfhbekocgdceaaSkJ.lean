/-
  rows.Stack of int: Do, and where the new row's block lies: the walk. Conditions: lengths within 10 ^ 9.
-/
import Derived.Test.YtbfhbekocgdceaaSkI
import Derived.Deep.RegionLaw
import Derived.BigQuiet
namespace Go.Proofs.Ytbfhbekocgdceaa
open Go.RowKit
set_option maxRecDepth 100000 in
set_option maxHeartbeats 2000000 in
theorem doI_at (p c done : Nat) (most x : Int) (A : Option Addr) (l : List Int) (w : World) (h : StackI w p A c l done most) (hd : done < 1000000000) (hne : (done : Int) ≠ most) :
    Calls Try.prog 45 #[.pointer (some ⟨p, 0, none⟩), .int .i64 x] w fun e w' => e = .returned (.bool true) ∧ ∃ A' c', StackI w' p A' c' (l.take done ++ [x]) (done + 1) most ∧ Keeps (fun b => b = p ∨ (Value.slice A l.length c).ownBlock = some b) w w' ∧ ∀ b, (Value.slice A' (done + 1) c').ownBlock = some b → (Value.slice A l.length c).ownBlock = some b ∨ w.heap.size ≤ b := by
  obtain ⟨a0, a1, a2, a3, f0, f1, f2, f3⟩ := four h.box
  have hle := h.le
  have hp : p < w.heap.size := h.box.inside
  have HB := Lib.hid h.box
  have HE : Hid ((l.take done).map (Value.int .i64) ++ [.int .i64 x] = (l.take done ++ [x]).map (Value.int .i64)) := Lib.hid (by simp)
  have HLN : Hid ((l.take done ++ [x]).length = done + 1) := Lib.hid (by rw [List.length_append, List.length_take]; simp; omega)
  have hfit : ∀ (w4 : World) (A2 : Option Addr) (c2 : Nat), Keeps (fun b => (Value.slice A l.length c).ownBlock = some b) w w4 → w4.ownsRow (p + 1) 3 1 (.slice A2 (done + 1) c2) (done + 1) ((l.take done).map (Value.int .i64) ++ [.int .i64 x]) →
      Whole w4 p 83 #[.slice A l.length c, .int .i64 (done : Int), .int .i64 most, .bool true] ∧ StackI ((w4.setCell ⟨p, 0, none⟩ (.slice A2 (done + 1) c2)).setCell ⟨p, 1, none⟩ (.int .i64 ((done : Int) + 1))) p A2 c2 (l.take done ++ [x]) (done + 1) most ∧
        Keeps (fun b => b = p ∨ (Value.slice A l.length c).ownBlock = some b) w ((w4.setCell ⟨p, 0, none⟩ (.slice A2 (done + 1) c2)).setCell ⟨p, 1, none⟩ (.int .i64 ((done : Int) + 1))) := fun w4 A2 c2 hk ho => by
    have hnp : ¬ (Value.slice A l.length c).ownBlock = some p := fun e => by have := (h.own.lt p e).1; omega
    have hb := h.box.keeps hk hnp
    refine ⟨hb, ⟨?_, ?_, by rw [HLN.out]; exact Nat.le_refl _⟩, ((hk.mono (T := fun b => b = p ∨ (Value.slice A l.length c).ownBlock = some b) (fun _ _ e => .inr e)).setCell (p := ⟨p, 0, none⟩) (fun _ => .inl rfl) _).setCell (p := ⟨p, 1, none⟩) (fun _ => .inl rfl) _⟩
    · rw [HLN.out]
      exact (hb.put 0 _).put 1 _
    · rw [HLN.out, ← HE.out]
      exact ownsRow_setCell_below (ownsRow_setCell_below ho (show p < p + 1 by omega) _) (show p < p + 1 by omega) _
  have HFIT := Lib.hid hfit
  have HOWN := Lib.hid (own_prefix h.own h.le)
  have HN := fun w => noneI_any p true w
  have hq : ((done : Int) == most) = false := by rw [beq_eq_false_iff_ne]; exact hne
  have hlt2 : ((l.map (Value.int .i64)).take done) = (l.take done).map (Value.int .i64) := by rw [List.map_take]
  rw [hlt2] at HOWN
  have hcap : l.length ≤ c := by
    obtain ⟨_, _, e, h, _⟩ := own_slice h.own
    injection e with _ _ e
    omega
  have hdc : done ≤ c := by omega
  obtain ⟨a0, a1, a2, a3, f0, f1, f2, f3⟩ := four h.box
  have al0 : ∀ n o, ((w.drewN n).alloc o).cell? ⟨p, 0, none⟩ = some (.slice A l.length c) := fun n o => (((HB.out.drewN n).alloc o).cellAt 0)
  have al1 : ∀ n o, ((w.drewN n).alloc o).cell? ⟨p, 1, none⟩ = some (.int .i64 (done : Int)) := fun n o => (((HB.out.drewN n).alloc o).cellAt 1)
  have hA : (A = none ∧ done = 0) ∨ ∃ g, A = some ⟨g, 0, none⟩ := by
    rcases h.own.2 with ⟨hv, hn⟩ | ⟨g, cap, cur, hv, _⟩
    · injection hv with h1
      exact .inl ⟨h1, by omega⟩
    · injection hv with h1
      exact .inr ⟨g, h1⟩
  clear h hcap hfit hlt2
  rcases hA with ⟨rfl, rfl⟩ | ⟨g, rfl⟩
  · go_enter Try.func45, Try.ntmps45
    go_wp2_with fail
    go_quiet (first | (go_at_call 73; refine Calls.quiet_of_same (HN _ a3)))
    clear HN
    go_wp2_with fail
    go_region_law (refine wp_append_cells _ _ _ 44 rfl (p + 1) 3 (.int .i64 0) 1 8 Try.underlying44 info_cI rfl (by decide) (.slice none 0 c) 0 ((l.take 0).map (Value.int .i64)) rfl (HOWN.out.alloc _) (w.heap.size + 1) (some ⟨w.heap.size, 0, none⟩) 1 1 [.int .i64 x] rfl (Lies.row (t := 3) (fr := (0, 0)) (heap_alloc_new _ _) (Nat.lt_succ_self _)) rfl (cells_one_k .i64 [x]) (by simp only [maxLen]; omega) (by omega) (by show p + 1 ≤ (World.alloc _ _).heap.size; simp; omega) ?_
                   intro A2 c2 w4 own2 hg2 hor _ _
                   have HOR : Hid (∀ b, (Value.slice A2 (0 + 1) c2).ownBlock = some b → (Value.slice none l.length c).ownBlock = some b ∨ w.heap.size ≤ b) := Lib.hid (fun b hb => by
                     rcases hor with h | h
                     · exact .inl (h ▸ hb)
                     · rw [h] at hb
                       injection hb with hb
                       exact .inr (by rw [← hb]; show w.heap.size ≤ (World.alloc _ _).heap.size; simp))
                   clear hor
                   have k4 : Keeps (fun b => (Value.slice none l.length c).ownBlock = some b) w w4 := ((((Keeps.refl _ w).drewN nq).drew).alloc _).grown hg2 (fun k hk _ => hk)
                   obtain ⟨hbx, hst, hkk⟩ := HFIT.out w4 A2 c2 k4 own2
                   obtain ⟨b0, b1, b2, b3, g0, g1, g2, g3⟩ := four hbx
                   have HST := Lib.hid hst
                   have HKK := Lib.hid hkk
                   clear hst hkk k4 own2 hg2 hbx)
    all_goals (
      go_wp2_with fail
      go_ret
      exact ⟨rfl, A2, c2, HST.out, HKK.out, HOR.out⟩)
  · go_enter Try.func45, Try.ntmps45
    go_wp2_with fail
    go_quiet (first | (go_at_call 73; refine Calls.quiet_of_same (HN _ a3)))
    clear HN
    go_wp2_with fail
    go_region_law (refine wp_append_cells _ _ _ 44 rfl (p + 1) 3 (.int .i64 0) 1 8 Try.underlying44 info_cI rfl (by decide) (.slice (some ⟨g, 0, none⟩) done c) done ((l.take done).map (Value.int .i64)) rfl (HOWN.out.alloc _) (w.heap.size + 1) (some ⟨w.heap.size, 0, none⟩) 1 1 [.int .i64 x] rfl (Lies.row (t := 3) (fr := (0, 0)) (heap_alloc_new _ _) (Nat.lt_succ_self _)) rfl (cells_one_k .i64 [x]) (by simp only [maxLen]; omega) (by omega) (by show p + 1 ≤ (World.alloc _ _).heap.size; simp; omega) ?_
                   intro A2 c2 w4 own2 hg2 hor _ _
                   have HOR : Hid (∀ b, (Value.slice A2 (done + 1) c2).ownBlock = some b → (Value.slice (some ⟨g, 0, none⟩) l.length c).ownBlock = some b ∨ w.heap.size ≤ b) := Lib.hid (fun b hb => by
                     rcases hor with h | h
                     · exact .inl (h ▸ hb)
                     · rw [h] at hb
                       injection hb with hb
                       exact .inr (by rw [← hb]; show w.heap.size ≤ (World.alloc _ _).heap.size; simp))
                   clear hor
                   have k4 : Keeps (fun b => (Value.slice (some ⟨g, 0, none⟩) l.length c).ownBlock = some b) w w4 := ((((Keeps.refl _ w).drewN nq).drew).alloc _).grown hg2 (fun k hk _ => hk)
                   obtain ⟨hbx, hst, hkk⟩ := HFIT.out w4 A2 c2 k4 own2
                   obtain ⟨b0, b1, b2, b3, g0, g1, g2, g3⟩ := four hbx
                   have HST := Lib.hid hst
                   have HKK := Lib.hid hkk
                   clear hst hkk k4 own2 hg2 hbx)
    all_goals (
      go_wp2_with fail
      go_ret
      exact ⟨rfl, A2, c2, HST.out, HKK.out, HOR.out⟩)
end Go.Proofs.Ytbfhbekocgdceaa
