/-
  rows.Stack of int8: the walks. Conditions: lengths within 10 ^ 9.
-/
import Derived.Test.YtbfhbekocgdceaaGcI

import Derived.Deep.RegionLaw
import Derived.Deep.Onto
import Derived.WalkMore
namespace Go.Proofs.Ytbfhbekocgdceaa
open Go.RowKit
theorem info_b8 : (Try.prog.info? 47).map (fun i => (i.zero, i.size, i.bytes)) = some (some (.int .i8 0), 1, 1) := by kernel_rfl
/-- The head of a row of the call's own. -/
theorem own_prefix {w : World} {base n c k : Nat} {e : TypeId} {A : Option Addr} {xs : List Value} (h : w.ownsRow base e 1 (.slice A n c) n xs) (hk : k ≤ n) : w.ownsRow base e 1 (.slice A k c) k (xs.take k) := by
  have hl := own_length h
  refine ⟨by rw [List.length_take, Nat.mul_one]; omega, ?_⟩
  rcases h.2 with ⟨h0, hn⟩ | ⟨g, cap, cur, hv, hb, hh, hc, hm, hs, ht⟩
  · obtain rfl : k = 0 := by omega
    rw [hn] at h0
    exact .inl ⟨h0, rfl⟩
  · injection hv with h1 h2 h3
    subst h1 h3
    exact .inr ⟨g, c, cur, rfl, hb, hh, by omega, hm, hs, by rw [← ht, List.take_take]; congr 1; omega⟩
theorem four {w : World} {g : Nat} {t : TypeId} {a b c d : Value} (H : Whole w g t #[a, b, c, d]) : w.cell? ⟨g, 0, none⟩ = some a ∧ w.cell? ⟨g, 1, none⟩ = some b ∧ w.cell? ⟨g, 2, none⟩ = some c ∧ w.cell? ⟨g, 3, none⟩ = some d ∧ w.frozen? ⟨g, 0, none⟩ = false ∧ w.frozen? ⟨g, 1, none⟩ = false ∧ w.frozen? ⟨g, 2, none⟩ = false ∧ w.frozen? ⟨g, 3, none⟩ = false := ⟨H.cellAt 0, H.cellAt 1, H.cellAt 2, H.cellAt 3, H.free 0, H.free 1, H.free 2, H.free 3⟩
theorem cells_one_k (q : IntKind) (l : List Int) : ∀ u ∈ l.map (Value.int q), u.oneCell' = true := fun u hu => by
  obtain ⟨z, _, rfl⟩ := List.mem_map.1 hu; rfl
/-- A stack in memory. -/
structure StackB (w : World) (p : Nat) (A : Option Addr) (c : Nat) (l : List Int) (done : Nat) (most : Int) : Prop where
  box : Whole w p 131 #[.slice A l.length c, .int .i64 (done : Int), .int .i64 most, .bool true]
  own : w.ownsRow (p + 1) 47 1 (.slice A l.length c) l.length (l.map (Value.int .i8))
  le : done ≤ l.length
theorem StackB.calm {w w' : World} {p c done : Nat} {A : Option Addr} {l : List Int} {most : Int} {S : Nat → Prop} (h : StackB w p A c l done most) (hk : Keeps S w w') (hp : ¬ S p) (hS : ∀ b, (Value.slice A l.length c).ownBlock = some b → ¬ S b) : StackB w' p A c l done most := by
  refine ⟨h.box.keeps hk hp, ⟨h.own.1, ?_⟩, h.le⟩
  rcases h.own.2 with hn | ⟨g, cap, cur, hv, hb, hh, rest⟩
  · exact .inl hn
  · exact .inr ⟨g, cap, cur, hv, hb, (hk.block g (Array.getElem?_eq_some_iff.1 hh).1 (hS g (by rw [hv]; rfl))).trans hh, rest⟩
theorem newStackB_any (most : Int) (w : World) (hm : 0 ≤ most) :
    Calls Try.prog 58 #[.int .i64 most] w fun e w' => e = .returned (.pointer (some ⟨w.heap.size, 0, none⟩)) ∧ StackB w' w.heap.size none 0 [] 0 most ∧ Keeps (fun _ => False) w w' := by
  have h0 : ¬ (most < 0) := by omega
  go_enter Try.func58, Try.ntmps58
  go_wp2_with fail
  go_ret
  exact ⟨rfl, ⟨Whole.made w _ _, World.ownsRow_nil _ _ _ _, Nat.le_refl _⟩, (Keeps.refl _ w).alloc _⟩
theorem noneB_any (p : Nat) (b : Bool) (w : World) (h3 : w.cell? ⟨p, 3, none⟩ = some (.bool b)) :
    Calls Try.prog 79 #[.pointer (some ⟨p, 0, none⟩)] w fun e w' => e = .returned (.bool (!b)) ∧ w' = w := by
  go_enter Try.func79, Try.ntmps79
  go_wp2_with fail
  go_ret
  exact ⟨rfl, rfl⟩
set_option maxRecDepth 100000 in
set_option maxHeartbeats 2000000 in
theorem doB_any (p c done : Nat) (most x : Int) (A : Option Addr) (l : List Int) (w : World) (h : StackB w p A c l done most) (hd : done < 1000000000) (hne : (done : Int) ≠ most) :
    Calls Try.prog 59 #[.pointer (some ⟨p, 0, none⟩), .int .i8 x] w fun e w' => e = .returned (.bool true) ∧ ∃ A' c', StackB w' p A' c' (l.take done ++ [x]) (done + 1) most ∧ Keeps (fun b => b = p ∨ (Value.slice A l.length c).ownBlock = some b) w w' := by
  obtain ⟨a0, a1, a2, a3, f0, f1, f2, f3⟩ := four h.box
  have hle := h.le
  have hp : p < w.heap.size := h.box.inside
  have HB := Lib.hid h.box
  have HE : Hid ((l.take done).map (Value.int .i8) ++ [.int .i8 x] = (l.take done ++ [x]).map (Value.int .i8)) := Lib.hid (by simp)
  have HLN : Hid ((l.take done ++ [x]).length = done + 1) := Lib.hid (by rw [List.length_append, List.length_take]; simp; omega)
  have hfit : ∀ (w4 : World) (A2 : Option Addr) (c2 : Nat), Keeps (fun b => (Value.slice A l.length c).ownBlock = some b) w w4 → w4.ownsRow (p + 1) 47 1 (.slice A2 (done + 1) c2) (done + 1) ((l.take done).map (Value.int .i8) ++ [.int .i8 x]) →
      Whole w4 p 131 #[.slice A l.length c, .int .i64 (done : Int), .int .i64 most, .bool true] ∧ StackB ((w4.setCell ⟨p, 0, none⟩ (.slice A2 (done + 1) c2)).setCell ⟨p, 1, none⟩ (.int .i64 ((done : Int) + 1))) p A2 c2 (l.take done ++ [x]) (done + 1) most ∧
        Keeps (fun b => b = p ∨ (Value.slice A l.length c).ownBlock = some b) w ((w4.setCell ⟨p, 0, none⟩ (.slice A2 (done + 1) c2)).setCell ⟨p, 1, none⟩ (.int .i64 ((done : Int) + 1))) := fun w4 A2 c2 hk ho => by
    have hnp : ¬ (Value.slice A l.length c).ownBlock = some p := fun e => by have := (h.own.lt p e).1; omega
    have hb := h.box.keeps hk hnp
    refine ⟨hb, ⟨?_, ?_, by rw [HLN.out]; exact Nat.le_refl _⟩, ((hk.mono (T := fun b => b = p ∨ (Value.slice A l.length c).ownBlock = some b) (fun _ _ e => .inr e)).setCell (p := ⟨p, 0, none⟩) (fun _ => .inl rfl) _).setCell (p := ⟨p, 1, none⟩) (fun _ => .inl rfl) _⟩
    · rw [HLN.out]
      exact (hb.put 0 _).put 1 _
    · rw [HLN.out, ← HE.out]
      exact ownsRow_setCell_below (ownsRow_setCell_below ho (show p < p + 1 by omega) _) (show p < p + 1 by omega) _
  have HFIT := Lib.hid hfit
  have HOWN := Lib.hid (own_prefix h.own h.le)
  have HN := fun w => noneB_any p true w
  have hq : ((done : Int) == most) = false := by rw [beq_eq_false_iff_ne]; exact hne
  have hlt2 : ((l.map (Value.int .i8)).take done) = (l.take done).map (Value.int .i8) := by rw [List.map_take]
  rw [hlt2] at HOWN
  have hcap : l.length ≤ c := by
    obtain ⟨_, _, e, h, _⟩ := own_slice h.own
    injection e with _ _ e
    omega
  have hdc : done ≤ c := by omega
  obtain ⟨a0, a1, a2, a3, f0, f1, f2, f3⟩ := four h.box
  have al0 : ∀ n o, ((w.drewN n).alloc o).cell? ⟨p, 0, none⟩ = some (.slice A l.length c) := fun n o => (((HB.out.drewN n).alloc o).cellAt 0)
  have al1 : ∀ n o, ((w.drewN n).alloc o).cell? ⟨p, 1, none⟩ = some (.int .i64 (done : Int)) := fun n o => (((HB.out.drewN n).alloc o).cellAt 1)
  have hA : (A = none ∧ done = 0) ∨ ∃ g, A = some ⟨g, 0, none⟩ := by
    rcases h.own.2 with ⟨hv, hn⟩ | ⟨g, cap, cur, hv, _⟩
    · injection hv with h1
      exact .inl ⟨h1, by omega⟩
    · injection hv with h1
      exact .inr ⟨g, h1⟩
  clear h hcap hfit hlt2
  rcases hA with ⟨rfl, rfl⟩ | ⟨g, rfl⟩
  · go_enter Try.func59, Try.ntmps59
    go_wp2_with fail
    go_quiet (first | (go_at_call 79; refine Calls.quiet_of_same (HN _ a3)))
    clear HN
    go_wp2_with fail
    go_region_law (refine wp_append_cells _ _ _ 129 rfl (p + 1) 47 (.int .i8 0) 1 1 Try.underlying129 info_b8 rfl (by decide) (.slice none 0 c) 0 ((l.take 0).map (Value.int .i8)) rfl (HOWN.out.alloc _) (w.heap.size + 1) (some ⟨w.heap.size, 0, none⟩) 1 1 [.int .i8 x] rfl (Lies.row (t := 47) (fr := (0, 0)) (heap_alloc_new _ _) (Nat.lt_succ_self _)) rfl (cells_one_k .i8 [x]) (by simp only [maxLen]; omega) (by omega) (by show p + 1 ≤ (World.alloc _ _).heap.size; simp; omega) ?_
                   intro A2 c2 w4 own2 hg2 _ _ _
                   have k4 : Keeps (fun b => (Value.slice none l.length c).ownBlock = some b) w w4 := ((((Keeps.refl _ w).drewN nq).drew).alloc _).grown hg2 (fun k hk _ => hk)
                   obtain ⟨hbx, hst, hkk⟩ := HFIT.out w4 A2 c2 k4 own2
                   obtain ⟨b0, b1, b2, b3, g0, g1, g2, g3⟩ := four hbx
                   have HST := Lib.hid hst
                   have HKK := Lib.hid hkk
                   clear hst hkk k4 own2 hg2 hbx)
    all_goals (
      go_wp2_with fail
      go_ret
      exact ⟨rfl, A2, c2, HST.out, HKK.out⟩)
  · go_enter Try.func59, Try.ntmps59
    go_wp2_with fail
    go_quiet (first | (go_at_call 79; refine Calls.quiet_of_same (HN _ a3)))
    clear HN
    go_wp2_with fail
    go_region_law (refine wp_append_cells _ _ _ 129 rfl (p + 1) 47 (.int .i8 0) 1 1 Try.underlying129 info_b8 rfl (by decide) (.slice (some ⟨g, 0, none⟩) done c) done ((l.take done).map (Value.int .i8)) rfl (HOWN.out.alloc _) (w.heap.size + 1) (some ⟨w.heap.size, 0, none⟩) 1 1 [.int .i8 x] rfl (Lies.row (t := 47) (fr := (0, 0)) (heap_alloc_new _ _) (Nat.lt_succ_self _)) rfl (cells_one_k .i8 [x]) (by simp only [maxLen]; omega) (by omega) (by show p + 1 ≤ (World.alloc _ _).heap.size; simp; omega) ?_
                   intro A2 c2 w4 own2 hg2 _ _ _
                   have k4 : Keeps (fun b => (Value.slice (some ⟨g, 0, none⟩) l.length c).ownBlock = some b) w w4 := ((((Keeps.refl _ w).drewN nq).drew).alloc _).grown hg2 (fun k hk _ => hk)
                   obtain ⟨hbx, hst, hkk⟩ := HFIT.out w4 A2 c2 k4 own2
                   obtain ⟨b0, b1, b2, b3, g0, g1, g2, g3⟩ := four hbx
                   have HST := Lib.hid hst
                   have HKK := Lib.hid hkk
                   clear hst hkk k4 own2 hg2 hbx)
    all_goals (
      go_wp2_with fail
      go_ret
      exact ⟨rfl, A2, c2, HST.out, HKK.out⟩)
theorem undoB_none (p c : Nat) (most : Int) (A : Option Addr) (l : List Int) (w : World) (h : StackB w p A c l 0 most) :
    Calls Try.prog 60 #[.pointer (some ⟨p, 0, none⟩)] w fun e w' => e = .returned (.tuple #[.int .i8 0, .bool false]) ∧ w' = w := by
  obtain ⟨a0, a1, a2, a3, f0, f1, f2, f3⟩ := four h.box
  clear h
  go_enter Try.func60, Try.ntmps60
  go_wp2_with (first | (go_at_call 79; refine (noneB_any p true _ a3).mono ?_; rintro e w' ⟨rfl, rfl⟩))
  go_ret2
  exact ⟨rfl, rfl⟩
set_option maxRecDepth 100000 in
set_option maxHeartbeats 2000000 in
theorem undoB_any (p c d : Nat) (most x : Int) (A : Option Addr) (l : List Int) (w : World) (h : StackB w p A c l (d + 1) most) (hx : l[d]? = some x) (hd : d < 1000000000) :
    Calls Try.prog 60 #[.pointer (some ⟨p, 0, none⟩)] w fun e w' => e = .returned (.tuple #[.int .i8 x, .bool true]) ∧ StackB w' p A c l d most ∧ Keeps (fun b => b = p) w w' := by
  obtain ⟨a0, a1, a2, a3, f0, f1, f2, f3⟩ := four h.box
  have hdl := (List.getElem?_eq_some_iff.1 hx).1
  have hp : p < w.heap.size := h.box.inside
  obtain ⟨g, cs, hA, hg, hW, _, _, _⟩ := own_whole h.own (by omega)
  subst hA
  have hxc : w.cell? ⟨g, d, none⟩ = some (.int .i8 x) := (own_cells h.own rfl (by omega)).trans (by rw [List.getElem?_map, hx]; rfl)
  have hpg : p ≠ g := by omega
  have hgp : g ≠ p := by omega
  have HS := Lib.hid h
  have q0 : (((d : Int) + 1) == 0) = false := by rw [beq_eq_false_iff_ne]; omega
  have hdI : (d : Int) < (l.length : Int) := by omega
  clear h hg hW hx
  go_enter Try.func60, Try.ntmps60
  go_wp2_with (first | (go_at_call 79; refine (noneB_any p true _ a3).mono ?_; rintro e w' ⟨rfl, rfl⟩))
  go_quiet (fail)
  go_wp2_with fail
  go_ret2
  refine ⟨rfl, ⟨?_, ?_, by have := HS.out.le; omega⟩, ((Keeps.refl (fun b => b = p) w').setCell (p := ⟨p, 1, none⟩) (fun _ => rfl) _).drewN _⟩
  · exact (HS.out.box.put 1 _).drewN _
  · exact ownsRow_setCell_below HS.out.own (show p < p + 1 by omega) _
end Go.Proofs.Ytbfhbekocgdceaa
