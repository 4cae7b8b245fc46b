/-
  The reference's Stack: Undo, Redo: the walks. Conditions: lengths within 9 * 10 ^ 8.
-/
import Derived.Test.YtbfhbekocgdceaaSr
namespace Go.Proofs.Ytbfhbekocgdceaa
open Go.RowKit
set_option maxRecDepth 100000 in
theorem refUndo_nil (w : World) :
    Calls Try.prog 71 #[.pointer none] w fun e w' => e = .returned (.tuple #[.int .i64 0, .bool false]) ∧ w' = w := by
  go_enter Try.func71, Try.ntmps71
  go_wp2_with fail
  go_ret2
  exact ⟨rfl, rfl⟩
set_option maxRecDepth 100000 in
theorem refUndo_none (p : Nat) (most : Int) (A : Option Addr) (c : Nat) (A2 : Option Addr) (c2 : Nat) (u : List Int) (w : World) (h : RefS w p most A c [] A2 c2 u) :
    Calls Try.prog 71 #[.pointer (some ⟨p, 0, none⟩)] w fun e w' => e = .returned (.tuple #[.int .i64 0, .bool false]) ∧ w' = w := by
  have a1 : w.cell? ⟨p, 1, none⟩ = some (.slice A 0 c) := h.box.cellAt 1
  clear h
  go_enter Try.func71, Try.ntmps71
  go_wp2_with fail
  refine (last_none _ _ _).mono ?_
  rintro e w' ⟨rfl, rfl⟩
  go_wp2_with fail
  go_ret2
  exact ⟨rfl, rfl⟩
set_option maxRecDepth 100000 in
set_option maxHeartbeats 2000000 in
theorem refUndo_any (x : Int) (p : Nat) (most : Int) (A : Option Addr) (c : Nat) (d : List Int) (A2 : Option Addr) (c2 : Nat) (u : List Int) (w : World) (h : RefS w p most A c (d ++ [x]) A2 c2 u) (hd : d.length < 900000000) (hu : u.length ≤ 900000000) :
    Calls Try.prog 71 #[.pointer (some ⟨p, 0, none⟩)] w fun e w' => e = .returned (.tuple #[.int .i64 x, .bool true]) ∧ ∃ A' c' A3 c3, RefS w' p most A' c' d A3 c3 (u ++ [x]) ∧ Keeps (fun b => b = p) w w' ∧ (∀ b, (Value.slice A' d.length c').ownBlock = some b → w.heap.size ≤ b) ∧ ∀ b, (Value.slice A3 (u.length + 1) c3).ownBlock = some b → w.heap.size ≤ b := by
  have hlen : (d ++ [x]).length = d.length + 1 := by simp
  have hb0 := h.box
  rw [hlen] at hb0
  have HB := Lib.hid hb0
  have hp : p < w.heap.size := h.box.inside
  have HU := Lib.hid h.undone
  have hn0 := h.undone
  have hL := own_lies h.done
  have HC1 := Lib.hid (last_any d x A c w hL hd)
  have a1 : w.cell? ⟨p, 1, none⟩ = some (.slice A (d.length + 1) c) := hb0.cellAt 1
  have HPU : Hid (∀ b, (Value.slice A2 u.length c2).ownBlock = some b → ¬ b = p) := Lib.hid (fun b hb e => by have := (h.undone.lt b hb).1; omega)
  clear h hL hn0 hb0
  go_enter Try.func71, Try.ntmps71
  go_wp2_with fail
  refine HC1.out.mono ?_
  rintro e w1 ⟨A', c', rfl, ho, hk⟩
  have K1 := Lib.hid hk
  have HO1 := Lib.hid ho
  have b1 : w1.cell? ⟨p, 1, none⟩ = some (.slice A (d.length + 1) c) := (HB.out.keeps hk id).cellAt 1
  have f1 : w1.frozen? ⟨p, 1, none⟩ = false := (HB.out.keeps hk id).free 1
  clear a1 ho hk HC1
  go_wp2_with fail
  obtain ⟨w2, hw2⟩ : ∃ z, z = w1.setCell ⟨p, 1, none⟩ (.slice A' d.length c') := ⟨_, rfl⟩
  have K2 : Hid (Keeps (fun b => b = p) w w2) := Lib.hid (by rw [hw2]; exact (K1.out.mono (T := fun b => b = p) (fun _ _ h => h.elim)).setCell (S := fun b => b = p) (p := ⟨p, 1, none⟩) (fun _ => rfl) _)
  have HB2 : Hid (Whole w2 p 81 #[.int .i64 most, (.slice A' d.length c'), (.slice A2 u.length c2)]) := Lib.hid (by rw [hw2]; exact (HB.out.keeps K1.out id).put 1 _)
  have HD2 : Hid (w2.ownsRow (p + 1) 3 1 (.slice A' d.length c') d.length (d.map (Value.int .i64))) := Lib.hid (by rw [hw2]; exact ownsRow_setCell_below (own_lower HO1.out (by omega)) (show p < p + 1 by omega) _)
  have HND : Hid (∀ b, (Value.slice A' d.length c').ownBlock = some b → w.heap.size ≤ b) := Lib.hid (fun b hb => (HO1.out.lt b hb).1)
  have HU2 := Lib.hid (own_keepsS HU.out K2.out HPU.out)
  have HLU := Lib.hid (own_lies HU2.out)
  rw [← hw2]
  clear hw2 b1 f1
  have HC : Hid (∀ W, Keeps (fun _ => False) w2 W → Calls Try.prog 27 #[.slice A2 u.length c2, .int .i64 u.length, .int .i64 x] W fun e w' => ∃ A' c', e = .returned (.tuple #[.slice A' (u.length + 1) c', .bool true]) ∧ w'.ownsRow W.heap.size 3 1 (.slice A' (u.length + 1) c') (u.length + 1) ((u ++ [x]).map (Value.int .i64)) ∧ Keeps (fun _ => False) W w') := Lib.hid (fun W hW => by
    have h1 := refPut_in u x A2 c2 u.length W ((HLU.out.keep (fun b o h => hW.cell h id)).more hW.size) hu (Nat.le_refl _)
    have e1 : u.take u.length ++ x :: u.drop u.length = u ++ [x] := by simp
    rw [e1] at h1
    exact h1)
  have HF : ∀ W, Keeps (fun _ => False) w2 W → W.cell? ⟨p, 2, none⟩ = some (.slice A2 u.length c2) ∧ W.frozen? ⟨p, 2, none⟩ = false := fun W hW => ⟨(HB2.out.keeps hW id).cellAt 2, (HB2.out.keeps hW id).free 2⟩
  obtain ⟨g2, -⟩ := HF w2 (Keeps.refl _ _)
  go_region_with (first | (go_at_call 27; refine (HC.out _ (Keeps.refl _ w2).drew).mono ?_; rintro e w3 ⟨A3, c3, rfl, ho, hk3⟩; have b2 : w3.cell? ⟨p, 2, none⟩ = some (.slice A2 u.length c2) := (HF w3 ((Keeps.refl _ w2).drew.trans hk3)).1; have f2 : w3.frozen? ⟨p, 2, none⟩ = false := (HF w3 ((Keeps.refl _ w2).drew.trans hk3)).2; have K3 := Lib.hid ((Keeps.refl (fun _ => False) w2).drew.trans hk3); have HO : Hid (w3.ownsRow (p + 1) 3 1 (.slice A3 (u.length + 1) c3) (u.length + 1) ((u ++ [x]).map (Value.int .i64))) := Lib.hid (own_lower ho (by have := K2.out.size; show p + 1 ≤ w2.heap.size; omega)); have HN : Hid (∀ b, (Value.slice A3 (u.length + 1) c3).ownBlock = some b → w.heap.size ≤ b) := Lib.hid (fun b hb => by have h1 := (ho.lt b hb).1; have h2 := K2.out.size; have h3 : w2.heap.size ≤ b := h1; omega); clear ho hk3))
  all_goals (
    have HLN : Hid ((u ++ [x]).length = u.length + 1) := Lib.hid (by simp)
    go_wp2_with fail
    go_ret2
    refine ⟨rfl, A', c', A3, c3, ⟨?_, ?_, ?_⟩, ?_, HND.out, HN.out⟩
    · rw [HLN.out]
      exact (HB2.out.keeps K3.out id).put 2 _
    · exact ownsRow_setCell_below (own_keepsS HD2.out K3.out (fun _ _ h => h)) (show p < p + 1 by omega) _
    · rw [HLN.out]; exact ownsRow_setCell_below HO.out (show p < p + 1 by omega) _
    · exact (K2.out.trans (K3.out.mono (T := fun b => b = p) (fun _ _ h => h.elim))).setCell (S := fun b => b = p) (p := ⟨p, 2, none⟩) (fun _ => rfl) _)
set_option maxRecDepth 100000 in
theorem refRedo_nil (w : World) :
    Calls Try.prog 72 #[.pointer none] w fun e w' => e = .returned (.tuple #[.int .i64 0, .bool false]) ∧ w' = w := by
  go_enter Try.func72, Try.ntmps72
  go_wp2_with fail
  go_ret2
  exact ⟨rfl, rfl⟩
set_option maxRecDepth 100000 in
theorem refRedo_none (p : Nat) (most : Int) (A : Option Addr) (c : Nat) (A2 : Option Addr) (c2 : Nat) (u : List Int) (w : World) (h : RefS w p most A2 c2 u A c []) :
    Calls Try.prog 72 #[.pointer (some ⟨p, 0, none⟩)] w fun e w' => e = .returned (.tuple #[.int .i64 0, .bool false]) ∧ w' = w := by
  have a1 : w.cell? ⟨p, 2, none⟩ = some (.slice A 0 c) := h.box.cellAt 2
  clear h
  go_enter Try.func72, Try.ntmps72
  go_wp2_with fail
  refine (last_none _ _ _).mono ?_
  rintro e w' ⟨rfl, rfl⟩
  go_wp2_with fail
  go_ret2
  exact ⟨rfl, rfl⟩
set_option maxRecDepth 100000 in
set_option maxHeartbeats 2000000 in
theorem refRedo_any (x : Int) (p : Nat) (most : Int) (A : Option Addr) (c : Nat) (d : List Int) (A2 : Option Addr) (c2 : Nat) (u : List Int) (w : World) (h : RefS w p most A2 c2 u A c (d ++ [x])) (hd : d.length < 900000000) (hu : u.length ≤ 900000000) :
    Calls Try.prog 72 #[.pointer (some ⟨p, 0, none⟩)] w fun e w' => e = .returned (.tuple #[.int .i64 x, .bool true]) ∧ ∃ A' c' A3 c3, RefS w' p most A3 c3 (u ++ [x]) A' c' d ∧ Keeps (fun b => b = p) w w' ∧ (∀ b, (Value.slice A' d.length c').ownBlock = some b → w.heap.size ≤ b) ∧ ∀ b, (Value.slice A3 (u.length + 1) c3).ownBlock = some b → w.heap.size ≤ b := by
  have hlen : (d ++ [x]).length = d.length + 1 := by simp
  have hb0 := h.box
  rw [hlen] at hb0
  have HB := Lib.hid hb0
  have hp : p < w.heap.size := h.box.inside
  have HU := Lib.hid h.done
  have hn0 := h.done
  have hL := own_lies h.undone
  have HC1 := Lib.hid (last_any d x A c w hL hd)
  have a1 : w.cell? ⟨p, 2, none⟩ = some (.slice A (d.length + 1) c) := hb0.cellAt 2
  have HPU : Hid (∀ b, (Value.slice A2 u.length c2).ownBlock = some b → ¬ b = p) := Lib.hid (fun b hb e => by have := (h.done.lt b hb).1; omega)
  clear h hL hn0 hb0
  go_enter Try.func72, Try.ntmps72
  go_wp2_with fail
  refine HC1.out.mono ?_
  rintro e w1 ⟨A', c', rfl, ho, hk⟩
  have K1 := Lib.hid hk
  have HO1 := Lib.hid ho
  have b1 : w1.cell? ⟨p, 2, none⟩ = some (.slice A (d.length + 1) c) := (HB.out.keeps hk id).cellAt 2
  have f1 : w1.frozen? ⟨p, 2, none⟩ = false := (HB.out.keeps hk id).free 2
  clear a1 ho hk HC1
  go_wp2_with fail
  obtain ⟨w2, hw2⟩ : ∃ z, z = w1.setCell ⟨p, 2, none⟩ (.slice A' d.length c') := ⟨_, rfl⟩
  have K2 : Hid (Keeps (fun b => b = p) w w2) := Lib.hid (by rw [hw2]; exact (K1.out.mono (T := fun b => b = p) (fun _ _ h => h.elim)).setCell (S := fun b => b = p) (p := ⟨p, 2, none⟩) (fun _ => rfl) _)
  have HB2 : Hid (Whole w2 p 81 #[.int .i64 most, (.slice A2 u.length c2), (.slice A' d.length c')]) := Lib.hid (by rw [hw2]; exact (HB.out.keeps K1.out id).put 2 _)
  have HD2 : Hid (w2.ownsRow (p + 1) 3 1 (.slice A' d.length c') d.length (d.map (Value.int .i64))) := Lib.hid (by rw [hw2]; exact ownsRow_setCell_below (own_lower HO1.out (by omega)) (show p < p + 1 by omega) _)
  have HND : Hid (∀ b, (Value.slice A' d.length c').ownBlock = some b → w.heap.size ≤ b) := Lib.hid (fun b hb => (HO1.out.lt b hb).1)
  have HU2 := Lib.hid (own_keepsS HU.out K2.out HPU.out)
  have HLU := Lib.hid (own_lies HU2.out)
  rw [← hw2]
  clear hw2 b1 f1
  have HC : Hid (∀ W, Keeps (fun _ => False) w2 W → Calls Try.prog 27 #[.slice A2 u.length c2, .int .i64 u.length, .int .i64 x] W fun e w' => ∃ A' c', e = .returned (.tuple #[.slice A' (u.length + 1) c', .bool true]) ∧ w'.ownsRow W.heap.size 3 1 (.slice A' (u.length + 1) c') (u.length + 1) ((u ++ [x]).map (Value.int .i64)) ∧ Keeps (fun _ => False) W w') := Lib.hid (fun W hW => by
    have h1 := refPut_in u x A2 c2 u.length W ((HLU.out.keep (fun b o h => hW.cell h id)).more hW.size) hu (Nat.le_refl _)
    have e1 : u.take u.length ++ x :: u.drop u.length = u ++ [x] := by simp
    rw [e1] at h1
    exact h1)
  have HF : ∀ W, Keeps (fun _ => False) w2 W → W.cell? ⟨p, 1, none⟩ = some (.slice A2 u.length c2) ∧ W.frozen? ⟨p, 1, none⟩ = false := fun W hW => ⟨(HB2.out.keeps hW id).cellAt 1, (HB2.out.keeps hW id).free 1⟩
  obtain ⟨g2, -⟩ := HF w2 (Keeps.refl _ _)
  go_region_with (first | (go_at_call 27; refine (HC.out _ (Keeps.refl _ w2).drew).mono ?_; rintro e w3 ⟨A3, c3, rfl, ho, hk3⟩; have b2 : w3.cell? ⟨p, 1, none⟩ = some (.slice A2 u.length c2) := (HF w3 ((Keeps.refl _ w2).drew.trans hk3)).1; have f2 : w3.frozen? ⟨p, 1, none⟩ = false := (HF w3 ((Keeps.refl _ w2).drew.trans hk3)).2; have K3 := Lib.hid ((Keeps.refl (fun _ => False) w2).drew.trans hk3); have HO : Hid (w3.ownsRow (p + 1) 3 1 (.slice A3 (u.length + 1) c3) (u.length + 1) ((u ++ [x]).map (Value.int .i64))) := Lib.hid (own_lower ho (by have := K2.out.size; show p + 1 ≤ w2.heap.size; omega)); have HN : Hid (∀ b, (Value.slice A3 (u.length + 1) c3).ownBlock = some b → w.heap.size ≤ b) := Lib.hid (fun b hb => by have h1 := (ho.lt b hb).1; have h2 := K2.out.size; have h3 : w2.heap.size ≤ b := h1; omega); clear ho hk3))
  all_goals (
    have HLN : Hid ((u ++ [x]).length = u.length + 1) := Lib.hid (by simp)
    go_wp2_with fail
    go_ret2
    refine ⟨rfl, A', c', A3, c3, ⟨?_, ?_, ?_⟩, ?_, HND.out, HN.out⟩
    · rw [HLN.out]
      exact (HB2.out.keeps K3.out id).put 1 _
    · rw [HLN.out]; exact ownsRow_setCell_below HO.out (show p < p + 1 by omega) _
    · exact ownsRow_setCell_below (own_keepsS HD2.out K3.out (fun _ _ h => h)) (show p < p + 1 by omega) _
    · exact (K2.out.trans (K3.out.mono (T := fun b => b = p) (fun _ _ h => h.elim))).setCell (S := fun b => b = p) (p := ⟨p, 1, none⟩) (fun _ => rfl) _)
end Go.Proofs.Ytbfhbekocgdceaa
