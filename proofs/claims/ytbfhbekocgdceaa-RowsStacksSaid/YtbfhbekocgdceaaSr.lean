/-
  The reference's Stack: NewStack, last, Do: the walks. Conditions: lengths within 9 * 10 ^ 8.
-/
import Derived.Test.YtbfhbekocgdceaaRcL
import Derived.Test.YtbfhbekocgdceaaSkI
import Derived.BigQuiet
import Derived.Deep.RegionHeld3
namespace Go.Proofs.Ytbfhbekocgdceaa
open Go.RowKit
theorem own_lower {w : World} {base base' size : Nat} {e : TypeId} {v : Value} {n : Nat} {xs : List Value} (h : w.ownsRow base e size v n xs) (hb : base' ≤ base) : w.ownsRow base' e size v n xs := by
  refine ⟨h.1, ?_⟩
  rcases h.2 with hn | ⟨g, cap, cur, hv, hg, rest⟩
  · exact .inl hn
  · exact .inr ⟨g, cap, cur, hv, Nat.le_trans hb hg, rest⟩
/-- The reference's stack in memory: what is done, what was undone. -/
structure RefS (w : World) (p : Nat) (most : Int) (A : Option Addr) (c : Nat) (d : List Int) (A2 : Option Addr) (c2 : Nat) (u : List Int) : Prop where
  box : Whole w p 81 #[.int .i64 most, .slice A d.length c, .slice A2 u.length c2]
  done : w.ownsRow (p + 1) 3 1 (.slice A d.length c) d.length (d.map (Value.int .i64))
  undone : w.ownsRow (p + 1) 3 1 (.slice A2 u.length c2) u.length (u.map (Value.int .i64))
theorem RefS.calm {w w' : World} {p c c2 : Nat} {A A2 : Option Addr} {d u : List Int} {most : Int} {S : Nat → Prop} (h : RefS w p most A c d A2 c2 u) (hk : Keeps S w w') (hp : ¬ S p) (h1 : ∀ b, (Value.slice A d.length c).ownBlock = some b → ¬ S b) (h2 : ∀ b, (Value.slice A2 u.length c2).ownBlock = some b → ¬ S b) : RefS w' p most A c d A2 c2 u :=
  ⟨h.box.keeps hk hp, own_keepsS h.done hk h1, own_keepsS h.undone hk h2⟩
theorem refNew_neg (most : Int) (w : World) (hm : most < 0) :
    Calls Try.prog 39 #[.int .i64 most] w fun e w' => e = .returned (.pointer none) ∧ w = w' := by
  go_enter Try.func39, Try.ntmps39
  go_wp2_with fail
  go_ret
  exact ⟨rfl, rfl⟩
theorem refNew_any (most : Int) (w : World) (hm : 0 ≤ most) :
    Calls Try.prog 39 #[.int .i64 most] w fun e w' => e = .returned (.pointer (some ⟨w.heap.size, 0, none⟩)) ∧ RefS w' w.heap.size most none 0 [] none 0 [] ∧ Keeps (fun _ => False) w w' := by
  have h0 : ¬ (most < 0) := by omega
  go_enter Try.func39, Try.ntmps39
  go_wp2_with fail
  go_ret
  exact ⟨rfl, ⟨Whole.made w _ _, World.ownsRow_nil _ _ _ _, World.ownsRow_nil _ _ _ _⟩, (Keeps.refl _ w).alloc _⟩
theorem last_none (A : Option Addr) (cap : Nat) (w : World) :
    Calls Try.prog 83 #[.slice A 0 cap] w fun e w' => e = .returned (.tuple #[.slice none 0 0, .int .i64 0, .bool false]) ∧ w = w' := by
  go_enter Try.func83, Try.ntmps83
  go_wp2_with fail
  go_ret3
  exact ⟨rfl, rfl⟩
set_option maxRecDepth 100000 in
theorem last_any (xs : List Int) (x : Int) (A : Option Addr) (cap : Nat) (w : World) (hx : Lies w w.heap.size A ((xs ++ [x]).map (Value.int .i64))) (hl : xs.length < 900000000) :
    Calls Try.prog 83 #[.slice A (xs.length + 1) cap] w fun e w' => ∃ A' c', e = .returned (.tuple #[.slice A' xs.length c', .int .i64 x, .bool true]) ∧ w'.ownsRow w.heap.size 3 1 (.slice A' xs.length c') xs.length (xs.map (Value.int .i64)) ∧ Keeps (fun _ => False) w w' := by
  have h0 := refCut_in (xs ++ [x]) A cap xs.length w hx (by simp; omega) (by simp)
  have e1 : (xs ++ [x]).take xs.length ++ (xs ++ [x]).drop (xs.length + 1) = xs := by simp
  have e2 : (xs ++ [x]).length = xs.length + 1 := by simp
  have e3 : (xs ++ [x])[xs.length]'(by simp) = x := by simp
  rw [e1, e3] at h0
  simp only [e2, Nat.add_sub_cancel] at h0
  have HC := Lib.hid h0
  have hw : IntKind.i64.wrap ((xs.length : Int) + 1 - 1) = (xs.length : Int) := by rw [IntKind.wrap_i64]; omega
  have hne : ¬ ((xs.length : Int) + 1 = 0) := by omega
  clear h0 e1 e2 e3 hx
  go_enter Try.func83, Try.ntmps83
  go_wp2_with fail
  refine HC.out.mono ?_
  rintro e w' ⟨A', c', rfl, ho, hk⟩
  go_wp2_with fail
  go_ret3
  exact ⟨A', c', rfl, ho, hk⟩
set_option maxRecDepth 100000 in
theorem refDo_nil (x : Int) (w : World) :
    Calls Try.prog 70 #[.pointer none, .int .i64 x] w fun e w' => e = .returned (.bool false) ∧ Keeps (fun _ => False) w w' := by
  go_enter Try.func70, Try.ntmps70
  go_wp2_with fail
  go_quiet (fail)
  go_wp2_with fail
  go_ret
  exact ⟨rfl, (Keeps.refl _ _).drewN _⟩
set_option maxRecDepth 100000 in
theorem refDo_full (x : Int) (p : Nat) (most : Int) (A : Option Addr) (c : Nat) (d : List Int) (A2 : Option Addr) (c2 : Nat) (u : List Int) (w : World) (h : RefS w p most A c d A2 c2 u) (hf : most ≤ d.length) :
    Calls Try.prog 70 #[.pointer (some ⟨p, 0, none⟩), .int .i64 x] w fun e w' => e = .returned (.bool false) ∧ Keeps (fun _ => False) w w' := by
  have a0 : w.cell? ⟨p, 0, none⟩ = some (.int .i64 most) := h.box.cellAt 0
  have a1 : w.cell? ⟨p, 1, none⟩ = some (.slice A d.length c) := h.box.cellAt 1
  have a2 : w.cell? ⟨p, 2, none⟩ = some (.slice A2 u.length c2) := h.box.cellAt 2
  clear h
  go_enter Try.func70, Try.ntmps70
  go_wp2_with fail
  go_quiet (fail)
  go_wp2_with fail
  go_ret
  exact ⟨rfl, (Keeps.refl _ _).drewN _⟩
set_option maxRecDepth 100000 in
set_option maxHeartbeats 2000000 in
theorem refDo_any (x : Int) (p : Nat) (most : Int) (A : Option Addr) (c : Nat) (d : List Int) (A2 : Option Addr) (c2 : Nat) (u : List Int) (w : World) (h : RefS w p most A c d A2 c2 u) (hf : (d.length : Int) < most) (hl : d.length ≤ 900000000) :
    Calls Try.prog 70 #[.pointer (some ⟨p, 0, none⟩), .int .i64 x] w fun e w' => e = .returned (.bool true) ∧ ∃ A' c', RefS w' p most A' c' (d ++ [x]) none 0 [] ∧ Keeps (fun b => b = p) w w' ∧ ∀ b, (Value.slice A' (d.length + 1) c').ownBlock = some b → w.heap.size ≤ b := by
  have HB := Lib.hid h.box
  have hp : p < w.heap.size := h.box.inside
  have HL := Lib.hid (own_lies h.done)
  have HC0 : Hid (∀ W, Keeps (fun _ => False) w W → Calls Try.prog 27 #[.slice A d.length c, .int .i64 d.length, .int .i64 x] W fun e w' => ∃ A' c', e = .returned (.tuple #[.slice A' (d.length + 1) c', .bool true]) ∧ w'.ownsRow W.heap.size 3 1 (.slice A' (d.length + 1) c') (d.length + 1) ((d ++ [x]).map (Value.int .i64)) ∧ Keeps (fun _ => False) W w') := Lib.hid (fun W hW => by
    have h1 := refPut_in d x A c d.length W ((HL.out.keep (fun b o h => hW.cell h id)).more hW.size) hl (Nat.le_refl _)
    have e1 : d.take d.length ++ x :: d.drop d.length = d ++ [x] := by simp
    rw [e1] at h1
    exact h1)
  have a0 : w.cell? ⟨p, 0, none⟩ = some (.int .i64 most) := h.box.cellAt 0
  have a1 : w.cell? ⟨p, 1, none⟩ = some (.slice A d.length c) := h.box.cellAt 1
  have a2 : w.cell? ⟨p, 2, none⟩ = some (.slice A2 u.length c2) := h.box.cellAt 2
  have hge : decide (most ≤ (d.length : Int)) = false := decide_eq_false (by omega)
  have hge2 : ¬ (most ≤ (d.length : Int)) := by omega
  clear h
  go_enter Try.func70, Try.ntmps70
  go_wp2_with fail
  go_quiet (fail)
  clear hge hge2 hf a0 a1 a2
  obtain ⟨w0, hw0⟩ : ∃ z, z = w.drewN nq := ⟨_, rfl⟩
  have K0 : Hid (Keeps (fun _ => False) w w0) := Lib.hid (by rw [hw0]; exact (Keeps.refl _ _).drewN _)
  rw [← hw0]
  have HC : Hid (∀ W, Keeps (fun _ => False) w0 W → _) := Lib.hid (fun W hW => HC0.out W (K0.out.trans hW))
  have HF : ∀ W, Keeps (fun _ => False) w0 W → W.cell? ⟨p, 0, none⟩ = some (.int .i64 most) ∧ W.cell? ⟨p, 1, none⟩ = some (.slice A d.length c) ∧ W.cell? ⟨p, 2, none⟩ = some (.slice A2 u.length c2) := fun W hW => by
    have hb := HB.out.keeps (K0.out.trans hW) id
    exact ⟨hb.cellAt 0, hb.cellAt 1, hb.cellAt 2⟩
  have HFR : ∀ W, Keeps (fun _ => False) w0 W → W.frozen? ⟨p, 1, none⟩ = false ∧ W.frozen? ⟨p, 2, none⟩ = false := fun W hW => ⟨(HB.out.keeps (K0.out.trans hW) id).free 1, (HB.out.keeps (K0.out.trans hW) id).free 2⟩
  obtain ⟨a0, a1, a2⟩ := HF w0 (Keeps.refl _ _)
  clear hw0
  go_wp2_with fail
  go_region_with (first | (go_at_call 27; refine (HC.out _ (Keeps.refl _ w0).drew).mono ?_; rintro e w3 ⟨A', c', rfl, ho, hk3⟩; have b1 : w3.cell? ⟨p, 1, none⟩ = some (.slice A d.length c) := (HF w3 ((Keeps.refl _ w0).drew.trans hk3)).2.1; have f1 : w3.frozen? ⟨p, 1, none⟩ = false := (HFR w3 ((Keeps.refl _ w0).drew.trans hk3)).1; have b2 : w3.cell? ⟨p, 2, none⟩ = some (.slice A2 u.length c2) := (HF w3 ((Keeps.refl _ w0).drew.trans hk3)).2.2; have f2 : w3.frozen? ⟨p, 2, none⟩ = false := (HFR w3 ((Keeps.refl _ w0).drew.trans hk3)).2; have K3 := Lib.hid (K0.out.trans ((Keeps.refl _ w0).drew.trans hk3)); have HO : Hid (w3.ownsRow (p + 1) 3 1 (.slice A' (d.length + 1) c') (d.length + 1) ((d ++ [x]).map (Value.int .i64))) := Lib.hid (own_lower ho (by have := K0.out.size; show p + 1 ≤ w0.heap.size; omega)); have HN : Hid (∀ b, (Value.slice A' (d.length + 1) c').ownBlock = some b → w.heap.size ≤ b) := Lib.hid (fun b hb => by have h1 := (ho.lt b hb).1; have h2 := K0.out.size; have h3 : w0.heap.size ≤ b := h1; omega); clear ho hk3))
  all_goals (
    have HLN : Hid ((d ++ [x]).length = d.length + 1) := Lib.hid (by simp)
    go_wp2_with fail
    go_ret
    refine ⟨rfl, A', c', ⟨?_, ?_, World.ownsRow_nil _ _ _ _⟩, ?_, HN.out⟩
    · rw [HLN.out]
      exact ((HB.out.keeps K3.out id).put 1 _).put 2 _
    · rw [HLN.out]
      exact ownsRow_setCell_below (ownsRow_setCell_below HO.out (show p < p + 1 by omega) _) (show p < p + 1 by omega) _
    · exact ((K3.out.mono (T := fun b => b = p) (fun _ _ h => h.elim)).setCell (S := fun b => b = p) (p := ⟨p, 1, none⟩) (fun _ => rfl) _).setCell (S := fun b => b = p) (p := ⟨p, 2, none⟩) (fun _ => rfl) _)
end Go.Proofs.Ytbfhbekocgdceaa
