/-
  DiceEach: the walk of the asker. Conditions: none.
-/
import Derived.Test.YtalngbdjabjahaaDoorDiceC
import Derived.Test.YtalngbdjabjahaaDoorAppend
import Derived.Test.YtalngbdjabjahaaDoorEachP
import Derived.Deep.QuietTactic
import Derived.BigQuiet
namespace Go.Proofs.YtalngbdjabjahaaDoor
open Go.RowKit
/-- A list of answers lies behind the address A, in a block that the set F holds. -/
def AnsLies (w : World) (F : Nat → Prop) (A : Option Addr) (L : List (Int × Bool)) : Prop :=
  ∀ (k : Nat) (p : Int × Bool), L[k]? = some p → ∃ g off, A = some ⟨g, off, none⟩ ∧ F g ∧ g < w.heap.size ∧ w.cell? ⟨g, off + k * 2, none⟩ = some (.int .i64 p.1) ∧ w.cell? ⟨g, off + k * 2 + 1, none⟩ = some (.bool p.2)
theorem AnsLies.keeps {S : Nat → Prop} {w w' : World} {F : Nat → Prop} {A : Option Addr} {L : List (Int × Bool)} (h : AnsLies w F A L) (hk : Keeps S w w') (hn : ∀ g, F g → ¬ S g) : AnsLies w' F A L := fun k p hp => by
  obtain ⟨g, off, e, hf, hg, h1, h2⟩ := h k p hp
  exact ⟨g, off, e, hf, Nat.lt_of_lt_of_le hg hk.size, (hk.cell hg (hn g hf)).trans h1, (hk.cell hg (hn g hf)).trans h2⟩
/-- What is answered when s has been asked. -/
def lans (L : List (Int × Bool)) (s : List Int) (_k : Nat) : Int × Bool := match L[s.length]? with | some p => (p.1, !p.2) | none => (0, false)
def lnxt (s : List Int) (k : Nat) : List Int := s ++ [(k : Int)]
/-- The asker at block a: its answers, and what it was asked, in a row of its own beyond base. -/
def AskAt (a base : Nat) (F : Nat → Prop) (A : Option Addr) (L : List (Int × Bool)) (cap : Nat) (s : List Int) (w : World) : Prop :=
  base ≤ w.heap.size ∧ AnsLies w F A L ∧ ∃ As cs, Whole w a 26 #[.slice A L.length cap, .slice As s.length cs] ∧ w.ownsRow base 2 1 (.slice As s.length cs) s.length (s.map (Value.int .i64))
theorem info_i64 : (Tryd.prog.info? 2).map (fun i => (i.zero, i.size, i.bytes)) = some (some (.int .i64 0), 1, 8) := by kernel_rfl
theorem own_put {w : World} {base : Nat} {e : TypeId} {v : Value} {n : Nat} {xs : List Value} (h : w.ownsRow base e 1 v n xs) {p : Addr} (hp : p.block < base) (u : Value) : (w.setCell p u).ownsRow base e 1 v n xs := ownsRow_setCell_below h hp u
theorem Whole.grown {w w' : World} {g : Nat} {t : TypeId} {cs : Array Value} {row : Option Nat} (h : Whole w g t cs) (hg : w.grownBy w' row) (hr : ∀ k, row = some k → g < k) : Whole w' g t cs :=
  (hg.block g h.inside (fun e => Nat.lt_irrefl _ (hr g e.symm))).trans h
theorem asked_next {a base : Nat} {F : Nat → Prop} {A As A' : Option Addr} {L : List (Int × Bool)} {cap cs cap' : Nat} {s : List Int} {w w1 : World} {k : Nat} (hL : AnsLies w F A L) (hW : Whole w a 26 #[.slice A L.length cap, .slice As s.length cs])
    (hO : w.ownsRow base 2 1 (.slice As s.length cs) s.length (s.map (Value.int .i64))) (hF : ∀ g, F g → g ≠ a ∧ g < base) (hab : a < base) (hbs : base ≤ w.heap.size)
    (hgrow : (w.alloc (.cells #[.int .i64 k] 2)).grownBy w1 (Value.slice As s.length cs).ownBlock) (hown : w1.ownsRow base 2 1 (.slice A' (s.length + 1) cap') (s.length + 1) (s.map (Value.int .i64) ++ [.int .i64 k])) :
    AskAt a base F A L cap (lnxt s k) (w1.setCell ⟨a, 1, none⟩ (.slice A' (s.length + 1) cap')) ∧ Keeps (fun b => b = a ∨ base ≤ b) w (w1.setCell ⟨a, 1, none⟩ (.slice A' (s.length + 1) cap')) ∧ Whole w1 a 26 #[.slice A L.length cap, .slice As s.length cs] := by
  have hlt : ∀ b, (Value.slice As s.length cs).ownBlock = some b → base ≤ b := fun b hb => (hO.lt b hb).1
  have hK1 : Keeps (fun b => base ≤ b) w w1 := ((Keeps.refl _ w).alloc _).grown hgrow (fun b hb _ => hlt b hb)
  have hK2 : Keeps (fun b => b = a ∨ base ≤ b) w (w1.setCell ⟨a, 1, none⟩ (.slice A' (s.length + 1) cap')) := (hK1.mono (T := fun b => b = a ∨ base ≤ b) (fun b _ h => Or.inr h)).setCell (p := ⟨a, 1, none⟩) (fun _ => Or.inl rfl) _
  have hW1 : Whole w1 a 26 #[.slice A L.length cap, .slice As s.length cs] := hW.keeps hK1 (by omega)
  refine ⟨⟨?_, hL.keeps hK2 (fun g hg => by have := hF g hg; omega), A', cap', ?_, ?_⟩, hK2, hW1⟩
  · exact Nat.le_trans hbs hK2.size
  · have h1 := hW1.put 1 (.slice A' (s.length + 1) cap')
    have e : (lnxt s k).length = s.length + 1 := by simp [lnxt]
    rw [e]
    exact h1
  · have e : (lnxt s k).length = s.length + 1 := by simp [lnxt]
    have e2 : (lnxt s k).map (Value.int .i64) = s.map (Value.int .i64) ++ [.int .i64 k] := by simp [lnxt]
    rw [e, e2]
    exact own_put hown (by show a < base; exact hab) _
theorem asked_far {a base g off : Nat} {w w2 : World} {u v : Value} (hK : Keeps (fun b => b = a ∨ base ≤ b) w w2) (hg : g < w.heap.size) (hn : ¬ (g = a ∨ base ≤ g)) (h0 : w.cell? ⟨g, off, none⟩ = some u) (h1 : w.cell? ⟨g, off + 1, none⟩ = some v) :
    w2.cell? ⟨g, off, none⟩ = some u ∧ w2.cell? ⟨g, off + 1, none⟩ = some v := ⟨(hK.cell hg hn).trans h0, (hK.cell hg hn).trans h1⟩
theorem asked_cells {a : Nat} {w1 : World} {v0 v1 u : Value} (h : Whole w1 a 26 #[v0, v1]) :
    w1.cell? ⟨a, 1, none⟩ = some v1 ∧ w1.frozen? ⟨a, 1, none⟩ = false ∧ (w1.setCell ⟨a, 1, none⟩ u).cell? ⟨a, 0, none⟩ = some v0 ∧ a < w1.heap.size :=
  ⟨h.cellAt 1, h.free 1, (h.put 1 u).cellAt 0, h.inside⟩
set_option maxHeartbeats 2000000 in
theorem ask_none (a base : Nat) (F : Nat → Prop) (A : Option Addr) (L : List (Int × Bool)) (cap : Nat) (s : List Int) (w : World) (k : Nat) (hF : ∀ g, F g → g ≠ a ∧ g < base) (hab : a < base) (hI : AskAt a base F A L cap s w) (hs : s.length ≤ 100000) (hlt : L.length ≤ s.length) :
    Calls Tryd.prog 6 #[.pointer (some ⟨a, 0, none⟩), .int .i64 k] w fun e w' => e = .returned (.tuple #[.int .i64 0, .bool false]) ∧ AskAt a base F A L cap (lnxt s k) w' ∧ Keeps (fun b => b = a ∨ base ≤ b) w w' := by
  obtain ⟨hbs, hL, As, cs, hW, hO⟩ := hI
  have HL := Lib.hid hL; have HW := Lib.hid hW; have HO := Lib.hid hO
  have hin := hW.inside
  obtain ⟨c0, c1⟩ : w.cell? ⟨a, 0, none⟩ = some (.slice A L.length cap) ∧ w.cell? ⟨a, 1, none⟩ = some (.slice As s.length cs) := ⟨hW.cellAt 0, hW.cellAt 1⟩
  have f1 := hW.free 1
  clear hL hW hO
  go_enter Tryd.func6, Tryd.ntmps6
  go_wp2_with (at_builtin; go_must (refine wpList_append_lies _ rfl (.tmp 16) (.tmp 18) 24 rfl base 2 (.int .i64 0) 8 Tryd.underlying24 info_i64 rfl _ s.length _ rfl (HO.out.alloc _) (w.heap.size + 1) (some ⟨w.heap.size, 0, none⟩) 1 1 [.int .i64 k] rfl (Lies.row (t := 2) (fr := (0, 0)) (heap_alloc_new w _) (by simp)) rfl (by simp [Value.oneCell']) (by unfold maxLen; omega) (by omega) (by simp; omega) ?_); intro A' cap' w1 hown' hgrow _ _; obtain ⟨hA, hB, hC⟩ := asked_next HL.out HW.out HO.out hF hab hbs hgrow hown'; have HA := Lib.hid hA; have HB := Lib.hid hB; have HC := Lib.hid hC; clear hA hB hC hgrow hown'; obtain ⟨d0, d1, d2, d3⟩ := asked_cells (u := .slice A' (s.length + 1) cap') HC.out; clear c0 c1 f1)
  go_ret2
  exact ⟨rfl, HA.out, HB.out⟩
set_option maxHeartbeats 2000000 in
theorem ask_some (a base : Nat) (F : Nat → Prop) (A : Option Addr) (L : List (Int × Bool)) (cap : Nat) (s : List Int) (w : World) (k : Nat) (hF : ∀ g, F g → g ≠ a ∧ g < base) (hab : a < base) (hI : AskAt a base F A L cap s w) (hs : s.length ≤ 100000) (p : Int × Bool) (hp : L[s.length]? = some p) :
    Calls Tryd.prog 6 #[.pointer (some ⟨a, 0, none⟩), .int .i64 k] w fun e w' => e = .returned (.tuple #[.int .i64 p.1, .bool (!p.2)]) ∧ AskAt a base F A L cap (lnxt s k) w' ∧ Keeps (fun b => b = a ∨ base ≤ b) w w' := by
  obtain ⟨hbs, hL, As, cs, hW, hO⟩ := hI
  have HL := Lib.hid hL; have HW := Lib.hid hW; have HO := Lib.hid hO
  have hin := hW.inside
  obtain ⟨c0, c1⟩ : w.cell? ⟨a, 0, none⟩ = some (.slice A L.length cap) ∧ w.cell? ⟨a, 1, none⟩ = some (.slice As s.length cs) := ⟨hW.cellAt 0, hW.cellAt 1⟩
  have f1 := hW.free 1
  clear hL hW hO
  have hlt : s.length < L.length := by
    rcases Nat.lt_or_ge s.length L.length with h | h
    · exact h
    · rw [List.getElem?_eq_none h] at hp; cases hp
  obtain ⟨g, off, rfl, hfg, hg, p0, p1⟩ := HL.out _ _ hp
  have hga := hF g hfg
  obtain ⟨z, b⟩ := p
  clear hp
  go_enter Tryd.func6, Tryd.ntmps6
  go_wp2_with (at_builtin; go_must (refine wpList_append_lies _ rfl (.tmp 16) (.tmp 18) 24 rfl base 2 (.int .i64 0) 8 Tryd.underlying24 info_i64 rfl _ s.length _ rfl (HO.out.alloc _) (w.heap.size + 1) (some ⟨w.heap.size, 0, none⟩) 1 1 [.int .i64 k] rfl (Lies.row (t := 2) (fr := (0, 0)) (heap_alloc_new w _) (by simp)) rfl (by simp [Value.oneCell']) (by unfold maxLen; omega) (by omega) (by simp; omega) ?_); intro A' cap' w1 hown' hgrow _ _; obtain ⟨hA, hB, hC⟩ := asked_next HL.out HW.out HO.out hF hab hbs hgrow hown'; have HA := Lib.hid hA; have HB := Lib.hid hB; have HC := Lib.hid hC; clear hA hB hC hgrow hown'; obtain ⟨d0, d1, d2, d3⟩ := asked_cells (u := .slice A' (s.length + 1) cap') HC.out; clear c0 c1 f1; obtain ⟨q0, q1⟩ := asked_far HB.out hg (by omega) p0 p1)
  go_quiet (fail)
  go_wp2_with fail
  go_ret2
  exact ⟨rfl, HA.out, HB.out.drewN _⟩
theorem ask_any (a base : Nat) (F : Nat → Prop) (A : Option Addr) (L : List (Int × Bool)) (cap : Nat) (s : List Int) (w : World) (k : Nat) (hF : ∀ g, F g → g ≠ a ∧ g < base) (hab : a < base) (hI : AskAt a base F A L cap s w) (hs : s.length ≤ 100000) :
    Calls Tryd.prog 6 #[.pointer (some ⟨a, 0, none⟩), .int .i64 k] w fun e w' => e = .returned (.tuple #[.int .i64 (lans L s k).1, .bool (lans L s k).2]) ∧ AskAt a base F A L cap (lnxt s k) w' ∧ Keeps (fun b => b = a ∨ base ≤ b) w w' := by
  cases h : L[s.length]? with
  | none =>
    have e : lans L s k = (0, false) := by unfold lans; rw [h]
    rw [e]
    exact ask_none a base F A L cap s w k hF hab hI hs (List.getElem?_eq_none_iff.1 h)
  | some p =>
    have e : lans L s k = (p.1, !p.2) := by unfold lans; rw [h]
    rw [e]
    exact ask_some a base F A L cap s w k hF hab hI hs p h
theorem own_keeps {w w' : World} {g base : Nat} {e : TypeId} {v : Value} {n : Nat} {xs : List Value} (h : w.ownsRow base e 1 v n xs) (hk : Keeps (fun b => b = g) w w') (hg : g < base) : w'.ownsRow base e 1 v n xs :=
  h.kept (row := some g) ⟨hk.os, hk.tape, hk.output, hk.size, fun k hlt hne => hk.block k hlt (fun e => hne (by rw [e]))⟩ (by
    cases hb : v.ownBlock with
    | none => exact .inl rfl
    | some b => exact .inr (fun e => by
        injection e with e
        have := (h.lt b hb).1
        omega))
theorem AskAt.keeps {a base g : Nat} {F : Nat → Prop} {A : Option Addr} {L : List (Int × Bool)} {cap : Nat} {s : List Int} {w w' : World} (h : AskAt a base F A L cap s w) (hk : Keeps (fun b => b = g) w w') (hg : g < base) (ha : a ≠ g) (hF : ∀ b, F b → b ≠ g) : AskAt a base F A L cap s w' := by
  obtain ⟨h1, h2, As, cs, h3, h4⟩ := h
  exact ⟨Nat.le_trans h1 hk.size, h2.keeps hk hF, As, cs, h3.keeps hk ha, own_keeps h4 hk hg⟩
end Go.Proofs.YtalngbdjabjahaaDoor
