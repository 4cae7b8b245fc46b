/-
  What stands while the reference's New builds a state. Conditions: none.
-/
import Derived.Test.YtgbikcliembkcaaDoorNwB
import Derived.Test.YtgbikcliembkcaaDoorStX
namespace Go.Proofs.YtgbikcliembkcaaDoor
open Go.RowKit
/-- The blocks of the reference's New: the result's block, the state's box, the zones' row; players, cards and rows of its own. -/
structure RefSt (w wr : World) (n : Nat) (gs gz : Nat) (Ap : Option Addr) (cp : Nat) (pls : List Pl) (Ac : Option Addr) (cc : Nat) (cards : List Cd) (rows : List (List Int)) (cells : List Value) : Prop where
  keeps : Keeps (fun _ => False) w wr
  res : Whole wr w.heap.size 32 #[.slice none 0 0, .slice none 0 0, .slice none 0 0, .int .i32 0, .int .i64 0, .int .i8 0, .int .i64 0]
  box : Whole wr gs 32 #[.slice Ap pls.length cp, .slice Ac cards.length cc, .slice (some ⟨gz, 0, none⟩) (4 * n) (4 * n), .int .i32 1, .int .i64 0, .int .i8 0, .int .i64 0]
  players : wr.ownsRow (w.heap.size + 1) 72 3 (.slice Ap pls.length cp) pls.length (flat Pl.cells pls)
  cards : wr.ownsRow (w.heap.size + 1) 68 6 (.slice Ac cards.length cc) cards.length (flat Cd.cells cards)
  zones : RowsOwn wr (w.heap.size + 1) (.slice (some ⟨gz, 0, none⟩) rows.length (4 * n)) rows cells
  apart : CellsApart cells
  rlen : rows.length = 4 * n
  news : w.heap.size < gs ∧ w.heap.size < gz
  size : w.heap.size + 1 ≤ wr.heap.size
section
variable {w wr w' w2 : World} {n : Nat} {gs gz : Nat} {Ap : Option Addr} {cp : Nat} {pls : List Pl} {Ac : Option Addr} {cc : Nat} {cards : List Cd} {rows : List (List Int)} {cells : List Value}
theorem RefSt.calm (h : RefSt w wr n gs gz Ap cp pls Ac cc cards rows cells) (hk : Keeps (fun _ => False) wr w') : RefSt w w' n gs gz Ap cp pls Ac cc cards rows cells :=
  ⟨h.keeps.trans hk, h.res.keeps hk id, h.box.keeps hk id, own_keepsS h.players hk fun _ _ => id, own_keepsS h.cards hk fun _ _ => id, h.zones.calm hk, h.apart, h.rlen, h.news, Nat.le_trans h.size hk.size⟩
/-- A number put behind one of the rows. -/
theorem RefSt.zone {j m c2 : Nat} {A2 : Option Addr} {r : List Int} {v : Value} {x : Int} (h : RefSt w wr n gs gz Ap cp pls Ac cc cards rows cells) (hr : rows[j]? = some r) (hv : cells[j]? = some v)
    (hg : wr.grownBy w2 v.ownBlock) (hm : m = r.length) (hown : w2.ownsRow (w.heap.size + 1) 3 1 (.slice A2 (m + 1) c2) (m + 1) (r.map (Value.int .i64) ++ [.int .i64 x])) (hor : (Value.slice A2 (m + 1) c2).ownBlock = v.ownBlock ∨ (Value.slice A2 (m + 1) c2).ownBlock = some wr.heap.size) :
    RefSt w (w2.setCell ⟨gz, j, none⟩ (.slice A2 (m + 1) c2)) n gs gz Ap cp pls Ac cc cards (rows.set j (r ++ [x])) (cells.set j (.slice A2 (m + 1) c2)) := by
  obtain ⟨hz, ha⟩ := h.zones.grow h.apart hr hv hg hm hown hor
  obtain ⟨Aj, cj, hvj, hoj⟩ := h.zones.row j r hr
  rw [hv] at hvj
  injection hvj with hvj
  have hov : wr.ownsRow (w.heap.size + 1) 3 1 v r.length (r.map (Value.int .i64)) := by rw [hvj]; exact hoj
  have hK : Keeps (fun b => v.ownBlock = some b) wr w2 := (Keeps.refl _ wr).grown hg (fun k hk _ => hk)
  have hS : Keeps (fun b => b = gz) w2 (w2.setCell ⟨gz, j, none⟩ (.slice A2 (m + 1) c2)) := (Keeps.refl (fun b => b = gz) w2).setCell (p := ⟨gz, j, none⟩) (fun _ => rfl) _
  have hKS : Keeps (fun b => v.ownBlock = some b ∨ b = gz) wr (w2.setCell ⟨gz, j, none⟩ (.slice A2 (m + 1) c2)) := (hK.mono (fun _ _ h => .inl h)).and hS (fun _ _ e => .inr e)
  have hgz : (Value.slice (some ⟨gz, 0, none⟩) rows.length (4 * n)).ownBlock = some gz := rfl
  have off : ∀ {g : Nat} {t : TypeId} {c : Array Value}, Whole wr g t c → t ≠ 3 → t ≠ 74 → ¬ (v.ownBlock = some g ∨ g = gz) := fun {g} {t} {c} hw h1 h2 e => by
    rcases e with e | e
    · exact whole_kind_own hov hw h1 e
    · subst e; exact whole_kind_own h.zones.own hw h2 hgz
  have offo : ∀ {s k : Nat} {e : TypeId} {u : Value} {xs : List Value}, wr.ownsRow (w.heap.size + 1) e s u k xs → e ≠ 3 → e ≠ 74 → ∀ b, u.ownBlock = some b → ¬ (v.ownBlock = some b ∨ b = gz) := fun ho h1 h2 b hb e => by
    rcases e with e | e
    · exact own_kind ho hov h1 hb e
    · subst e; exact own_kind ho h.zones.own h2 hb hgz
  refine ⟨h.keeps.and hKS (fun b hb e => ?_), h.res.keeps hKS (off h.res (by decide) (by decide)), h.box.keeps hKS (off h.box (by decide) (by decide)), own_keepsS h.players hKS (offo h.players (by decide) (by decide)), own_keepsS h.cards hKS (offo h.cards (by decide) (by decide)), ?_, ha, by rw [List.length_set]; exact h.rlen, h.news, Nat.le_trans h.size hKS.size⟩
  · rcases e with e | e
    · have := (hov.lt b e).1; omega
    · have := h.news.2; omega
  · rw [List.length_set]; exact hz
/-- Where a row has grown: the old cell of it, the box. -/
theorem RefSt.zoneOut {j : Nat} {r : List Int} {v : Value} (h : RefSt w wr n gs gz Ap cp pls Ac cc cards rows cells) (hr : rows[j]? = some r) (hv : cells[j]? = some v) (hg : wr.grownBy w2 v.ownBlock) :
    w2.cell? ⟨gz, j, none⟩ = some v ∧ w2.frozen? ⟨gz, j, none⟩ = false ∧ gz ≠ gs ∧ Whole w2 gs 32 #[.slice Ap pls.length cp, .slice Ac cards.length cc, .slice (some ⟨gz, 0, none⟩) (4 * n) (4 * n), .int .i32 1, .int .i64 0, .int .i8 0, .int .i64 0] := by
  obtain ⟨Aj, cj, hvj, hoj⟩ := h.zones.row j r hr
  rw [hv] at hvj
  injection hvj with hvj
  have hov : wr.ownsRow (w.heap.size + 1) 3 1 v r.length (r.map (Value.int .i64)) := by rw [hvj]; exact hoj
  have hK : Keeps (fun b => v.ownBlock = some b) wr w2 := (Keeps.refl _ wr).grown hg (fun k hk _ => hk)
  have hgz : (Value.slice (some ⟨gz, 0, none⟩) rows.length (4 * n)).ownBlock = some gz := rfl
  have hO2 : w2.ownsRow (w.heap.size + 1) 74 1 (.slice (some ⟨gz, 0, none⟩) rows.length (4 * n)) rows.length cells := own_keepsS h.zones.own hK fun b hb e => own_kind h.zones.own hov (by decide) hb e
  have hj : j < rows.length := (List.getElem?_eq_some_iff.1 hr).1
  exact ⟨(hO2.cellAt j (by omega)).trans hv, hO2.frozenAt j, fun e => by subst e; exact whole_kind_own h.zones.own h.box (by decide) hgz, h.box.keeps hK (fun e => whole_kind_own hov h.box (by decide) e)⟩
/-- Another block stays, where a row has grown and its new value is laid. -/
theorem RefSt.zoneOff {j g : Nat} {t : TypeId} {c : Array Value} {r : List Int} {v : Value} (h : RefSt w wr n gs gz Ap cp pls Ac cc cards rows cells) (hr : rows[j]? = some r) (hv : cells[j]? = some v) (hg : wr.grownBy w2 v.ownBlock)
    (hw : Whole wr g t c) (h1 : t ≠ 3) (h2 : t ≠ 74) (u : Value) : Whole (w2.setCell ⟨gz, j, none⟩ u) g t c := by
  obtain ⟨Aj, cj, hvj, hoj⟩ := h.zones.row j r hr
  rw [hv] at hvj
  injection hvj with hvj
  have hov : wr.ownsRow (w.heap.size + 1) 3 1 v r.length (r.map (Value.int .i64)) := by rw [hvj]; exact hoj
  have hK : Keeps (fun b => v.ownBlock = some b) wr w2 := (Keeps.refl _ wr).grown hg (fun k hk _ => hk)
  exact (hw.keeps hK (fun e => whole_kind_own hov hw h1 e)).putFar (p := ⟨gz, j, none⟩) (fun e => by
    have e : g = gz := e
    subst e
    exact whole_kind_own h.zones.own hw h2 rfl) u
/-- Where the cards have grown: the box. -/
theorem RefSt.cardOut (h : RefSt w wr n gs gz Ap cp pls Ac cc cards rows cells) (hg : wr.grownBy w2 (Value.slice Ac cards.length cc).ownBlock) :
    Whole w2 gs 32 #[.slice Ap pls.length cp, .slice Ac cards.length cc, .slice (some ⟨gz, 0, none⟩) (4 * n) (4 * n), .int .i32 1, .int .i64 0, .int .i8 0, .int .i64 0] :=
  h.box.keeps ((Keeps.refl (fun b => (Value.slice Ac cards.length cc).ownBlock = some b) wr).grown hg (fun k hk _ => hk)) (fun e => whole_kind_own h.cards h.box (by decide) e)
/-- One put behind the cards. -/
theorem RefSt.card {c2 : Nat} {A2 : Option Addr} {x : Cd} (h : RefSt w wr n gs gz Ap cp pls Ac cc cards rows cells)
    (hg : wr.grownBy w2 (Value.slice Ac cards.length cc).ownBlock) (hown : w2.ownsRow (w.heap.size + 1) 68 6 (.slice A2 (cards.length + 1) c2) (cards.length + 1) (flat Cd.cells cards ++ Cd.cells x)) :
    RefSt w (w2.setCell ⟨gs, 1, none⟩ (.slice A2 (cards.length + 1) c2)) n gs gz Ap cp pls A2 c2 (cards ++ [x]) rows cells := by
  have hK : Keeps (fun b => (Value.slice Ac cards.length cc).ownBlock = some b) wr w2 := (Keeps.refl _ wr).grown hg (fun k hk _ => hk)
  have hS : Keeps (fun b => b = gs) w2 (w2.setCell ⟨gs, 1, none⟩ (.slice A2 (cards.length + 1) c2)) := (Keeps.refl (fun b => b = gs) w2).setCell (p := ⟨gs, 1, none⟩) (fun _ => rfl) _
  have hKS : Keeps (fun b => (Value.slice Ac cards.length cc).ownBlock = some b ∨ b = gs) wr (w2.setCell ⟨gs, 1, none⟩ (.slice A2 (cards.length + 1) c2)) := (hK.mono (fun _ _ h => .inl h)).and hS (fun _ _ e => .inr e)
  have offb : ∀ {g : Nat} {t : TypeId} {c : Array Value}, Whole wr g t c → t ≠ 68 → ¬ ((Value.slice Ac cards.length cc).ownBlock = some g) := fun {g} {t} {c} hw h1 e => whole_kind_own h.cards hw h1 e
  have offo : ∀ {s k : Nat} {e : TypeId} {u : Value} {xs : List Value}, wr.ownsRow (w.heap.size + 1) e s u k xs → e ≠ 68 → 32 ≠ e → ∀ b, u.ownBlock = some b → ¬ ((Value.slice Ac cards.length cc).ownBlock = some b ∨ b = gs) := fun ho h1 h2 b hb e => by
    rcases e with e | e
    · exact own_kind ho h.cards h1 hb e
    · subst e; exact whole_kind_own ho h.box h2 hb
  have hb2 := h.box.keeps hK (offb h.box (by decide))
  have hw2 := own_keepsS hown hS (fun b hb e => by subst e; exact whole_kind_own hown hb2 (by decide) hb)
  refine ⟨h.keeps.and hKS (fun b hb e => ?_), h.res.keeps hKS (fun e => ?_), ?_, ?_, ?_, ?_, h.apart, h.rlen, h.news, Nat.le_trans h.size hKS.size⟩
  · rcases e with e | e
    · have := (h.cards.lt b e).1; omega
    · have := h.news.1; omega
  · rcases e with e | e
    · exact offb h.res (by decide) e
    · have := h.news.1; omega
  · rw [List.length_append]; exact hb2.put 1 _
  · exact own_keepsS h.players hKS (offo h.players (by decide) (by decide))
  · rw [List.length_append, show flat Cd.cells (cards ++ [x]) = flat Cd.cells cards ++ Cd.cells x by simp [flat]]
    exact hw2
  · refine ⟨own_keepsS h.zones.own hKS (offo h.zones.own (by decide) (by decide)), fun i r hi => ?_⟩
    obtain ⟨Ai, ci, hc, ho⟩ := h.zones.row i r hi
    exact ⟨Ai, ci, hc, own_keepsS ho hKS (offo ho (by decide) (by decide))⟩
/-- Where the players have grown: the box. -/
theorem RefSt.playerOut (h : RefSt w wr n gs gz Ap cp pls Ac cc cards rows cells) (hg : wr.grownBy w2 (Value.slice Ap pls.length cp).ownBlock) :
    Whole w2 gs 32 #[.slice Ap pls.length cp, .slice Ac cards.length cc, .slice (some ⟨gz, 0, none⟩) (4 * n) (4 * n), .int .i32 1, .int .i64 0, .int .i8 0, .int .i64 0] :=
  h.box.keeps ((Keeps.refl (fun b => (Value.slice Ap pls.length cp).ownBlock = some b) wr).grown hg (fun k hk _ => hk)) (fun e => whole_kind_own h.players h.box (by decide) e)
/-- One put behind the players. -/
theorem RefSt.player {c2 : Nat} {A2 : Option Addr} {x : Pl} (h : RefSt w wr n gs gz Ap cp pls Ac cc cards rows cells)
    (hg : wr.grownBy w2 (Value.slice Ap pls.length cp).ownBlock) (hown : w2.ownsRow (w.heap.size + 1) 72 3 (.slice A2 (pls.length + 1) c2) (pls.length + 1) (flat Pl.cells pls ++ Pl.cells x)) :
    RefSt w (w2.setCell ⟨gs, 0, none⟩ (.slice A2 (pls.length + 1) c2)) n gs gz A2 c2 (pls ++ [x]) Ac cc cards rows cells := by
  have hK : Keeps (fun b => (Value.slice Ap pls.length cp).ownBlock = some b) wr w2 := (Keeps.refl _ wr).grown hg (fun k hk _ => hk)
  have hS : Keeps (fun b => b = gs) w2 (w2.setCell ⟨gs, 0, none⟩ (.slice A2 (pls.length + 1) c2)) := (Keeps.refl (fun b => b = gs) w2).setCell (p := ⟨gs, 0, none⟩) (fun _ => rfl) _
  have hKS : Keeps (fun b => (Value.slice Ap pls.length cp).ownBlock = some b ∨ b = gs) wr (w2.setCell ⟨gs, 0, none⟩ (.slice A2 (pls.length + 1) c2)) := (hK.mono (fun _ _ h => .inl h)).and hS (fun _ _ e => .inr e)
  have offb : ∀ {g : Nat} {t : TypeId} {c : Array Value}, Whole wr g t c → t ≠ 72 → ¬ ((Value.slice Ap pls.length cp).ownBlock = some g) := fun {g} {t} {c} hw h1 e => whole_kind_own h.players hw h1 e
  have offo : ∀ {s k : Nat} {e : TypeId} {u : Value} {xs : List Value}, wr.ownsRow (w.heap.size + 1) e s u k xs → e ≠ 72 → 32 ≠ e → ∀ b, u.ownBlock = some b → ¬ ((Value.slice Ap pls.length cp).ownBlock = some b ∨ b = gs) := fun ho h1 h2 b hb e => by
    rcases e with e | e
    · exact own_kind ho h.players h1 hb e
    · subst e; exact whole_kind_own ho h.box h2 hb
  have hb2 := h.box.keeps hK (offb h.box (by decide))
  have hw2 := own_keepsS hown hS (fun b hb e => by subst e; exact whole_kind_own hown hb2 (by decide) hb)
  refine ⟨h.keeps.and hKS (fun b hb e => ?_), h.res.keeps hKS (fun e => ?_), ?_, ?_, ?_, ?_, h.apart, h.rlen, h.news, Nat.le_trans h.size hKS.size⟩
  · rcases e with e | e
    · have := (h.players.lt b e).1; omega
    · have := h.news.1; omega
  · rcases e with e | e
    · exact offb h.res (by decide) e
    · have := h.news.1; omega
  · rw [List.length_append]; exact hb2.put 0 _
  · rw [List.length_append, show flat Pl.cells (pls ++ [x]) = flat Pl.cells pls ++ Pl.cells x by simp [flat]]
    exact hw2
  · exact own_keepsS h.cards hKS (offo h.cards (by decide) (by decide))
  · refine ⟨own_keepsS h.zones.own hKS (offo h.zones.own (by decide) (by decide)), fun i r hi => ?_⟩
    obtain ⟨Ai, ci, hc, ho⟩ := h.zones.row i r hi
    exact ⟨Ai, ci, hc, own_keepsS ho hKS (offo ho (by decide) (by decide))⟩
/-- The zero state laid into the result's block once more. -/
theorem RefSt.undo (h : RefSt w wr n gs gz Ap cp pls Ac cc cards rows cells) :
    Whole (((((((wr.setCell ⟨w.heap.size, 0, none⟩ (.slice none 0 0)).setCell ⟨w.heap.size, 1, none⟩ (.slice none 0 0)).setCell ⟨w.heap.size, 2, none⟩ (.slice none 0 0)).setCell ⟨w.heap.size, 3, none⟩ (.int .i32 0)).setCell ⟨w.heap.size, 4, none⟩ (.int .i64 0)).setCell ⟨w.heap.size, 5, none⟩ (.int .i8 0)).setCell ⟨w.heap.size, 6, none⟩ (.int .i64 0)) w.heap.size 32 #[.slice none 0 0, .slice none 0 0, .slice none 0 0, .int .i32 0, .int .i64 0, .int .i8 0, .int .i64 0] ∧ Keeps (fun _ => False) w (((((((wr.setCell ⟨w.heap.size, 0, none⟩ (.slice none 0 0)).setCell ⟨w.heap.size, 1, none⟩ (.slice none 0 0)).setCell ⟨w.heap.size, 2, none⟩ (.slice none 0 0)).setCell ⟨w.heap.size, 3, none⟩ (.int .i32 0)).setCell ⟨w.heap.size, 4, none⟩ (.int .i64 0)).setCell ⟨w.heap.size, 5, none⟩ (.int .i8 0)).setCell ⟨w.heap.size, 6, none⟩ (.int .i64 0)) := ⟨(((((((h.res.put 0 (.slice none 0 0)).put 1 (.slice none 0 0)).put 2 (.slice none 0 0)).put 3 (.int .i32 0)).put 4 (.int .i64 0)).put 5 (.int .i8 0)).put 6 (.int .i64 0)),
    (((((((h.keeps.setCell (p := ⟨w.heap.size, 0, none⟩) (fun h => absurd h (Nat.lt_irrefl _)) (.slice none 0 0)).setCell (p := ⟨w.heap.size, 1, none⟩) (fun h => absurd h (Nat.lt_irrefl _)) (.slice none 0 0)).setCell (p := ⟨w.heap.size, 2, none⟩) (fun h => absurd h (Nat.lt_irrefl _)) (.slice none 0 0)).setCell (p := ⟨w.heap.size, 3, none⟩) (fun h => absurd h (Nat.lt_irrefl _)) (.int .i32 0)).setCell (p := ⟨w.heap.size, 4, none⟩) (fun h => absurd h (Nat.lt_irrefl _)) (.int .i64 0)).setCell (p := ⟨w.heap.size, 5, none⟩) (fun h => absurd h (Nat.lt_irrefl _)) (.int .i8 0)).setCell (p := ⟨w.heap.size, 6, none⟩) (fun h => absurd h (Nat.lt_irrefl _)) (.int .i64 0))⟩
end
/-- What the reference's New tells. -/
def RefNewTells (decks : List (List Cd)) (life energy : Int) (w : World) (e : Ending) (w' : World) : Prop :=
  (newOk decks life energy = false → e = .returned (.tuple #[stV stZero none none none 0 0 0, .int .i64 1])) ∧
  (newOk decks life energy = true → ∃ Ap Ac Az cp cc cz, e = .returned (.tuple #[stV (newS decks life energy) Ap Ac Az cp cc cz, .int .i64 0]) ∧ StIn w' w'.heap.size (newS decks life energy) Ap Ac Az) ∧ Keeps (fun _ => False) w w'
theorem RefNewTells.no {decks : List (List Cd)} {life energy : Int} {w w' : World} (h : newOk decks life energy = false) (hk : Keeps (fun _ => False) w w') : RefNewTells decks life energy w (.returned (.tuple #[.agg #[.slice none 0 0, .slice none 0 0, .slice none 0 0, .int .i32 0, .int .i64 0, .int .i8 0, .int .i64 0], .int .i64 1])) w' :=
  ⟨fun _ => rfl, fun h' => (by rw [h] at h'; cases h'), hk⟩
end Go.Proofs.YtgbikcliembkcaaDoor
/-
  The reference's New: the walk. Conditions: lengths within 10 ^ 9.
-/
namespace Go.Proofs.YtgbikcliembkcaaDoor
open Go.RowKit
theorem from_lit (x lo hi : Int) (b : Bool) (h : (decide (lo ≤ x) && decide (x ≤ hi)) = b) (w : World) : Calls Tryd.prog 25 #[.int .i64 x, .int .i64 lo, .int .i64 hi] w fun e w' => e = .returned (.bool b) ∧ w = w' := by subst h; exact (from_any x lo hi w).mono fun _ _ h => ⟨h.1, h.2.symm⟩
theorem refStat_lit (x : Int) (b : Bool) (h : statB x = b) (w : World) : Calls Tryd.prog 26 #[.int .i32 x] w fun e w' => e = .returned (.bool b) ∧ w = w' := by subst h; exact (refStat_any x w).mono fun _ _ h => ⟨h.1, h.2.symm⟩
theorem take_sum_le (xs : List (List Cd)) (h : ∀ d ∈ xs, d.length ≤ 1000000000) : ∀ k, (xs.take k).flatten.length ≤ k * 1000000000 := by
  intro k
  induction k with
  | zero => simp
  | succ k ih =>
    by_cases hk : k < xs.length
    · rw [List.take_succ_eq_append_getElem hk, List.flatten_append, List.length_append]
      have := h _ (List.getElem_mem hk)
      simp only [List.flatten_cons, List.flatten_nil, List.append_nil]
      omega
    · have hk' : xs.length ≤ k := Nat.le_of_not_lt hk
      rw [List.take_of_length_le (Nat.le_succ_of_le hk')]
      rw [List.take_of_length_le hk'] at ih
      exact Nat.le_trans ih (Nat.mul_le_mul_right _ (Nat.le_succ k))
theorem newCards_take {decks : List (List Cd)} {k : Nat} {c : Cd} (h : c ∈ newCards 0 (decks.take k)) : c ∈ newCards 0 decks := by
  have h2 := newCards_append (decks.take k) (decks.drop k) 0
  rw [List.take_append_drop] at h2
  rw [h2]
  exact List.mem_append.2 (.inl h)
theorem RefSt.lie {w wr : World} {decks : List (List Cd)} {life energy : Int} {gs gz : Nat} {Ap : Option Addr} {cp : Nat} {Ac : Option Addr} {cc : Nat} {cells : List Value} (h : RefSt w wr decks.length gs gz Ap cp (List.replicate decks.length ⟨life, energy, false⟩) Ac cc (newCards 0 decks) (newZones 0 decks) cells) : StIn wr wr.heap.size (newS decks life energy) Ap Ac (some ⟨gz, 0, none⟩) :=
  CopyIn.lies (lo := w.heap.size + 1) (cp := cp) (cc := cc) (cz := 4 * decks.length) (cells := cells) ⟨h.players, h.cards, h.zones⟩
theorem undo0 {w w0 : World} (h1 : Whole w0 w.heap.size 32 #[.slice none 0 0, .slice none 0 0, .slice none 0 0, .int .i32 0, .int .i64 0, .int .i8 0, .int .i64 0]) (h2 : Keeps (fun _ => False) w w0) : Whole ((((((((w0.setCell ⟨w.heap.size, 0, none⟩ (.slice none 0 0)).setCell ⟨w.heap.size, 1, none⟩ (.slice none 0 0)).setCell ⟨w.heap.size, 2, none⟩ (.slice none 0 0)).setCell ⟨w.heap.size, 3, none⟩ (.int .i32 0)).setCell ⟨w.heap.size, 4, none⟩ (.int .i64 0)).setCell ⟨w.heap.size, 5, none⟩ (.int .i8 0)).setCell ⟨w.heap.size, 6, none⟩ (.int .i64 0))) w.heap.size 32 #[.slice none 0 0, .slice none 0 0, .slice none 0 0, .int .i32 0, .int .i64 0, .int .i8 0, .int .i64 0] ∧ Keeps (fun _ => False) w ((((((((w0.setCell ⟨w.heap.size, 0, none⟩ (.slice none 0 0)).setCell ⟨w.heap.size, 1, none⟩ (.slice none 0 0)).setCell ⟨w.heap.size, 2, none⟩ (.slice none 0 0)).setCell ⟨w.heap.size, 3, none⟩ (.int .i32 0)).setCell ⟨w.heap.size, 4, none⟩ (.int .i64 0)).setCell ⟨w.heap.size, 5, none⟩ (.int .i8 0)).setCell ⟨w.heap.size, 6, none⟩ (.int .i64 0))) := ⟨(((((((h1.put 0 (.slice none 0 0)).put 1 (.slice none 0 0)).put 2 (.slice none 0 0)).put 3 (.int .i32 0)).put 4 (.int .i64 0)).put 5 (.int .i8 0)).put 6 (.int .i64 0)), (((((((h2.setCell (p := ⟨w.heap.size, 0, none⟩) (fun h => absurd h (Nat.lt_irrefl _)) (.slice none 0 0)).setCell (p := ⟨w.heap.size, 1, none⟩) (fun h => absurd h (Nat.lt_irrefl _)) (.slice none 0 0)).setCell (p := ⟨w.heap.size, 2, none⟩) (fun h => absurd h (Nat.lt_irrefl _)) (.slice none 0 0)).setCell (p := ⟨w.heap.size, 3, none⟩) (fun h => absurd h (Nat.lt_irrefl _)) (.int .i32 0)).setCell (p := ⟨w.heap.size, 4, none⟩) (fun h => absurd h (Nat.lt_irrefl _)) (.int .i64 0)).setCell (p := ⟨w.heap.size, 5, none⟩) (fun h => absurd h (Nat.lt_irrefl _)) (.int .i8 0)).setCell (p := ⟨w.heap.size, 6, none⟩) (fun h => absurd h (Nat.lt_irrefl _)) (.int .i64 0))⟩
theorem new_small0 {decks : List (List Cd)} {life energy : Int} (h : newOk decks life energy = true) : StSmall (newS decks life energy) := by
  simp only [newOk, Bool.and_eq_true, decide_eq_true_eq] at h
  obtain ⟨⟨⟨⟨⟨⟨h1, h2⟩, _⟩, _⟩, _⟩, h3⟩, _⟩ := h
  refine ⟨by simp [newS]; omega, by show (newCards 0 decks).length ≤ _; rw [newCards_length]; omega, by show (newZones 0 decks).length ≤ _; rw [newZones_length]; omega, fun r hr => ?_⟩
  have hr : r ∈ newZones 0 decks := hr
  obtain ⟨z, hz⟩ := List.mem_iff_getElem?.1 hr
  have := flat_next_le _ _ _ hz
  rw [newZones_flatten_length] at this
  omega
set_option maxRecDepth 100000 in
set_option maxHeartbeats 4000000 in
theorem refNew_any (decks : List (List Cd)) (life energy : Int) (A : Option Addr) (B cap : Nat) (w : World) (hx : DecksLie w B A decks) (hB : B ≤ w.heap.size) (hr : ∀ d ∈ decks, d.length ≤ 1000000000) (hdl : decks.length ≤ 1000000000) :
    Calls Tryd.prog 8 #[.slice A decks.length cap, .int .i32 life, .int .i32 energy] w fun e w' => RefNewTells decks life energy w e w' := by
  obtain ⟨w0, hw0⟩ : ∃ z, z = w.alloc (.cells #[.slice none 0 0, .slice none 0 0, .slice none 0 0, .int .i32 0, .int .i64 0, .int .i8 0, .int .i64 0] 32) := ⟨_, rfl⟩
  have KK : Hid (Keeps (fun _ => False) w w0) := Lib.hid (by rw [hw0]; exact (Keeps.refl _ w).alloc _)
  have HM : Hid (Whole w0 w.heap.size 32 #[.slice none 0 0, .slice none 0 0, .slice none 0 0, .int .i32 0, .int .i64 0, .int .i8 0, .int .i64 0]) := Lib.hid (by rw [hw0]; exact Whole.made w _ _)
  have HX := Lib.hid hx
  have HR := Lib.hid hr
  have HTS := Lib.hid (take_sum_le decks hr)
  clear hx hr
  by_cases hn : 2 ≤ decks.length ∧ decks.length ≤ 4
  rotate_left
  · have HF := Lib.hid (newOk_head (decks := decks) (life := life) (energy := energy) (fun h => hn ⟨h.1, h.2.1⟩))
    have hb : (decide ((2 : Int) ≤ (decks.length : Int)) && decide ((decks.length : Int) ≤ 4)) = false := by
      rw [Bool.and_eq_false_iff]; simp only [decide_eq_false_iff_not]; omega
    have HFR := fun w => from_lit (decks.length : Int) 2 4 false hb w
    clear hb hn
    rw [hw0] at HM KK
    clear hw0
    go_enter Tryd.func8, Tryd.ntmps8
    go_wp2_with fail
    refine (HFR _).mono ?_
    rintro e w1 ⟨rfl, rfl⟩
    clear HFR
    go_wp2_with fail
    refine bodyPost_ret (results_cell_tmp2 rfl _ w.heap.size rfl _ _ HM.out _ Tryd.underlying32 rfl (by kernel_rfl)) rfl ?_
    exact RefNewTells.no HF.out KK.out
  obtain ⟨hn2, hn4⟩ := hn
  have hb : (decide ((2 : Int) ≤ (decks.length : Int)) && decide ((decks.length : Int) ≤ 4)) = true := by
    rw [Bool.and_eq_true]; simp only [decide_eq_true_eq]; omega
  have HFR := fun w => from_lit (decks.length : Int) 2 4 true hb w
  clear hb
  go_enter Tryd.func8, Tryd.ntmps8
  go_wp2_with fail
  refine (HFR _).mono ?_
  rintro e w1 ⟨rfl, rfl⟩
  clear HFR
  go_wp2_with fail
  rw [← hw0]
  go_loop [8, 9] (fun vm vi => ∃ k : Nat, k ≤ decks.length ∧ vi = .int .i64 k ∧ vm = .int .i64 ((decks.take k).flatten.length : Nat)) (fun _ vi => decks.length - (intOf vi).toNat)
  case atStart => exact ⟨0, by omega, rfl, by first | rfl | simp⟩
  case round =>
    obtain ⟨k, hk, rfl, rfl⟩ := hrel
    have hts := HTS.out k
    by_cases hlt : k < decks.length
    · have hdk : decks[k]? = some decks[k] := List.getElem?_eq_getElem hlt
      obtain ⟨gd, offd, Ad, cd, hA, hgd, hcd0, _⟩ := HX.out k _ hdk
      subst hA
      have hcd := (KK.out.cell (b := gd) (o := offd + k) (by omega) id).trans hcd0
      have hrd := HR.out _ (List.getElem_mem hlt)
      have HN := Lib.hid (congrArg List.length (flat_take_next decks k _ hdk))
      clear hcd0 hdk hw0
      generalize decks[k] = d at *
      generalize hmm : (decks.take k).flatten.length = m at *
      have HMM := Lib.hid hmm
      clear hmm
      go_wp2_with fail
      go_round
      case rel => exact ⟨k + 1, by omega, by go_num, by have := HN.out; rw [List.length_append, HMM.out] at this; rw [this]; go_num⟩
      case measure => simp [intOf]; omega
    · obtain rfl : k = decks.length := by omega
      rw [List.take_length] at hts
      rw [List.take_length]
      clear hlt hk
      by_cases hm : 1 ≤ decks.flatten.length ∧ decks.flatten.length ≤ 256
      rotate_left
      · have HF := Lib.hid (newOk_total (decks := decks) (life := life) (energy := energy) (by omega))
        have hb : (decide ((1 : Int) ≤ (decks.flatten.length : Int)) && decide ((decks.flatten.length : Int) ≤ 256)) = false := by
          rw [Bool.and_eq_false_iff]; simp only [decide_eq_false_iff_not]; omega
        have HFR := fun w => from_lit (decks.flatten.length : Int) 1 256 false hb w
        have HU : Hid (Whole ((((((((w0.setCell ⟨w.heap.size, 0, none⟩ (.slice none 0 0)).setCell ⟨w.heap.size, 1, none⟩ (.slice none 0 0)).setCell ⟨w.heap.size, 2, none⟩ (.slice none 0 0)).setCell ⟨w.heap.size, 3, none⟩ (.int .i32 0)).setCell ⟨w.heap.size, 4, none⟩ (.int .i64 0)).setCell ⟨w.heap.size, 5, none⟩ (.int .i8 0)).setCell ⟨w.heap.size, 6, none⟩ (.int .i64 0))) w.heap.size 32 #[.slice none 0 0, .slice none 0 0, .slice none 0 0, .int .i32 0, .int .i64 0, .int .i8 0, .int .i64 0] ∧ Keeps (fun _ => False) w ((((((((w0.setCell ⟨w.heap.size, 0, none⟩ (.slice none 0 0)).setCell ⟨w.heap.size, 1, none⟩ (.slice none 0 0)).setCell ⟨w.heap.size, 2, none⟩ (.slice none 0 0)).setCell ⟨w.heap.size, 3, none⟩ (.int .i32 0)).setCell ⟨w.heap.size, 4, none⟩ (.int .i64 0)).setCell ⟨w.heap.size, 5, none⟩ (.int .i8 0)).setCell ⟨w.heap.size, 6, none⟩ (.int .i64 0)))) := Lib.hid (undo0 HM.out KK.out)
        obtain ⟨b0, b1, b2, b3, b4, b5, b6, e0, e1, e2, e3, e4, e5, e6⟩ := seven HM.out
        clear hb hm hw0
        generalize decks.flatten.length = m at *
        go_wp2_with fail
        refine (HFR _).mono ?_
        rintro e w1 ⟨rfl, rfl⟩
        clear HFR
        go_wp2_with fail
        refine bodyPost_ret (results_cell_tmp2 rfl _ w.heap.size rfl _ _ HU.out.1 _ Tryd.underlying32 rfl (by kernel_rfl)) rfl ?_
        exact RefNewTells.no HF.out HU.out.2
      obtain ⟨hm1, hm2⟩ := hm
      have hb : (decide ((1 : Int) ≤ (decks.flatten.length : Int)) && decide ((decks.flatten.length : Int) ≤ 256)) = true := by
        rw [Bool.and_eq_true]; simp only [decide_eq_true_eq]; omega
      have HFR := fun w => from_lit (decks.flatten.length : Int) 1 256 true hb w
      have HTOT : Hid (1 ≤ decks.flatten.length ∧ decks.flatten.length ≤ 256) := Lib.hid ⟨hm1, hm2⟩
      clear hb hm1 hm2
      generalize hme : decks.flatten.length = m at *
      have HME := Lib.hid hme
      clear hts hme
      cases hs1 : statB life
      · have HF := Lib.hid (newOk_head (decks := decks) (life := life) (energy := energy) (fun h => by rw [hs1] at h; exact absurd h.2.2.1 (by decide)))
        have HST := fun w => refStat_lit life false hs1 w
        have HU : Hid (Whole ((((((((w0.setCell ⟨w.heap.size, 0, none⟩ (.slice none 0 0)).setCell ⟨w.heap.size, 1, none⟩ (.slice none 0 0)).setCell ⟨w.heap.size, 2, none⟩ (.slice none 0 0)).setCell ⟨w.heap.size, 3, none⟩ (.int .i32 0)).setCell ⟨w.heap.size, 4, none⟩ (.int .i64 0)).setCell ⟨w.heap.size, 5, none⟩ (.int .i8 0)).setCell ⟨w.heap.size, 6, none⟩ (.int .i64 0))) w.heap.size 32 #[.slice none 0 0, .slice none 0 0, .slice none 0 0, .int .i32 0, .int .i64 0, .int .i8 0, .int .i64 0] ∧ Keeps (fun _ => False) w ((((((((w0.setCell ⟨w.heap.size, 0, none⟩ (.slice none 0 0)).setCell ⟨w.heap.size, 1, none⟩ (.slice none 0 0)).setCell ⟨w.heap.size, 2, none⟩ (.slice none 0 0)).setCell ⟨w.heap.size, 3, none⟩ (.int .i32 0)).setCell ⟨w.heap.size, 4, none⟩ (.int .i64 0)).setCell ⟨w.heap.size, 5, none⟩ (.int .i8 0)).setCell ⟨w.heap.size, 6, none⟩ (.int .i64 0)))) := Lib.hid (undo0 HM.out KK.out)
        obtain ⟨b0, b1, b2, b3, b4, b5, b6, e0, e1, e2, e3, e4, e5, e6⟩ := seven HM.out
        clear hs1 hw0
        go_wp2_with fail
        refine (HFR _).mono ?_
        rintro e w1 ⟨rfl, rfl⟩
        clear HFR
        go_wp2_with fail
        refine (HST _).mono ?_
        rintro e w1 ⟨rfl, rfl⟩
        clear HST
        go_wp2_with fail
        refine bodyPost_ret (results_cell_tmp2 rfl _ w.heap.size rfl _ _ HU.out.1 _ Tryd.underlying32 rfl (by kernel_rfl)) rfl ?_
        exact RefNewTells.no HF.out HU.out.2
      have HST := fun w => refStat_lit life true hs1 w
      cases hs2 : statB energy
      · have HF := Lib.hid (newOk_head (decks := decks) (life := life) (energy := energy) (fun h => by rw [hs2] at h; exact absurd h.2.2.2 (by decide)))
        have HSE := fun w => refStat_lit energy false hs2 w
        have HU : Hid (Whole ((((((((w0.setCell ⟨w.heap.size, 0, none⟩ (.slice none 0 0)).setCell ⟨w.heap.size, 1, none⟩ (.slice none 0 0)).setCell ⟨w.heap.size, 2, none⟩ (.slice none 0 0)).setCell ⟨w.heap.size, 3, none⟩ (.int .i32 0)).setCell ⟨w.heap.size, 4, none⟩ (.int .i64 0)).setCell ⟨w.heap.size, 5, none⟩ (.int .i8 0)).setCell ⟨w.heap.size, 6, none⟩ (.int .i64 0))) w.heap.size 32 #[.slice none 0 0, .slice none 0 0, .slice none 0 0, .int .i32 0, .int .i64 0, .int .i8 0, .int .i64 0] ∧ Keeps (fun _ => False) w ((((((((w0.setCell ⟨w.heap.size, 0, none⟩ (.slice none 0 0)).setCell ⟨w.heap.size, 1, none⟩ (.slice none 0 0)).setCell ⟨w.heap.size, 2, none⟩ (.slice none 0 0)).setCell ⟨w.heap.size, 3, none⟩ (.int .i32 0)).setCell ⟨w.heap.size, 4, none⟩ (.int .i64 0)).setCell ⟨w.heap.size, 5, none⟩ (.int .i8 0)).setCell ⟨w.heap.size, 6, none⟩ (.int .i64 0)))) := Lib.hid (undo0 HM.out KK.out)
        obtain ⟨b0, b1, b2, b3, b4, b5, b6, e0, e1, e2, e3, e4, e5, e6⟩ := seven HM.out
        clear hs1 hs2 hw0
        go_wp2_with fail
        refine (HFR _).mono ?_
        rintro e w1 ⟨rfl, rfl⟩
        clear HFR
        go_wp2_with fail
        refine (HST _).mono ?_
        rintro e w1 ⟨rfl, rfl⟩
        clear HST
        go_wp2_with fail
        refine (HSE _).mono ?_
        rintro e w1 ⟨rfl, rfl⟩
        clear HSE
        go_wp2_with fail
        refine bodyPost_ret (results_cell_tmp2 rfl _ w.heap.size rfl _ _ HU.out.1 _ Tryd.underlying32 rfl (by kernel_rfl)) rfl ?_
        exact RefNewTells.no HF.out HU.out.2
      have HSE := fun w => refStat_lit energy true hs2 w
      have HSS : Hid (statB life = true ∧ statB energy = true) := Lib.hid ⟨hs1, hs2⟩
      clear hs1 hs2 hw0
      go_wp2_with fail
      refine (HFR _).mono ?_
      rintro e w1 ⟨rfl, rfl⟩
      clear HFR
      go_wp2_with fail
      refine (HST _).mono ?_
      rintro e w1 ⟨rfl, rfl⟩
      clear HST
      go_wp2_with fail
      refine (HSE _).mono ?_
      rintro e w1 ⟨rfl, rfl⟩
      clear HSE
      have hmkz : ∀ w : World, (Instr.makeSlice 29 (.int .i64 (4 * (decks.length : Int))) (.int .i64 (4 * (decks.length : Int)))).run Tryd.prog w = .ok (.slice (some ⟨w.heap.size, 0, none⟩) (4 * decks.length) (4 * decks.length)) (w.alloc (.cells (madeCells #[.slice none 0 0] (4 * decks.length)) 74)) := fun w => by
        have := run_make_row' (P := Tryd.prog) 29 74 (.slice none 0 0) 24 Tryd.underlying29 info_row rfl .i64 .i64 (4 * decks.length) (by omega) (by omega) w
        rwa [show ((4 * decks.length : Nat) : Int) = 4 * (decks.length : Int) by omega] at this
      go_wp2_with fail
      clear hmkz
      have hz0 : (w0.alloc (.cells (madeCells #[.slice none 0 0] (4 * decks.length)) 74)).heap.size = w0.heap.size + 1 := by simp
      have hsw : w.heap.size + 1 ≤ w0.heap.size := by have := HM.out.inside; omega
      have R0 : Hid (RefSt w ((w0.alloc (.cells (madeCells #[.slice none 0 0] (4 * decks.length)) 74)).alloc (.cells #[.slice none 0 0, .slice none 0 0, .slice (some ⟨w0.heap.size, 0, none⟩) (4 * decks.length) (4 * decks.length), .int .i32 1, .int .i64 0, .int .i8 0, .int .i64 0] 32)) decks.length (w0.heap.size + 1) w0.heap.size none 0 (List.replicate 0 ⟨life, energy, false⟩) none 0 (newCards 0 (decks.take 0)) (newZones 0 (decks.take 0) ++ List.replicate (4 * (decks.length - 0)) []) (List.replicate (4 * decks.length) (.slice none 0 0))) := Lib.hid (by
        have k2 : Keeps (fun _ => False) w0 ((w0.alloc (.cells (madeCells #[.slice none 0 0] (4 * decks.length)) 74)).alloc (.cells #[.slice none 0 0, .slice none 0 0, .slice (some ⟨w0.heap.size, 0, none⟩) (4 * decks.length) (4 * decks.length), .int .i32 1, .int .i64 0, .int .i8 0, .int .i64 0] 32)) := ((Keeps.refl _ _).alloc _).alloc _
        have hb := Whole.made (w0.alloc (.cells (madeCells #[.slice none 0 0] (4 * decks.length)) 74)) 32 #[.slice none 0 0, .slice none 0 0, .slice (some ⟨w0.heap.size, 0, none⟩) (4 * decks.length) (4 * decks.length), .int .i32 1, .int .i64 0, .int .i8 0, .int .i64 0]
        rw [hz0] at hb
        have hzz := RowsOwn.made (B := w.heap.size + 1) ((Whole.made w0 74 (madeCells #[.slice none 0 0] (4 * decks.length))).alloc (.cells #[.slice none 0 0, .slice none 0 0, .slice (some ⟨w0.heap.size, 0, none⟩) (4 * decks.length) (4 * decks.length), .int .i32 1, .int .i64 0, .int .i8 0, .int .i64 0] 32)) hsw (by simp only [maxLen]; omega)
        refine ⟨KK.out.trans k2, HM.out.keeps k2 id, hb, World.ownsRow_nil _ _ _ _, World.ownsRow_nil _ _ _ _, ?_, CellsApart.nils _, by simp [newZones], ⟨by omega, by omega⟩, by simp; omega⟩
        simpa [newZones] using hzz)
      clear KK HM
      generalize (w0.alloc (.cells (madeCells #[.slice none 0 0] (4 * decks.length)) 74)).alloc (.cells #[.slice none 0 0, .slice none 0 0, .slice (some ⟨w0.heap.size, 0, none⟩) (4 * decks.length) (4 * decks.length), .int .i32 1, .int .i64 0, .int .i8 0, .int .i64 0] 32 ) = v0 at *
      clear hz0 hsw
      generalize w0.heap.size + 1 = gs at *
      generalize w0.heap.size = gz at *
      go_loopw [11] (fun vi wr => ∃ (p cc cp : Nat) (Ac Ap : Option Addr) (pls : List Pl) (cells : List Value), p ≤ decks.length ∧ vi = .int .i64 p ∧ Hid (RefSt w wr decks.length gs gz Ap cp pls Ac cc (newCards 0 (decks.take p)) (newZones 0 (decks.take p) ++ List.replicate (4 * (decks.length - p)) []) cells) ∧ Hid (∀ c ∈ newCards 0 (decks.take p), cardB decks.length c = true) ∧ Hid (pls = List.replicate p ⟨life, energy, false⟩)) (fun vi _ => decks.length - (intOf vi).toNat)
      case atStart => exact ⟨0, 0, 0, none, none, _, _, by omega, rfl, R0, Lib.hid (by simp [newCards]), Lib.hid rfl⟩
      case round =>
        clear R0
        obtain ⟨p, cc, cp, Ac, Ap, pls, cells, hp, rfl, HN, HG, HPL⟩ := hrel
        by_cases hlt : p < decks.length
        · have hdp : decks[p]? = some decks[p] := List.getElem?_eq_getElem hlt
          obtain ⟨gd, offd, Ad, cd, hA, hgd, hcd0, hld0⟩ := HX.out p _ hdp
          subst hA
          have HCD := Lib.hid hcd0
          have HLD := Lib.hid hld0
          clear hcd0 hld0
          have hrd := HR.out _ (List.getElem_mem hlt)
          have hpl : pls.length ≤ 4 := by rw [HPL.out, List.length_replicate]; omega
          have HCL : Hid ((newCards 0 (decks.take p)).length = (decks.take p).flatten.length) := Lib.hid (newCards_length _ _)
          have hfl : (newCards 0 (decks.take p)).length + decks[p].length ≤ 256 := by have h1 := flat_next_le decks p _ hdp; have h2 := HTOT.out; have h3 := HME.out; have h4 := HCL.out; omega
          have HDP := Lib.hid hdp
          obtain ⟨a0, a1, a2, a3, a4, a5, a6, f0, f1, f2, f3, f4, f5, f6⟩ := seven HN.out.box
          clear hdp
          have HR0 := Lib.hid (rows_there hlt 0)
          have HZN := Lib.hid (zones_next HDP.out)
          have HCN := Lib.hid (cards_next HDP.out)
          have HBC : Hid (∀ j (h : j < decks[p].length), cardB decks.length (ownedBy p decks[p][j]) = false → newOk decks life energy = false) := Lib.hid (fun j h hb => newOk_card (c := ownedBy p decks[p][j]) (by
            refine newCards_take (k := p + 1) ?_
            rw [← HCN.out]
            exact List.mem_append.2 (.inr (List.mem_map.2 ⟨decks[p][j], List.getElem_mem h, rfl⟩))) hb)
          generalize decks[p] = d at *
          generalize hce : newCards 0 (decks.take p) = cards at *
          have HCE := Lib.hid hce
          clear hce
          have N1 := Lib.hid (HN.out.calm ((Keeps.refl _ wr).alloc (.cells #[.int .i32 life, .int .i32 energy, .bool false] 72)))
          have HNL : Hid (Lies (wr.alloc (.cells #[.int .i32 life, .int .i32 energy, .bool false] 72)) (wr.heap.size + 1) (some ⟨wr.heap.size, 0, none⟩) (Pl.cells ⟨life, energy, false⟩)) := Lib.hid (Lies.row (fr := (0, 0)) (Whole.made wr 72 #[.int .i32 life, .int .i32 energy, .bool false]) (Nat.lt_succ_self _))
          have HONE : Hid (∀ u ∈ Pl.cells ⟨life, energy, false⟩, u.oneCell' = true) := Lib.hid (by have h := cells_one_pl [(⟨life, energy, false⟩ : Pl)]; simpa [flat] using h)
          have hsgs := HN.out.box.inside
          clear HN f0 f1 f2 f3 f4 f5 f6
          go_wp2_with (first
            | (at_builtin
               refine wpList_append_cells _ rfl _ _ 28 rfl (w.heap.size + 1) 72 (.agg #[.int .i32 0, .int .i32 0, .bool false]) 3 12 Tryd.underlying28 info_pl rfl (by decide) (.slice Ap pls.length cp) pls.length (flat Pl.cells pls) rfl N1.out.players _ (some ⟨wr.heap.size, 0, none⟩) 1 1 (Pl.cells ⟨life, energy, false⟩) rfl HNL.out rfl HONE.out (by simp only [maxLen]; omega) (by omega) N1.out.size ?_
               intro A3 c3 w3 hown3 hg3 hor3 _ _
               have hq3 := ((N1.out.playerOut hg3).cellAt 0).trans rfl
               have hr3 := (N1.out.playerOut hg3).free 0))
          have N2 := Lib.hid (N1.out.player hg3 hown3)
          clear N1 HNL HONE hg3 hown3 hor3 hq3 hr3 a0 a1 a2 a3 a4 a5 a6 hsgs
          generalize w3.setCell ⟨gs, 0, none⟩ (.slice A3 (pls.length + 1) c3) = v1 at *
          have HPL2 : Hid (pls ++ [(⟨life, energy, false⟩ : Pl)] = List.replicate (p + 1) ⟨life, energy, false⟩) := Lib.hid (by rw [HPL.out, List.replicate_succ'])
          clear HPL
          have hpl2 : (pls ++ [(⟨life, energy, false⟩ : Pl)]).length ≤ 5 := by simp; omega
          generalize pls ++ [(⟨life, energy, false⟩ : Pl)] = pls2 at *
          clear hpl
          have N3 : Hid (RefSt w v1 decks.length gs gz A3 c3 pls2 Ac cc (cards ++ (d.take 0).map (ownedBy p)) ((newZones 0 (decks.take p) ++ List.replicate (4 * (decks.length - p)) []).set (4 * p) (rangeI cards.length 0)) cells) := Lib.hid (by
            have h := N2.out
            rw [show rangeI cards.length 0 = [] from rfl, set_same _ _ _ HR0.out]
            simpa using h)
          clear N2
          generalize newZones 0 (decks.take p) ++ List.replicate (4 * (decks.length - p)) [] = rows at *
          go_loopw [12] (fun vi wr => ∃ (j cc : Nat) (Ac : Option Addr) (cells : List Value), j ≤ d.length ∧ vi = .int .i64 j ∧ Hid (RefSt w wr decks.length gs gz A3 c3 pls2 Ac cc (cards ++ (d.take j).map (ownedBy p)) (rows.set (4 * p) (rangeI cards.length j)) cells) ∧ Hid (∀ c ∈ (d.take j).map (ownedBy p), cardB decks.length c = true)) (fun vi _ => d.length - (intOf vi).toNat)
          case atStart => exact ⟨0, cc, Ac, cells, by omega, rfl, N3, Lib.hid (by simp)⟩
          case round =>
            clear N3
            obtain ⟨j, cc, Ac, cells, hj, rfl, HN, HGJ⟩ := hrel
            have hcd := (HN.out.keeps.cell (b := gd) (o := offd + p) (by omega) id).trans HCD.out
            by_cases hlj : j < d.length
            · obtain ⟨g, off, hA, hg, k0, k1, k2, k3, k4, k5⟩ := CdLies.cells (FLies.keeps HLD.out HN.out.keeps (fun _ _ => id) hB) j d[j] (List.getElem?_eq_getElem hlj)
              subst hA
              have HBJ := Lib.hid (HBC.out j hlj)
              have HTK : Hid ((d.take (j + 1)).map (ownedBy p) = (d.take j).map (ownedBy p) ++ [ownedBy p d[j]]) := Lib.hid (by rw [List.take_succ_eq_append_getElem hlj, List.map_append]; rfl)
              have hcj : (cards ++ (d.take j).map (ownedBy p)).length = cards.length + j := by rw [List.length_append, List.length_map, List.length_take, Nat.min_eq_left hj]
              have HCJ := Lib.hid hcj
              clear hcj
              have HRJ : Hid ((rows.set (4 * p) (rangeI cards.length j))[4 * p]? = some (rangeI cards.length j)) := Lib.hid (by rw [List.getElem?_set, if_pos rfl, if_pos ((List.getElem?_eq_some_iff.1 HR0.out).1)])
              have HRN : Hid ((rows.set (4 * p) (rangeI cards.length j)).set (4 * p) (rangeI cards.length j ++ [((cards.length + j : Nat) : Int)]) = rows.set (4 * p) (rangeI cards.length (j + 1))) := Lib.hid (by rw [List.set_set, rangeI_next])
              generalize d[j] = x at *
              go_wp2_with fail
              refine (refCard_any (ownedBy p x) decks.length _ (by omega)).mono ?_
              rintro e w1 ⟨rfl, kc⟩
              have N2 := Lib.hid ((HN.out.calm ((Keeps.refl _ wr).alloc (.cells #[.int .i64 x.kind, .int .i64 p, .int .i32 x.power, .int .i32 x.health, .int .i32 x.damage, .int .i32 x.marks] 68))).calm kc)
              have HCB := Lib.hid ((Whole.made wr 68 #[.int .i64 x.kind, .int .i64 p, .int .i32 x.power, .int .i32 x.health, .int .i32 x.damage, .int .i32 x.marks]).keeps kc id)
              clear kc k0 k1 k2 k3 k4 k5 hcd
              cases hcb : cardB decks.length (ownedBy p x)
              · have HF := Lib.hid (HBJ.out hcb)
                have HU := Lib.hid N2.out.undo
                obtain ⟨b0, b1, b2, b3, b4, b5, b6, e0, e1, e2, e3, e4, e5, e6⟩ := seven N2.out.res
                go_wp2_with fail
                refine bodyPost_ret (results_cell_tmp2 rfl _ w.heap.size rfl _ _ HU.out.1 _ Tryd.underlying32 rfl (by kernel_rfl)) rfl ?_
                exact RefNewTells.no HF.out HU.out.2
              · have HGC := Lib.hid hcb
                clear hcb HN
                generalize wr.heap.size = gb at *
                generalize hcje : cards ++ (d.take j).map (ownedBy p) = cj at *
                have HCE2 := Lib.hid hcje
                clear hcje
                have hrl0 : (rows.set (4 * p) (rangeI cards.length j)).length = 4 * decks.length := N2.out.rlen
                obtain ⟨Az, cz, hcell, hoz⟩ := N2.out.zones.row (4 * p) _ HRJ.out
                rw [rangeI_length] at hcell hoz
                have hzc := (N2.out.zones.own.cellAt (4 * p) (by omega)).trans hcell
                have hfz := N2.out.zones.own.frozenAt (4 * p)
                have HOZ := Lib.hid hoz
                have HCELL := Lib.hid hcell
                have HRL := Lib.hid hrl0
                have hjd : j ≤ 256 := by omega
                have hcl : cj.length ≤ 256 := by have := HCJ.out; omega
                clear hcell hoz hrl0
                obtain ⟨a0, a1, a2, a3, a4, a5, a6, f0, f1, f2, f3, f4, f5, f6⟩ := seven N2.out.box
                go_wp2_with fail
                refine region_cut (fun a a' w' => (∃ u89 u90 u91 u92 u93 u94 u95 u96 u97 u98 u99 u100 u101 u102 u103 u104 : Value, a' = ((((((((((((((((a.put (some 89) u89).put (some 90) u90).put (some 91) u91).put (some 92) u92).put (some 93) u93).put (some 94) u94).put (some 95) u95).put (some 96) u96).put (some 97) u97).put (some 98) u98).put (some 99) u99).put (some 100) u100).put (some 101) u101).put (some 102) u102).put (some 103) u103).put (some 104) u104)) ∧ ∃ cells', RefSt w w' decks.length gs gz A3 c3 pls2 Ac cc cj (rows.set (4 * p) (rangeI cards.length (j + 1))) cells' ∧ Whole w' gb 68 #[.int .i64 x.kind, .int .i64 p, .int .i32 x.power, .int .i32 x.health, .int .i32 x.damage, .int .i32 x.marks]) ?_ ?_
                · have hw1 : IntKind.i64.wrap (4 * (p : Int)) = 4 * (p : Int) := by rw [IntKind.wrap_i64]; omega
                  have hnn : (0 : Int) ≤ 4 * (p : Int) := by omega
                  have htn : (4 * (p : Int)).toNat = 4 * p := by omega
                  have hl4 : 4 * (p : Int) < 4 * (decks.length : Int) := by omega
                  refine wp_region_held_drew (S := fun W => W.cell? ⟨gs, 1, none⟩ = some (.slice Ac cj.length cc) ∧ W.cell? ⟨gs, 2, none⟩ = some (.slice (some ⟨gz, 0, none⟩) (4 * decks.length) (4 * decks.length))) (by kernel_rfl) (⟨a1, a2⟩) ?_
                  intro hSn
                  have hzd : w1.drew.cell? ⟨gz, 4 * p, none⟩ = some (.slice Az j cz) := hzc
                  have N3 := Lib.hid (N2.out.calm ((Keeps.refl _ w1).drew))
                  have HC3 := Lib.hid (HCB.out.drew)
                  have HO3 := Lib.hid (HOZ.out.drew)
                  clear a0 a1 a2 a3 a4 a5 a6 f0 f1 f2 f3 f4 f5 f6 hzc hfz
                  generalize w1.drew = wd at *
                  have hgz : gz < wd.heap.size := (N3.out.zones.own.lt gz rfl).2
                  have N4 := Lib.hid (N3.out.calm ((Keeps.refl _ wd).alloc (.cells #[.int .i64 (cj.length : Int)] 3)))
                  have HC4 := Lib.hid (HC3.out.alloc (.cells #[.int .i64 (cj.length : Int)] 3))
                  have HO4 := Lib.hid (HO3.out.alloc (.cells #[.int .i64 (cj.length : Int)] 3))
                  have HNL : Hid (Lies (wd.alloc (.cells #[.int .i64 (cj.length : Int)] 3)) (wd.heap.size + 1) (some ⟨wd.heap.size, 0, none⟩) [.int .i64 (cj.length : Int)]) := Lib.hid (Lies.row (fr := (0, 0)) (Whole.made wd 3 #[.int .i64 (cj.length : Int)]) (Nat.lt_succ_self _))
                  refine wpAnyH_take (i := 0) (v := ?v1) rfl (by kernel_rfl) (by kernel_rfl) (by kernel_rfl) (fun _ _ _ h => by first | exact h | exact absurd h.1 (fun e => by cases e)) (Or.inl ⟨by rfl, ?hy1⟩) (by assumption) ?rest1
                  case hy1 =>
                    intro w hSw
                    obtain ⟨s1, s2⟩ := hSw
                    go_simp
                    try with_reducible rfl
                  go_simp
                  refine wpAnyH_take (i := 1) (v := ?v2) rfl (by kernel_rfl) (by kernel_rfl) (by kernel_rfl) (fun _ _ _ h => by first | exact h | exact absurd h.1 (fun e => by cases e)) (Or.inl ⟨by rfl, ?hy2⟩) (by assumption) ?rest2
                  case hy2 =>
                    intro w hSw
                    obtain ⟨s1, s2⟩ := hSw
                    go_simp
                    try with_reducible rfl
                  go_simp
                  refine wpAnyH_take (i := 2) (v := ?v3) rfl (by kernel_rfl) (by kernel_rfl) (by kernel_rfl) (fun _ _ _ h => by first | exact h | exact absurd h.1 (fun e => by cases e)) (Or.inl ⟨by rfl, ?hy3⟩) (by assumption) ?rest3
                  case hy3 =>
                    intro w hSw
                    obtain ⟨s1, s2⟩ := hSw
                    go_simp
                    try with_reducible rfl
                  go_simp
                  refine wpAnyH_take (i := 3) (v := ?v4) rfl (by kernel_rfl) (by kernel_rfl) (by kernel_rfl) (fun _ _ _ h => by first | exact h | exact absurd h.1 (fun e => by cases e)) (Or.inl ⟨by rfl, ?hy4⟩) (by assumption) ?rest4
                  case hy4 =>
                    intro w hSw
                    obtain ⟨s1, s2⟩ := hSw
                    go_simp
                    try with_reducible rfl
                  go_simp
                  refine wpAnyH_take (i := 4) (v := ?v5) rfl (by kernel_rfl) (by kernel_rfl) (by kernel_rfl) (fun _ _ _ h => by first | exact h | exact absurd h.1 (fun e => by cases e)) (Or.inl ⟨by rfl, ?hy5⟩) (by assumption) ?rest5
                  case hy5 =>
                    intro w hSw
                    obtain ⟨s1, s2⟩ := hSw
                    go_simp
                    try with_reducible rfl
                  go_simp
                  refine wpAnyH_take (i := 5) (v := ?v6) rfl (by kernel_rfl) (by kernel_rfl) (by kernel_rfl) (fun _ _ _ h => by first | exact h | exact absurd h.1 (fun e => by cases e)) (Or.inl ⟨by rfl, ?hy6⟩) (by assumption) ?rest6
                  case hy6 =>
                    intro w hSw
                    obtain ⟨s1, s2⟩ := hSw
                    go_simp
                    try with_reducible rfl
                  go_simp
                  refine wpAnyH_take (i := 6) (v := ?v7) rfl (by kernel_rfl) (by kernel_rfl) (by kernel_rfl) (fun _ _ _ h => by first | exact h | exact absurd h.1 (fun e => by cases e)) (Or.inl ⟨by rfl, ?hy7⟩) (by assumption) ?rest7
                  case hy7 =>
                    intro w hSw
                    obtain ⟨s1, s2⟩ := hSw
                    go_simp
                    try with_reducible rfl
                  go_simp
                  refine wpAnyH_take (i := 7) (v := ?v8) rfl (by kernel_rfl) (by kernel_rfl) (by kernel_rfl) (fun _ _ _ h => by first | exact h | exact absurd h.1 (fun e => by cases e)) (Or.inl ⟨by rfl, ?hy8⟩) (by assumption) ?rest8
                  case hy8 =>
                    intro w hSw
                    obtain ⟨s1, s2⟩ := hSw
                    go_simp
                    try with_reducible rfl
                  go_simp
                  refine wpAnyH_take (i := 8) (v := ?v9) rfl (by kernel_rfl) (by kernel_rfl) (by kernel_rfl) (fun _ _ _ h => by first | exact h | exact absurd h.1 (fun e => by cases e)) (Or.inl ⟨by rfl, ?hy9⟩) (by assumption) ?rest9
                  case hy9 =>
                    intro w hSw
                    obtain ⟨s1, s2⟩ := hSw
                    go_simp
                    try with_reducible rfl
                  go_simp
                  refine wpAnyH_take (i := 10) (v := ?v10) rfl (by kernel_rfl) (by kernel_rfl) (by kernel_rfl) (fun _ _ _ h => by first | exact h | exact absurd h.1 (fun e => by cases e)) (Or.inl ⟨by rfl, ?hy10⟩) (by assumption) ?rest10
                  case hy10 =>
                    intro w hSw
                    obtain ⟨s1, s2⟩ := hSw
                    go_simp
                    try with_reducible rfl
                  go_simp
                  refine wpAnyH_take (i := 11) (v := ?v11) rfl (by kernel_rfl) (by kernel_rfl) (by kernel_rfl) (fun _ _ _ h => by first | exact h | exact absurd h.1 (fun e => by cases e)) (Or.inl ⟨by rfl, ?hy11⟩) (by assumption) ?rest11
                  case hy11 =>
                    intro w hSw
                    obtain ⟨s1, s2⟩ := hSw
                    go_simp
                    try with_reducible rfl
                  go_simp
                  refine wpAnyH_take (i := 12) (v := ?v12) rfl (by kernel_rfl) (by kernel_rfl) (by kernel_rfl) (fun _ _ _ h => by first | exact h | exact absurd h.1 (fun e => by cases e)) (Or.inl ⟨by rfl, ?hy12⟩) (by assumption) ?rest12
                  case hy12 =>
                    intro w hSw
                    obtain ⟨s1, s2⟩ := hSw
                    go_simp
                    try with_reducible rfl
                  go_simp
                  refine wpAnyH_ready (rs := [9, 13]) (by kernel_rfl) (by simp) ?_
                  refine AllReadyH.cons rfl (fun K hK => ?sa) (AllReadyH.cons rfl (fun K hK => ?sb) AllReadyH.nil)
                  case sa =>
                    go_simp
                    refine hK.out _ _ (hSn) (fun hSn => ?_)
                    clear hK K
                    go_simp
                    refine wpAnyH_ready (rs := [13]) (by kernel_rfl) (by simp) ?_
                    refine AllReadyH.cons rfl (fun K hK => ?_) AllReadyH.nil
                    go_simp
                    refine hK.out _ _ (⟨(N4.out.box.cellAt 1).trans rfl, (N4.out.box.cellAt 2).trans rfl⟩) (fun hSn => ?_)
                    clear hK K
                    go_simp
                    refine wpAnyH_ready (rs := [14]) (by kernel_rfl) (by simp) ?_
                    refine AllReadyH.cons rfl (fun K hK => ?_) AllReadyH.nil
                    refine step_if (by rfl) ?_
                    refine wp_append_cells _ _ _ 74 rfl (w.heap.size + 1) 3 (.int .i64 0) 1 8 Tryd.underlying74 info_int rfl (by decide) (.slice Az j cz) j ((rangeI cards.length j).map (Value.int .i64)) rfl HO4.out _ (some ⟨wd.heap.size, 0, none⟩) 1 1 [.int .i64 (cj.length : Int)] rfl HNL.out rfl (fun u hu => by obtain rfl : u = _ := List.mem_singleton.1 hu; rfl) (by simp only [maxLen]; omega) (by omega) N4.out.size ?_
                    intro A5 c5 w2 hown hg2 hor _ _
                    have HZ5 := Lib.hid (N4.out.zoneOut HRJ.out HCELL.out hg2)
                    have HC5 := Lib.hid (N4.out.zoneOff HRJ.out HCELL.out hg2 HC4.out (by decide) (by decide) (.slice A5 (j + 1) c5))
                    have hown' : w2.ownsRow (w.heap.size + 1) 3 1 (.slice A5 (j + 1) c5) (j + 1) ((rangeI cards.length j).map (Value.int .i64) ++ [.int .i64 ((cards.length + j : Nat) : Int)]) := by rw [← HCJ.out]; exact hown
                    have N5 := Lib.hid (N4.out.zone HRJ.out HCELL.out hg2 (rangeI_length _ _).symm hown' hor)
                    rw [HRN.out] at N5
                    have hz2 := HZ5.out.1
                    have hf2 := HZ5.out.2.1
                    have hzs : gz ≠ gs := HZ5.out.2.2.1
                    have hsz : gs ≠ gz := hzs.symm
                    refine hK.out _ _ (⟨(HZ5.out.2.2.2.cellAt 1).trans rfl, (HZ5.out.2.2.2.cellAt 2).trans rfl⟩) (fun hSn => ?_)
                    clear hK K
                    go_simp
                    refine wpAnyH_take (i := 15) (v := ?v13) rfl (by kernel_rfl) (by kernel_rfl) (by kernel_rfl) (fun _ _ _ h => by first | exact h | exact absurd h.1 (fun e => by cases e)) (Or.inl ⟨by rfl, ?hy13⟩) (by assumption) ?rest13
                    case hy13 =>
                      intro w hSw
                      obtain ⟨s1, s2⟩ := hSw
                      go_simp
                      try with_reducible rfl
                    go_simp
                    refine wpAnyH_ready (rs := [16]) (by kernel_rfl) (by simp) ?_
                    refine AllReadyH.cons rfl (fun K hK => ?_) AllReadyH.nil
                    go_simp
                    refine hK.out _ _ (⟨(N5.out.box.cellAt 1).trans rfl, (N5.out.box.cellAt 2).trans rfl⟩) (fun hSn => ?_)
                    clear hK K
                    go_simp
                    refine wpAnyH_done (by kernel_rfl) ?_ _
                    exact ⟨rfl, ⟨_, _, _, _, _, _, _, _, _, _, _, _, _, _, _, _, rfl⟩, ⟨_, N5.out⟩, HC5.out⟩
                  case sb =>
                    go_simp
                    refine hK.out _ _ (⟨(N4.out.box.cellAt 1).trans rfl, (N4.out.box.cellAt 2).trans rfl⟩) (fun hSn => ?_)
                    clear hK K
                    go_simp
                    refine wpAnyH_ready (rs := [9]) (by kernel_rfl) (by simp) ?_
                    refine AllReadyH.cons rfl (fun K hK => ?_) AllReadyH.nil
                    go_simp
                    refine hK.out _ _ (hSn) (fun hSn => ?_)
                    clear hK K
                    go_simp
                    refine wpAnyH_ready (rs := [14]) (by kernel_rfl) (by simp) ?_
                    refine AllReadyH.cons rfl (fun K hK => ?_) AllReadyH.nil
                    refine step_if (by rfl) ?_
                    refine wp_append_cells _ _ _ 74 rfl (w.heap.size + 1) 3 (.int .i64 0) 1 8 Tryd.underlying74 info_int rfl (by decide) (.slice Az j cz) j ((rangeI cards.length j).map (Value.int .i64)) rfl HO4.out _ (some ⟨wd.heap.size, 0, none⟩) 1 1 [.int .i64 (cj.length : Int)] rfl HNL.out rfl (fun u hu => by obtain rfl : u = _ := List.mem_singleton.1 hu; rfl) (by simp only [maxLen]; omega) (by omega) N4.out.size ?_
                    intro A5 c5 w2 hown hg2 hor _ _
                    have HZ5 := Lib.hid (N4.out.zoneOut HRJ.out HCELL.out hg2)
                    have HC5 := Lib.hid (N4.out.zoneOff HRJ.out HCELL.out hg2 HC4.out (by decide) (by decide) (.slice A5 (j + 1) c5))
                    have hown' : w2.ownsRow (w.heap.size + 1) 3 1 (.slice A5 (j + 1) c5) (j + 1) ((rangeI cards.length j).map (Value.int .i64) ++ [.int .i64 ((cards.length + j : Nat) : Int)]) := by rw [← HCJ.out]; exact hown
                    have N5 := Lib.hid (N4.out.zone HRJ.out HCELL.out hg2 (rangeI_length _ _).symm hown' hor)
                    rw [HRN.out] at N5
                    have hz2 := HZ5.out.1
                    have hf2 := HZ5.out.2.1
                    have hzs : gz ≠ gs := HZ5.out.2.2.1
                    have hsz : gs ≠ gz := hzs.symm
                    refine hK.out _ _ (⟨(HZ5.out.2.2.2.cellAt 1).trans rfl, (HZ5.out.2.2.2.cellAt 2).trans rfl⟩) (fun hSn => ?_)
                    clear hK K
                    go_simp
                    refine wpAnyH_take (i := 15) (v := ?v14) rfl (by kernel_rfl) (by kernel_rfl) (by kernel_rfl) (fun _ _ _ h => by first | exact h | exact absurd h.1 (fun e => by cases e)) (Or.inl ⟨by rfl, ?hy14⟩) (by assumption) ?rest14
                    case hy14 =>
                      intro w hSw
                      obtain ⟨s1, s2⟩ := hSw
                      go_simp
                      try with_reducible rfl
                    go_simp
                    refine wpAnyH_ready (rs := [16]) (by kernel_rfl) (by simp) ?_
                    refine AllReadyH.cons rfl (fun K hK => ?_) AllReadyH.nil
                    go_simp
                    refine hK.out _ _ (⟨(N5.out.box.cellAt 1).trans rfl, (N5.out.box.cellAt 2).trans rfl⟩) (fun hSn => ?_)
                    clear hK K
                    go_simp
                    refine wpAnyH_done (by kernel_rfl) ?_ _
                    exact ⟨rfl, ⟨_, _, _, _, _, _, _, _, _, _, _, _, _, _, _, _, rfl⟩, ⟨_, N5.out⟩, HC5.out⟩
                · rintro a' w2 ⟨⟨u89, u90, u91, u92, u93, u94, u95, u96, u97, u98, u99, u100, u101, u102, u103, u104, rfl⟩, cells', N6, HC6⟩
                  simp only [Act.put, List.setIfInBounds_toArray, List.set_cons_zero, List.set_cons_succ]
                  clear N2 HCB HOZ HCELL HRJ hzc hfz a0 a1 a2 a3 a4 a5 a6 f0 f1 f2 f3 f4 f5 f6
                  have N7 := Lib.hid N6
                  have HC7 := Lib.hid HC6
                  clear N6 HC6
                  obtain ⟨a0, a1, a2, a3, a4, a5, a6, f0, f1, f2, f3, f4, f5, f6⟩ := seven N7.out.box
                  obtain ⟨h0, h1', h2', h3', h4', h5'⟩ := sixs HC7.out
                  have hsgs := N7.out.box.inside
                  have hsgb := HC7.out.inside
                  have N8 := Lib.hid (N7.out.calm ((Keeps.refl _ w2).alloc (.cells #[.int .i64 x.kind, .int .i64 p, .int .i32 x.power, .int .i32 x.health, .int .i32 x.damage, .int .i32 x.marks] 68)))
                  have HNL : Hid (Lies (w2.alloc (.cells #[.int .i64 x.kind, .int .i64 p, .int .i32 x.power, .int .i32 x.health, .int .i32 x.damage, .int .i32 x.marks] 68)) (w2.heap.size + 1) (some ⟨w2.heap.size, 0, none⟩) (Cd.cells (ownedBy p x))) := Lib.hid (Lies.row (fr := (0, 0)) (Whole.made w2 68 #[.int .i64 x.kind, .int .i64 p, .int .i32 x.power, .int .i32 x.health, .int .i32 x.damage, .int .i32 x.marks]) (Nat.lt_succ_self _))
                  have HONE : Hid (∀ u ∈ Cd.cells (ownedBy p x), u.oneCell' = true) := Lib.hid (by have h := cells_one_cd [ownedBy p x]; simpa [flat] using h)
                  go_wp2_with (first
                    | (at_builtin
                       refine wpList_append_cells _ rfl _ _ 26 rfl (w.heap.size + 1) 68 (.agg #[.int .i64 0, .int .i64 0, .int .i32 0, .int .i32 0, .int .i32 0, .int .i32 0]) 6 32 Tryd.underlying26 info_cd rfl (by decide) (.slice Ac cj.length cc) cj.length (flat Cd.cells cj) rfl N8.out.cards _ (some ⟨w2.heap.size, 0, none⟩) 1 1 (Cd.cells (ownedBy p x)) rfl HNL.out rfl HONE.out (by simp only [maxLen]; omega) (by omega) N8.out.size ?_
                       intro A4 c4 w4 hown4 hg4 hor4 _ _
                       have hq4 := ((N8.out.cardOut hg4).cellAt 1).trans rfl
                       have hr4 := (N8.out.cardOut hg4).free 1))
                  have N9 := N8.out.card hg4 hown4
                  have hcx : cj ++ [ownedBy p x] = cards ++ (d.take (j + 1)).map (ownedBy p) := by rw [HTK.out, ← HCE2.out, List.append_assoc]
                  rw [hcx] at N9
                  have HGN : Hid (∀ c ∈ (d.take (j + 1)).map (ownedBy p), cardB decks.length c = true) := Lib.hid (fun c hc => by
                    rw [HTK.out] at hc
                    rcases List.mem_append.1 hc with h | h
                    · exact HGJ.out c h
                    · rw [List.mem_singleton.1 h]; exact HGC.out)
                  exact ⟨⟨j + 1, c4, A4, cells', by omega, by go_num, Lib.hid N9, HGN⟩, by simp [intOf]; omega⟩
            · have hjr : j = d.length := by omega
              subst hjr
              rw [List.take_length] at HN HGJ
              have HN' : Hid (RefSt w wr decks.length gs gz A3 c3 pls2 Ac cc (newCards 0 (decks.take (p + 1))) (newZones 0 (decks.take (p + 1)) ++ List.replicate (4 * (decks.length - (p + 1))) []) cells) := Lib.hid (by
                have h := HN.out
                rw [HCL.out, HZN.out] at h
                rw [HCN.out] at h
                exact h)
              have HG' : Hid (∀ c ∈ newCards 0 (decks.take (p + 1)), cardB decks.length c = true) := Lib.hid (by
                intro c hc
                rw [← HCN.out] at hc
                rcases List.mem_append.1 hc with h | h
                · exact HG.out c h
                · exact HGJ.out c h)
              clear HN HGJ
              go_wp2_with fail
              go_roundw
              case rel => exact ⟨p + 1, cc, c3, Ac, A3, pls2, cells, by omega, by go_num, HN', HG', HPL2⟩
              case measure => simp [intOf]; omega
        · obtain rfl : p = decks.length := by omega
          rw [List.take_length, Nat.sub_self, Nat.mul_zero, List.replicate_zero, List.append_nil] at HN
          rw [List.take_length] at HG
          have HOK : Hid (newOk decks life energy = true) := Lib.hid (by
            have h1 := newCards_length decks 0
            have h2 := HTOT.out
            have h3 := HME.out
            simp only [newOk, Bool.and_eq_true, decide_eq_true_eq, List.all_eq_true]
            exact ⟨⟨⟨⟨⟨⟨hn2, hn4⟩, HSS.out.1⟩, HSS.out.2⟩, by omega⟩, by omega⟩, HG.out⟩)
          have hpe := HPL.out
          subst hpe
          obtain ⟨a0, a1, a2, a3, a4, a5, a6, f0, f1, f2, f3, f4, f5, f6⟩ := seven HN.out.box
          have SM := Lib.hid (new_small0 HOK.out)
          have HCP := fun W (h : StIn W W.heap.size (newS decks life energy) Ap Ac (some ⟨gz, 0, none⟩)) => copyState_any (newS decks life energy) Ap Ac (some ⟨gz, 0, none⟩) W.heap.size cp cc (4 * decks.length) W h (Nat.le_refl _) SM.out
          have HCP' := HCP wr HN.out.lie
          rw [stV_new] at HCP'
          rw [List.length_replicate] at a0
          clear HCP
          go_wp2_with fail
          clear a0 a1 a2 a3 a4 a5 a6 f0 f1 f2 f3 f4 f5 f6
          refine HCP'.mono ?_
          clear HCP'
          rintro e w5 ⟨Aq, Ad, Ay, cq, cd, cy, qcells, rfl, hQ, k5⟩
          have N5 := Lib.hid (HN.out.calm k5)
          rw [stV_new]
          have LQ := Lib.hid hQ
          obtain ⟨b0, b1, b2, b3, b4, b5, b6, e0, e1, e2, e3, e4, e5, e6⟩ := seven N5.out.res
          have HRF := Lib.hid ((((((((N5.out.res.put 0 (.slice Aq decks.length cq)).put 1 (.slice Ad (newCards 0 decks).length cd)).put 2 (.slice Ay (4 * decks.length) cy)).put 3 (.int .i32 1)).put 4 (.int .i64 0)).put 5 (.int .i8 0)).put 6 (.int .i64 0)))
          have HKF := Lib.hid (((((((((Keeps.refl (fun b => b = w.heap.size) w5).setCell (p := ⟨w.heap.size, 0, none⟩) (fun _ => rfl) (.slice Aq decks.length cq)).setCell (p := ⟨w.heap.size, 1, none⟩) (fun _ => rfl) (.slice Ad (newCards 0 decks).length cd)).setCell (p := ⟨w.heap.size, 2, none⟩) (fun _ => rfl) (.slice Ay (4 * decks.length) cy)).setCell (p := ⟨w.heap.size, 3, none⟩) (fun _ => rfl) (.int .i32 1)).setCell (p := ⟨w.heap.size, 4, none⟩) (fun _ => rfl) (.int .i64 0)).setCell (p := ⟨w.heap.size, 5, none⟩) (fun _ => rfl) (.int .i8 0)).setCell (p := ⟨w.heap.size, 6, none⟩) (fun _ => rfl) (.int .i64 0)))
          have HKF2 := Lib.hid ((((((((N5.out.keeps.setCell (p := ⟨w.heap.size, 0, none⟩) (fun h => absurd h (Nat.lt_irrefl _)) (.slice Aq decks.length cq)).setCell (p := ⟨w.heap.size, 1, none⟩) (fun h => absurd h (Nat.lt_irrefl _)) (.slice Ad (newCards 0 decks).length cd)).setCell (p := ⟨w.heap.size, 2, none⟩) (fun h => absurd h (Nat.lt_irrefl _)) (.slice Ay (4 * decks.length) cy)).setCell (p := ⟨w.heap.size, 3, none⟩) (fun h => absurd h (Nat.lt_irrefl _)) (.int .i32 1)).setCell (p := ⟨w.heap.size, 4, none⟩) (fun h => absurd h (Nat.lt_irrefl _)) (.int .i64 0)).setCell (p := ⟨w.heap.size, 5, none⟩) (fun h => absurd h (Nat.lt_irrefl _)) (.int .i8 0)).setCell (p := ⟨w.heap.size, 6, none⟩) (fun h => absurd h (Nat.lt_irrefl _)) (.int .i64 0)))
          clear hQ k5
          go_wp2_with fail
          refine bodyPost_ret (results_cell_tmp2 rfl _ w.heap.size rfl (#[.slice Aq decks.length cq, .slice Ad (newCards 0 decks).length cd, .slice Ay (4 * decks.length) cy, .int .i32 1, .int .i64 0, .int .i8 0, .int .i64 0]) _ HRF.out _ Tryd.underlying32 rfl (by kernel_rfl)) rfl ?_
          refine ⟨fun h => absurd (HOK.out.symm.trans h) (by decide), fun _ => ⟨Aq, Ad, Ay, cq, cd, cy, ?_, ?_⟩, HKF2.out⟩
          · rw [stV_new]
            rfl
          · exact (LQ.out.keeps HKF.out (fun b hb e => by have := HN.out.res.inside; omega)).lies
end Go.Proofs.YtgbikcliembkcaaDoor
