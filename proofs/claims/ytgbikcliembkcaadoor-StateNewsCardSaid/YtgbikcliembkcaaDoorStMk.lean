/-
  How a game begins: the plain side, and rows that grow one within another. Conditions: none.
-/
import Derived.Test.YtgbikcliembkcaaDoorChF
namespace Go.Proofs.YtgbikcliembkcaaDoor
open Go.RowKit
def ownedBy (p : Nat) (c : Cd) : Cd := { c with owner := (p : Int) }
def newCards : Nat → List (List Cd) → List Cd
  | _, [] => []
  | p, d :: l => d.map (ownedBy p) ++ newCards (p + 1) l
def rangeI (k m : Nat) : List Int := (List.range m).map (fun i => ((k + i : Nat) : Int))
def newZones : Nat → List (List Cd) → List (List Int)
  | _, [] => []
  | k, d :: l => rangeI k d.length :: [] :: [] :: [] :: newZones (k + d.length) l
theorem newCards_append (a b : List (List Cd)) : ∀ p, newCards p (a ++ b) = newCards p a ++ newCards (p + a.length) b := by
  induction a with
  | nil => intro p; simp [newCards]
  | cons d a ih => intro p; rw [List.cons_append, newCards, newCards, ih, List.append_assoc, List.length_cons, show p + 1 + a.length = p + (a.length + 1) by omega]
theorem newCards_length (l : List (List Cd)) : ∀ p, (newCards p l).length = l.flatten.length := by
  induction l with
  | nil => intro p; rfl
  | cons d l ih => intro p; rw [newCards, List.length_append, List.length_map, ih]; simp
theorem newZones_append (a b : List (List Cd)) : ∀ k, newZones k (a ++ b) = newZones k a ++ newZones (k + a.flatten.length) b := by
  induction a with
  | nil => intro p; simp [newZones]
  | cons d a ih => intro p; rw [List.cons_append, newZones, newZones, ih]; simp [Nat.add_assoc]
theorem newZones_length (l : List (List Cd)) : ∀ k, (newZones k l).length = 4 * l.length := by
  induction l with
  | nil => intro p; rfl
  | cons d l ih => intro p; simp [newZones, ih]; omega
theorem newZones_flatten_length (l : List (List Cd)) : ∀ k, (newZones k l).flatten.length = l.flatten.length := by
  induction l with
  | nil => intro p; rfl
  | cons d l ih => intro p; simp only [newZones, List.flatten_cons, List.length_append, ih]; simp [rangeI]
theorem rangeI_length (k m : Nat) : (rangeI k m).length = m := by simp [rangeI]
theorem rangeI_next (k m : Nat) : rangeI k (m + 1) = rangeI k m ++ [((k + m : Nat) : Int)] := by
  simp [rangeI, List.range_succ]
def newOk (decks : List (List Cd)) (life energy : Int) : Bool := decide (2 ≤ decks.length) && decide (decks.length ≤ 4) && statB life && statB energy && decide (1 ≤ decks.flatten.length) && decide (decks.flatten.length ≤ 256) && (newCards 0 decks).all (cardB decks.length)
def newS (decks : List (List Cd)) (life energy : Int) : St := ⟨List.replicate decks.length ⟨life, energy, false⟩, newCards 0 decks, newZones 0 decks, 1, 0, 0, 0⟩
def stZero : St := ⟨[], [], [], 0, 0, 0, 0⟩
/-- Decks, where a slice says. -/
def DecksLie (w : World) (B : Nat) (A : Option Addr) (decks : List (List Cd)) : Prop := ∀ (i : Nat) (d : List Cd), decks[i]? = some d → ∃ (g off : Nat) (Ai : Option Addr) (ci : Nat), A = some ⟨g, off, none⟩ ∧ g < B ∧ w.cell? ⟨g, off + i, none⟩ = some (.slice Ai d.length ci) ∧ CdLies w B Ai d
theorem DecksLie.keeps {S : Nat → Prop} {w w' : World} {B : Nat} {A : Option Addr} {decks : List (List Cd)} (h : DecksLie w B A decks) (hk : Keeps S w w') (hS : ∀ b, b < B → ¬ S b) (hB : B ≤ w.heap.size := by omega) : DecksLie w' B A decks := fun i r hi => by
  obtain ⟨g, off, Ai, ci, e, hg, hc, hl⟩ := h i r hi
  exact ⟨g, off, Ai, ci, e, hg, (hk.cell (by omega) (hS g hg)).trans hc, hl.keeps hk hS hB⟩
theorem DecksLie.more {w : World} {B B' : Nat} {A : Option Addr} {decks : List (List Cd)} (h : DecksLie w B A decks) (hB : B ≤ B') : DecksLie w B' A decks := fun i r hi => by
  obtain ⟨g, off, Ai, ci, e, hg, hc, hl⟩ := h i r hi
  exact ⟨g, off, Ai, ci, e, by omega, hc, hl.more hB⟩
/-- Rows that lie in blocks of their own, one apart from the other. -/
def CellsApart (cells : List Value) : Prop := ∀ (i j : Nat) (u v : Value), i ≠ j → cells[i]? = some u → cells[j]? = some v → ∀ b, u.ownBlock = some b → v.ownBlock ≠ some b
/-- A number put behind one of the rows, and the row's new value laid where the old one lay. -/
theorem RowsOwn.grow {w w2 : World} {B N gz j n c2 : Nat} {A2 : Option Addr} {rows : List (List Int)} {cells : List Value} {r : List Int} {v : Value} {x : Int} (h : RowsOwn w B (.slice (some ⟨gz, 0, none⟩) rows.length N) rows cells) (hap : CellsApart cells) (hr : rows[j]? = some r) (hv : cells[j]? = some v)
    (hg : w.grownBy w2 v.ownBlock) (hn : n = r.length) (hown : w2.ownsRow B 3 1 (.slice A2 (n + 1) c2) (n + 1) (r.map (Value.int .i64) ++ [.int .i64 x])) (hor : (Value.slice A2 (n + 1) c2).ownBlock = v.ownBlock ∨ (Value.slice A2 (n + 1) c2).ownBlock = some w.heap.size) :
    RowsOwn (w2.setCell ⟨gz, j, none⟩ (.slice A2 (n + 1) c2)) B (.slice (some ⟨gz, 0, none⟩) rows.length N) (rows.set j (r ++ [x])) (cells.set j (.slice A2 (n + 1) c2)) ∧ CellsApart (cells.set j (.slice A2 (n + 1) c2)) := by
  subst hn
  have hcl : cells.length = rows.length := by rw [h.own.1, Nat.mul_one]
  have hjl : j < rows.length := (List.getElem?_eq_some_iff.1 hr).1
  obtain ⟨Aj, cj, hvj, hoj⟩ := h.row j r hr
  rw [hv] at hvj
  injection hvj with hvj
  subst hvj
  have hK : Keeps (fun b => (Value.slice Aj r.length cj).ownBlock = some b) w w2 := (Keeps.refl _ w).grown hg (fun k hk _ => hk)
  have hgz : (Value.slice (some ⟨gz, 0, none⟩) rows.length N).ownBlock = some gz := rfl
  have hO2 : w2.ownsRow B 74 1 (.slice (some ⟨gz, 0, none⟩) rows.length N) rows.length cells := own_keepsS h.own hK fun b hb e => own_kind h.own hoj (by decide) hb e
  have hO3 := hO2.stored j (.slice A2 (r.length + 1) c2)
  have hS : Keeps (fun b => b = gz) w2 (w2.setCell ⟨gz, j, none⟩ (.slice A2 (r.length + 1) c2)) := (Keeps.refl (fun b => b = gz) w2).setCell (p := ⟨gz, j, none⟩) (fun _ => rfl) _
  have hap' : CellsApart (cells.set j (.slice A2 (r.length + 1) c2)) := fun i k u v hne hu hv' b hb hb' => by
    rw [List.getElem?_set] at hu hv'
    have hsame : ∀ (i : Nat) (u : Value), i ≠ j → cells[i]? = some u → ∀ b, u.ownBlock = some b → (Value.slice A2 (r.length + 1) c2).ownBlock ≠ some b := fun i u hij hu b hb e => by
      rcases hor with e1 | e1
      · exact hap i j u _ hij hu hv b hb (e1 ▸ e)
      · have hil : i < rows.length := by rw [← hcl]; exact (List.getElem?_eq_some_iff.1 hu).1
        obtain ⟨Ai, ci, hci, hoi⟩ := h.row i _ (List.getElem?_eq_getElem hil)
        rw [hu] at hci
        injection hci with hci
        subst hci
        have := (hoi.lt b hb).2
        rw [e1] at e
        injection e with e
        omega
    by_cases hij : j = i
    · subst hij
      rw [if_pos rfl, if_pos (by rw [hcl]; exact hjl)] at hu
      injection hu with hu
      subst hu
      rw [if_neg hne] at hv'
      exact hsame k v (Ne.symm hne) hv' b hb' hb
    · rw [if_neg hij] at hu
      by_cases hkj : j = k
      · subst hkj
        rw [if_pos rfl, if_pos (by rw [hcl]; exact hjl)] at hv'
        injection hv' with hv'
        subst hv'
        exact hsame i u hne hu b hb hb'
      · rw [if_neg hkj] at hv'
        exact hap i k u v hne hu hv' b hb hb'
  refine ⟨⟨by rw [List.length_set]; exact hO3.1, fun i r' hi => ?_⟩, hap'⟩
  rw [List.getElem?_set] at hi
  by_cases hij : j = i
  · subst hij
    rw [if_pos rfl, if_pos hjl] at hi
    injection hi with hi
    subst hi
    refine ⟨A2, c2, by rw [List.getElem?_set, if_pos rfl, if_pos (by rw [hcl]; exact hjl), List.length_append]; rfl, ?_⟩
    have := own_keepsS hown hS (fun b hb e => by subst e; exact own_kind hown hO2 (by decide) hb hgz)
    rw [List.length_append, List.map_append]
    exact this
  · rw [if_neg hij] at hi
    obtain ⟨Ai, ci, hci, hoi⟩ := h.row i r' hi
    refine ⟨Ai, ci, by rw [List.getElem?_set, if_neg hij]; exact hci, ?_⟩
    have h1 := own_keepsS hoi hK (fun b hb e => hap i j _ _ (Ne.symm hij) hci hv b hb e)
    exact own_keepsS h1 hS (fun b hb e => by subst e; exact own_kind h1 hO2 (by decide) hb hgz)
end Go.Proofs.YtgbikcliembkcaaDoor
/-
  What stands while New builds a state. Conditions: none.
-/
namespace Go.Proofs.YtgbikcliembkcaaDoor
open Go.RowKit
/-- The blocks of New: the state's box, the players' row, the zones' row, the first player's box; cards and rows of its own. -/
structure NewSt (w wr : World) (n : Nat) (life energy : Int) (gs gp gz gf q : Nat) (cs : Array Value) (Ac : Option Addr) (cc : Nat) (cards : List Cd) (rows : List (List Int)) (cells : List Value) : Prop where
  keeps : Keeps (fun _ => False) w wr
  res : Whole wr w.heap.size 32 #[.slice none 0 0, .slice none 0 0, .slice none 0 0, .int .i32 0, .int .i64 0, .int .i8 0, .int .i64 0]
  box : Whole wr gs 32 #[.slice (some ⟨gp, 0, none⟩) n n, .slice Ac cards.length cc, .slice (some ⟨gz, 0, none⟩) (4 * n) (4 * n), .int .i32 1, .int .i64 0, .int .i8 0, .int .i64 0]
  players : Whole wr gp 72 cs
  filled : Filled (flat Pl.cells (List.replicate n ⟨life, energy, false⟩)).toArray cs (q * 3)
  first : Whole wr gf 72 #[.int .i32 life, .int .i32 energy, .bool false]
  fp : gf ≠ gp
  cards : wr.ownsRow (w.heap.size + 1) 68 6 (.slice Ac cards.length cc) cards.length (flat Cd.cells cards)
  zones : RowsOwn wr (w.heap.size + 1) (.slice (some ⟨gz, 0, none⟩) rows.length (4 * n)) rows cells
  apart : CellsApart cells
  rlen : rows.length = 4 * n
  news : w.heap.size < gs ∧ w.heap.size < gp ∧ w.heap.size < gz ∧ w.heap.size < gf
  size : w.heap.size + 1 ≤ wr.heap.size
section
variable {w wr w' w2 : World} {n : Nat} {life energy : Int} {gs gp gz gf q : Nat} {cs : Array Value} {Ac : Option Addr} {cc : Nat} {cards : List Cd} {rows : List (List Int)} {cells : List Value}
theorem whole_ne {g g' : Nat} {t t' : TypeId} {c c' : Array Value} (h : Whole w g t c) (h' : Whole w g' t' c') (hne : t ≠ t') : g ≠ g' := fun e => by
  subst e
  have e := h.symm.trans h'
  injection e with e
  injection e with _ e _
  exact hne e
theorem RowsOwn.calm {B : Nat} {v : Value} (h : RowsOwn w B v rows cells) (hk : Keeps (fun _ => False) w w') : RowsOwn w' B v rows cells := h.keeps hk fun _ _ => id
theorem NewSt.calm (h : NewSt w wr n life energy gs gp gz gf q cs Ac cc cards rows cells) (hk : Keeps (fun _ => False) wr w') : NewSt w w' n life energy gs gp gz gf q cs Ac cc cards rows cells :=
  ⟨h.keeps.trans hk, h.res.keeps hk id, h.box.keeps hk id, h.players.keeps hk id, h.filled, h.first.keeps hk id, h.fp, own_keepsS h.cards hk fun _ _ => id, h.zones.calm hk, h.apart, h.rlen, h.news, Nat.le_trans h.size hk.size⟩
/-- The next player laid. -/
theorem NewSt.player (h : NewSt w wr n life energy gs gp gz gf q cs Ac cc cards rows cells) (hq : q < n) :
    ∃ cs', NewSt w (((wr.setCell ⟨gp, q * 3, none⟩ (.int .i32 life)).setCell ⟨gp, q * 3 + 1, none⟩ (.int .i32 energy)).setCell ⟨gp, q * 3 + 2, none⟩ (.bool false)) n life energy gs gp gz gf (q + 1) cs' Ac cc cards rows cells := by
  obtain ⟨cs', h1, h2, h3⟩ := pl_put h.filled h.players (Keeps.refl (fun b => b = gp) wr) (x := ⟨life, energy, false⟩) (by rw [List.getElem?_replicate, if_pos hq])
  refine ⟨cs', h.keeps.and h3 (fun b hb e => by have := h.news.2.1; omega), h.res.keeps h3 (by have := h.news.2.1; omega), h.box.keeps h3 (whole_ne h.box h.players (by decide)), h2, h1, h.first.keeps h3 h.fp, h.fp, own_keepsS h.cards h3 (fun b hb e => by subst e; exact whole_kind_own h.cards h.players (by decide) hb), ?_, h.apart, h.rlen, h.news, Nat.le_trans h.size h3.size⟩
  refine ⟨own_keepsS h.zones.own h3 (fun b hb e => by subst e; exact whole_kind_own h.zones.own h.players (by decide) hb), fun i r hi => ?_⟩
  obtain ⟨Ai, ci, hc, ho⟩ := h.zones.row i r hi
  exact ⟨Ai, ci, hc, own_keepsS ho h3 (fun b hb e => by subst e; exact whole_kind_own ho h.players (by decide) hb)⟩
/-- A number put behind one of the rows. -/
theorem NewSt.zone {j m c2 : Nat} {A2 : Option Addr} {r : List Int} {v : Value} {x : Int} (h : NewSt w wr n life energy gs gp gz gf q cs Ac cc cards rows cells) (hr : rows[j]? = some r) (hv : cells[j]? = some v)
    (hg : wr.grownBy w2 v.ownBlock) (hm : m = r.length) (hown : w2.ownsRow (w.heap.size + 1) 3 1 (.slice A2 (m + 1) c2) (m + 1) (r.map (Value.int .i64) ++ [.int .i64 x])) (hor : (Value.slice A2 (m + 1) c2).ownBlock = v.ownBlock ∨ (Value.slice A2 (m + 1) c2).ownBlock = some wr.heap.size) :
    NewSt w (w2.setCell ⟨gz, j, none⟩ (.slice A2 (m + 1) c2)) n life energy gs gp gz gf q cs Ac cc cards (rows.set j (r ++ [x])) (cells.set j (.slice A2 (m + 1) c2)) := by
  obtain ⟨hz, ha⟩ := h.zones.grow h.apart hr hv hg hm hown hor
  obtain ⟨Aj, cj, hvj, hoj⟩ := h.zones.row j r hr
  rw [hv] at hvj
  injection hvj with hvj
  have hov : wr.ownsRow (w.heap.size + 1) 3 1 v r.length (r.map (Value.int .i64)) := by rw [hvj]; exact hoj
  have hK : Keeps (fun b => v.ownBlock = some b) wr w2 := (Keeps.refl _ wr).grown hg (fun k hk _ => hk)
  have hS : Keeps (fun b => b = gz) w2 (w2.setCell ⟨gz, j, none⟩ (.slice A2 (m + 1) c2)) := (Keeps.refl (fun b => b = gz) w2).setCell (p := ⟨gz, j, none⟩) (fun _ => rfl) _
  have hKS : Keeps (fun b => v.ownBlock = some b ∨ b = gz) wr (w2.setCell ⟨gz, j, none⟩ (.slice A2 (m + 1) c2)) := (hK.mono (fun _ _ h => .inl h)).and hS (fun _ _ e => .inr e)
  have hgz : (Value.slice (some ⟨gz, 0, none⟩) rows.length (4 * n)).ownBlock = some gz := rfl
  have off : ∀ {g : Nat} {t : TypeId} {c : Array Value}, Whole wr g t c → t ≠ 3 → t ≠ 74 → ¬ (v.ownBlock = some g ∨ g = gz) := fun {g} {t} {c} hw h1 h2 e => by
    rcases e with e | e
    · exact whole_kind_own hov hw h1 e
    · subst e; exact whole_kind_own h.zones.own hw h2 hgz
  refine ⟨h.keeps.and hKS (fun b hb e => ?_), h.res.keeps hKS (off h.res (by decide) (by decide)), h.box.keeps hKS (off h.box (by decide) (by decide)), h.players.keeps hKS (off h.players (by decide) (by decide)), h.filled, h.first.keeps hKS (off h.first (by decide) (by decide)), h.fp, own_keepsS h.cards hKS (fun b hb e => ?_), ?_, ha, by rw [List.length_set]; exact h.rlen, h.news, Nat.le_trans h.size hKS.size⟩
  · rcases e with e | e
    · have := (hov.lt b e).1; omega
    · have := h.news.2.2.1; omega
  · rcases e with e | e
    · exact own_kind h.cards hov (by decide) hb e
    · subst e; exact own_kind h.cards h.zones.own (by decide) hb hgz
  · rw [List.length_set]; exact hz
/-- Where a row has grown: the old cell of it, the box. -/
theorem NewSt.zoneOut {j : Nat} {r : List Int} {v : Value} (h : NewSt w wr n life energy gs gp gz gf q cs Ac cc cards rows cells) (hr : rows[j]? = some r) (hv : cells[j]? = some v) (hg : wr.grownBy w2 v.ownBlock) :
    w2.cell? ⟨gz, j, none⟩ = some v ∧ w2.frozen? ⟨gz, j, none⟩ = false ∧ gz ≠ gs ∧ Whole w2 gs 32 #[.slice (some ⟨gp, 0, none⟩) n n, .slice Ac cards.length cc, .slice (some ⟨gz, 0, none⟩) (4 * n) (4 * n), .int .i32 1, .int .i64 0, .int .i8 0, .int .i64 0] := by
  obtain ⟨Aj, cj, hvj, hoj⟩ := h.zones.row j r hr
  rw [hv] at hvj
  injection hvj with hvj
  have hov : wr.ownsRow (w.heap.size + 1) 3 1 v r.length (r.map (Value.int .i64)) := by rw [hvj]; exact hoj
  have hK : Keeps (fun b => v.ownBlock = some b) wr w2 := (Keeps.refl _ wr).grown hg (fun k hk _ => hk)
  have hgz : (Value.slice (some ⟨gz, 0, none⟩) rows.length (4 * n)).ownBlock = some gz := rfl
  have hO2 : w2.ownsRow (w.heap.size + 1) 74 1 (.slice (some ⟨gz, 0, none⟩) rows.length (4 * n)) rows.length cells := own_keepsS h.zones.own hK fun b hb e => own_kind h.zones.own hov (by decide) hb e
  have hj : j < rows.length := (List.getElem?_eq_some_iff.1 hr).1
  exact ⟨(hO2.cellAt j (by omega)).trans hv, hO2.frozenAt j, fun e => by subst e; exact whole_kind_own h.zones.own h.box (by decide) hgz, h.box.keeps hK (fun e => whole_kind_own hov h.box (by decide) e)⟩
/-- Another block stays, where a row has grown and its new value is laid. -/
theorem NewSt.zoneOff {j g : Nat} {t : TypeId} {c : Array Value} {r : List Int} {v : Value} (h : NewSt w wr n life energy gs gp gz gf q cs Ac cc cards rows cells) (hr : rows[j]? = some r) (hv : cells[j]? = some v) (hg : wr.grownBy w2 v.ownBlock)
    (hw : Whole wr g t c) (h1 : t ≠ 3) (h2 : t ≠ 74) (u : Value) : Whole (w2.setCell ⟨gz, j, none⟩ u) g t c := by
  obtain ⟨Aj, cj, hvj, hoj⟩ := h.zones.row j r hr
  rw [hv] at hvj
  injection hvj with hvj
  have hov : wr.ownsRow (w.heap.size + 1) 3 1 v r.length (r.map (Value.int .i64)) := by rw [hvj]; exact hoj
  have hK : Keeps (fun b => v.ownBlock = some b) wr w2 := (Keeps.refl _ wr).grown hg (fun k hk _ => hk)
  exact (hw.keeps hK (fun e => whole_kind_own hov hw h1 e)).putFar (p := ⟨gz, j, none⟩) (fun e => by
    have e : g = gz := e
    subst e
    exact whole_kind_own h.zones.own hw h2 rfl) u
/-- Where the cards have grown: the box. -/
theorem NewSt.cardOut (h : NewSt w wr n life energy gs gp gz gf q cs Ac cc cards rows cells) (hg : wr.grownBy w2 (Value.slice Ac cards.length cc).ownBlock) :
    Whole w2 gs 32 #[.slice (some ⟨gp, 0, none⟩) n n, .slice Ac cards.length cc, .slice (some ⟨gz, 0, none⟩) (4 * n) (4 * n), .int .i32 1, .int .i64 0, .int .i8 0, .int .i64 0] :=
  h.box.keeps ((Keeps.refl (fun b => (Value.slice Ac cards.length cc).ownBlock = some b) wr).grown hg (fun k hk _ => hk)) (fun e => whole_kind_own h.cards h.box (by decide) e)
/-- A block of six cells, known whole. -/
theorem sixs {g : Nat} {t : TypeId} {a b c d e f : Value} (H : Whole w g t #[a, b, c, d, e, f]) :
    w.cell? ⟨g, 0, none⟩ = some a ∧ w.cell? ⟨g, 1, none⟩ = some b ∧ w.cell? ⟨g, 2, none⟩ = some c ∧ w.cell? ⟨g, 3, none⟩ = some d ∧ w.cell? ⟨g, 4, none⟩ = some e ∧ w.cell? ⟨g, 5, none⟩ = some f :=
  ⟨H.cellAt 0, H.cellAt 1, H.cellAt 2, H.cellAt 3, H.cellAt 4, H.cellAt 5⟩
/-- A card put behind the cards. -/
theorem NewSt.card {c2 : Nat} {A2 : Option Addr} {x : Cd} (h : NewSt w wr n life energy gs gp gz gf q cs Ac cc cards rows cells)
    (hg : wr.grownBy w2 (Value.slice Ac cards.length cc).ownBlock) (hown : w2.ownsRow (w.heap.size + 1) 68 6 (.slice A2 (cards.length + 1) c2) (cards.length + 1) (flat Cd.cells cards ++ Cd.cells x)) :
    NewSt w (w2.setCell ⟨gs, 1, none⟩ (.slice A2 (cards.length + 1) c2)) n life energy gs gp gz gf q cs A2 c2 (cards ++ [x]) rows cells := by
  have hK : Keeps (fun b => (Value.slice Ac cards.length cc).ownBlock = some b) wr w2 := (Keeps.refl _ wr).grown hg (fun k hk _ => hk)
  have hS : Keeps (fun b => b = gs) w2 (w2.setCell ⟨gs, 1, none⟩ (.slice A2 (cards.length + 1) c2)) := (Keeps.refl (fun b => b = gs) w2).setCell (p := ⟨gs, 1, none⟩) (fun _ => rfl) _
  have hKS : Keeps (fun b => (Value.slice Ac cards.length cc).ownBlock = some b ∨ b = gs) wr (w2.setCell ⟨gs, 1, none⟩ (.slice A2 (cards.length + 1) c2)) := (hK.mono (fun _ _ h => .inl h)).and hS (fun _ _ e => .inr e)
  have offb : ∀ {g : Nat} {t : TypeId} {c : Array Value}, Whole wr g t c → t ≠ 68 → ¬ ((Value.slice Ac cards.length cc).ownBlock = some g) := fun {g} {t} {c} hw h1 e => whole_kind_own h.cards hw h1 e
  have hb2 := h.box.keeps hK (offb h.box (by decide))
  refine ⟨h.keeps.and hKS (fun b hb e => ?_), h.res.keeps hKS (fun e => ?_), ?_, h.players.keeps hKS (fun e => ?_), h.filled, h.first.keeps hKS (fun e => ?_), h.fp, ?_, ?_, h.apart, h.rlen, h.news, Nat.le_trans h.size hKS.size⟩
  · rcases e with e | e
    · have := (h.cards.lt b e).1; omega
    · have := h.news.1; omega
  · rcases e with e | e
    · exact offb h.res (by decide) e
    · have := h.news.1; omega
  · rw [List.length_append]; exact hb2.put 1 _
  · rcases e with e | e
    · exact offb h.players (by decide) e
    · exact whole_ne h.players h.box (by decide) e
  · rcases e with e | e
    · exact offb h.first (by decide) e
    · exact whole_ne h.first h.box (by decide) e
  · have hw2 := own_keepsS hown hS (fun b hb e => by subst e; exact whole_kind_own hown hb2 (by decide) hb)
    rw [List.length_append, show flat Cd.cells (cards ++ [x]) = flat Cd.cells cards ++ Cd.cells x by simp [flat]]
    exact hw2
  · refine ⟨own_keepsS h.zones.own hKS (fun b hb e => ?_), fun i r hi => ?_⟩
    · rcases e with e | e
      · exact own_kind h.zones.own h.cards (by decide) hb e
      · subst e; exact whole_kind_own h.zones.own h.box (by decide) hb
    · obtain ⟨Ai, ci, hc, ho⟩ := h.zones.row i r hi
      exact ⟨Ai, ci, hc, own_keepsS ho hKS (fun b hb e => by
        rcases e with e | e
        · exact own_kind ho h.cards (by decide) hb e
        · subst e; exact whole_kind_own ho h.box (by decide) hb)⟩
end
end Go.Proofs.YtgbikcliembkcaaDoor
