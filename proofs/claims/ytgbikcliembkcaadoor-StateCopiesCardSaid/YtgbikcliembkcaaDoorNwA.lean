/-
  How a game begins: the plain side, and rows that grow one within another. Conditions: none.
-/
import Derived.Test.YtgbikcliembkcaaDoorChF
namespace Go.Proofs.YtgbikcliembkcaaDoor
open Go.RowKit
def ownedBy (p : Nat) (c : Cd) : Cd := { c with owner := (p : Int) }
def newCards : Nat → List (List Cd) → List Cd
  | _, [] => []
  | p, d :: l => d.map (ownedBy p) ++ newCards (p + 1) l
def rangeI (k m : Nat) : List Int := (List.range m).map (fun i => ((k + i : Nat) : Int))
def newZones : Nat → List (List Cd) → List (List Int)
  | _, [] => []
  | k, d :: l => rangeI k d.length :: [] :: [] :: [] :: newZones (k + d.length) l
theorem newCards_append (a b : List (List Cd)) : ∀ p, newCards p (a ++ b) = newCards p a ++ newCards (p + a.length) b := by
  induction a with
  | nil => intro p; simp [newCards]
  | cons d a ih => intro p; rw [List.cons_append, newCards, newCards, ih, List.append_assoc, List.length_cons, show p + 1 + a.length = p + (a.length + 1) by omega]
theorem newCards_length (l : List (List Cd)) : ∀ p, (newCards p l).length = l.flatten.length := by
  induction l with
  | nil => intro p; rfl
  | cons d l ih => intro p; rw [newCards, List.length_append, List.length_map, ih]; simp
theorem newZones_append (a b : List (List Cd)) : ∀ k, newZones k (a ++ b) = newZones k a ++ newZones (k + a.flatten.length) b := by
  induction a with
  | nil => intro p; simp [newZones]
  | cons d a ih => intro p; rw [List.cons_append, newZones, newZones, ih]; simp [Nat.add_assoc]
theorem newZones_length (l : List (List Cd)) : ∀ k, (newZones k l).length = 4 * l.length := by
  induction l with
  | nil => intro p; rfl
  | cons d l ih => intro p; simp [newZones, ih]; omega
theorem newZones_flatten_length (l : List (List Cd)) : ∀ k, (newZones k l).flatten.length = l.flatten.length := by
  induction l with
  | nil => intro p; rfl
  | cons d l ih => intro p; simp only [newZones, List.flatten_cons, List.length_append, ih]; simp [rangeI]
theorem rangeI_length (k m : Nat) : (rangeI k m).length = m := by simp [rangeI]
theorem rangeI_next (k m : Nat) : rangeI k (m + 1) = rangeI k m ++ [((k + m : Nat) : Int)] := by
  simp [rangeI, List.range_succ]
def newOk (decks : List (List Cd)) (life energy : Int) : Bool := decide (2 ≤ decks.length) && decide (decks.length ≤ 4) && statB life && statB energy && decide (1 ≤ decks.flatten.length) && decide (decks.flatten.length ≤ 256) && (newCards 0 decks).all (cardB decks.length)
def newS (decks : List (List Cd)) (life energy : Int) : St := ⟨List.replicate decks.length ⟨life, energy, false⟩, newCards 0 decks, newZones 0 decks, 1, 0, 0, 0⟩
def stZero : St := ⟨[], [], [], 0, 0, 0, 0⟩
/-- Decks, where a slice says. -/
def DecksLie (w : World) (B : Nat) (A : Option Addr) (decks : List (List Cd)) : Prop := ∀ (i : Nat) (d : List Cd), decks[i]? = some d → ∃ (g off : Nat) (Ai : Option Addr) (ci : Nat), A = some ⟨g, off, none⟩ ∧ g < B ∧ w.cell? ⟨g, off + i, none⟩ = some (.slice Ai d.length ci) ∧ CdLies w B Ai d
theorem DecksLie.keeps {S : Nat → Prop} {w w' : World} {B : Nat} {A : Option Addr} {decks : List (List Cd)} (h : DecksLie w B A decks) (hk : Keeps S w w') (hS : ∀ b, b < B → ¬ S b) (hB : B ≤ w.heap.size := by omega) : DecksLie w' B A decks := fun i r hi => by
  obtain ⟨g, off, Ai, ci, e, hg, hc, hl⟩ := h i r hi
  exact ⟨g, off, Ai, ci, e, hg, (hk.cell (by omega) (hS g hg)).trans hc, hl.keeps hk hS hB⟩
theorem DecksLie.more {w : World} {B B' : Nat} {A : Option Addr} {decks : List (List Cd)} (h : DecksLie w B A decks) (hB : B ≤ B') : DecksLie w B' A decks := fun i r hi => by
  obtain ⟨g, off, Ai, ci, e, hg, hc, hl⟩ := h i r hi
  exact ⟨g, off, Ai, ci, e, by omega, hc, hl.more hB⟩
/-- Rows that lie in blocks of their own, one apart from the other. -/
def CellsApart (cells : List Value) : Prop := ∀ (i j : Nat) (u v : Value), i ≠ j → cells[i]? = some u → cells[j]? = some v → ∀ b, u.ownBlock = some b → v.ownBlock ≠ some b
/-- A number put behind one of the rows, and the row's new value laid where the old one lay. -/
theorem RowsOwn.grow {w w2 : World} {B N gz j n c2 : Nat} {A2 : Option Addr} {rows : List (List Int)} {cells : List Value} {r : List Int} {v : Value} {x : Int} (h : RowsOwn w B (.slice (some ⟨gz, 0, none⟩) rows.length N) rows cells) (hap : CellsApart cells) (hr : rows[j]? = some r) (hv : cells[j]? = some v)
    (hg : w.grownBy w2 v.ownBlock) (hn : n = r.length) (hown : w2.ownsRow B 3 1 (.slice A2 (n + 1) c2) (n + 1) (r.map (Value.int .i64) ++ [.int .i64 x])) (hor : (Value.slice A2 (n + 1) c2).ownBlock = v.ownBlock ∨ (Value.slice A2 (n + 1) c2).ownBlock = some w.heap.size) :
    RowsOwn (w2.setCell ⟨gz, j, none⟩ (.slice A2 (n + 1) c2)) B (.slice (some ⟨gz, 0, none⟩) rows.length N) (rows.set j (r ++ [x])) (cells.set j (.slice A2 (n + 1) c2)) ∧ CellsApart (cells.set j (.slice A2 (n + 1) c2)) := by
  subst hn
  have hcl : cells.length = rows.length := by rw [h.own.1, Nat.mul_one]
  have hjl : j < rows.length := (List.getElem?_eq_some_iff.1 hr).1
  obtain ⟨Aj, cj, hvj, hoj⟩ := h.row j r hr
  rw [hv] at hvj
  injection hvj with hvj
  subst hvj
  have hK : Keeps (fun b => (Value.slice Aj r.length cj).ownBlock = some b) w w2 := (Keeps.refl _ w).grown hg (fun k hk _ => hk)
  have hgz : (Value.slice (some ⟨gz, 0, none⟩) rows.length N).ownBlock = some gz := rfl
  have hO2 : w2.ownsRow B 74 1 (.slice (some ⟨gz, 0, none⟩) rows.length N) rows.length cells := own_keepsS h.own hK fun b hb e => own_kind h.own hoj (by decide) hb e
  have hO3 := hO2.stored j (.slice A2 (r.length + 1) c2)
  have hS : Keeps (fun b => b = gz) w2 (w2.setCell ⟨gz, j, none⟩ (.slice A2 (r.length + 1) c2)) := (Keeps.refl (fun b => b = gz) w2).setCell (p := ⟨gz, j, none⟩) (fun _ => rfl) _
  have hap' : CellsApart (cells.set j (.slice A2 (r.length + 1) c2)) := fun i k u v hne hu hv' b hb hb' => by
    rw [List.getElem?_set] at hu hv'
    have hsame : ∀ (i : Nat) (u : Value), i ≠ j → cells[i]? = some u → ∀ b, u.ownBlock = some b → (Value.slice A2 (r.length + 1) c2).ownBlock ≠ some b := fun i u hij hu b hb e => by
      rcases hor with e1 | e1
      · exact hap i j u _ hij hu hv b hb (e1 ▸ e)
      · have hil : i < rows.length := by rw [← hcl]; exact (List.getElem?_eq_some_iff.1 hu).1
        obtain ⟨Ai, ci, hci, hoi⟩ := h.row i _ (List.getElem?_eq_getElem hil)
        rw [hu] at hci
        injection hci with hci
        subst hci
        have := (hoi.lt b hb).2
        rw [e1] at e
        injection e with e
        omega
    by_cases hij : j = i
    · subst hij
      rw [if_pos rfl, if_pos (by rw [hcl]; exact hjl)] at hu
      injection hu with hu
      subst hu
      rw [if_neg hne] at hv'
      exact hsame k v (Ne.symm hne) hv' b hb' hb
    · rw [if_neg hij] at hu
      by_cases hkj : j = k
      · subst hkj
        rw [if_pos rfl, if_pos (by rw [hcl]; exact hjl)] at hv'
        injection hv' with hv'
        subst hv'
        exact hsame i u hne hu b hb hb'
      · rw [if_neg hkj] at hv'
        exact hap i k u v hne hu hv' b hb hb'
  refine ⟨⟨by rw [List.length_set]; exact hO3.1, fun i r' hi => ?_⟩, hap'⟩
  rw [List.getElem?_set] at hi
  by_cases hij : j = i
  · subst hij
    rw [if_pos rfl, if_pos hjl] at hi
    injection hi with hi
    subst hi
    refine ⟨A2, c2, by rw [List.getElem?_set, if_pos rfl, if_pos (by rw [hcl]; exact hjl), List.length_append]; rfl, ?_⟩
    have := own_keepsS hown hS (fun b hb e => by subst e; exact own_kind hown hO2 (by decide) hb hgz)
    rw [List.length_append, List.map_append]
    exact this
  · rw [if_neg hij] at hi
    obtain ⟨Ai, ci, hci, hoi⟩ := h.row i r' hi
    refine ⟨Ai, ci, by rw [List.getElem?_set, if_neg hij]; exact hci, ?_⟩
    have h1 := own_keepsS hoi hK (fun b hb e => hap i j _ _ (Ne.symm hij) hci hv b hb e)
    exact own_keepsS h1 hS (fun b hb e => by subst e; exact own_kind h1 hO2 (by decide) hb hgz)
end Go.Proofs.YtgbikcliembkcaaDoor
