/-
  A state that is being read: what stands in memory; so many readings, one behind the other. Conditions: none.
-/
import Derived.Test.YthmfbcfbcookiaaGreatDoorImMb
import Derived.Test.YthmfbcfbcookiaaGreatDoorWMh
import Derived.Test.YthmfbcfbcookiaaGreatDoorApt
namespace Go.Proofs.YthmfbcfbcookiaaGreatDoor
open Go.RowKit
section
variable {α : Type}
theorem rep_first (p : Pr α) (n : Nat) (b : List Oct) (i : Nat) : repP p (n + 1) b i = match p b i with
    | .bad q => .bad q
    | .ok a j => match repP p n b j with
      | .bad q => .bad q
      | .ok l k => .ok (a :: l) k := by
  show Pr.andThen p _ b i = _
  unfold Pr.andThen Pr.map
  cases p b i with
  | bad q => rfl
  | ok a j =>
    simp only
    cases repP p n b j <;> rfl
theorem rep_last (p : Pr α) (n : Nat) : ∀ (b : List Oct) (i : Nat), repP p (n + 1) b i = match repP p n b i with
    | .bad q => .bad q
    | .ok l j => match p b j with
      | .bad q => .bad q
      | .ok a k => .ok (l ++ [a]) k := by
  induction n with
  | zero =>
    intro b i
    rw [rep_first]
    simp only [repP, Pr.ret, List.nil_append]
  | succ n ih =>
    intro b i
    rw [rep_first, rep_first p n b i]
    cases p b i with
    | bad q => rfl
    | ok a j =>
      simp only
      rw [ih b j]
      cases repP p n b j with
      | bad q => rfl
      | ok l k =>
        simp only
        cases p b k <;> rfl
theorem rep_snoc (p : Pr α) (n : Nat) : repP p (n + 1) = (repP p n).andThen fun l => p.map fun a => l ++ [a] := by
  funext b i
  rw [rep_last]
  unfold Pr.andThen Pr.map
  cases repP p n b i with
  | bad q => rfl
  | ok l j =>
    simp only
    cases p b j <;> rfl
theorem rep_at (p : Pr α) (n : Nat) (b : List Oct) (i : Nat) (bad : Bool) : ((repP p (n + 1)).from b i bad).at_ = (p.from b ((repP p n).from b i bad).at_ ((repP p n).from b i bad).isBad).at_ := by
  rw [rep_snoc, from_seq [], from_map_at]
theorem rep_isBad (p : Pr α) (n : Nat) (b : List Oct) (i : Nat) (bad : Bool) : ((repP p (n + 1)).from b i bad).isBad = (p.from b ((repP p n).from b i bad).at_ ((repP p n).from b i bad).isBad).isBad := by
  rw [rep_snoc, from_seq [], from_map_bad]
/-- The things that were read, as long as nothing is wrong. -/
theorem rep_more {p : Pr α} {n : Nat} {b : List Oct} {i : Nat} {bad : Bool} {xs : List α} {x : α} (h : ∀ l j, (repP p n).from b i bad = .ok l j → xs = l) (hx : ∀ y j, p.from b ((repP p n).from b i bad).at_ ((repP p n).from b i bad).isBad = .ok y j → x = y) :
    ∀ l j, (repP p (n + 1)).from b i bad = .ok l j → xs ++ [x] = l := by
  intro l j e
  rw [rep_snoc, from_seq [], from_map] at e
  cases e1 : (repP p n).from b i bad with
  | bad q =>
    rw [e1] at e
    simp only [Rd.at_, Rd.isBad, Pr.from, if_true] at e
    cases e
  | ok l1 j1 =>
    rw [e1] at e hx
    simp only [Rd.at_, Rd.isBad] at e hx
    cases e2 : p.from b j1 false with
    | bad q => rw [e2] at e; cases e
    | ok y j2 =>
      rw [e2] at e
      injection e with e _
      rw [← e, h _ _ e1, hx _ _ e2]
      rfl
theorem rep_stop {p : Pr α} {k n : Nat} {b : List Oct} {i : Nat} {bad : Bool} (hk : k ≤ n) (h : ((repP p k).from b i bad).isBad = true) : ((repP p n).from b i bad).at_ = ((repP p k).from b i bad).at_ ∧ ((repP p n).from b i bad).isBad = true := by
  induction n with
  | zero =>
    obtain rfl : k = 0 := by omega
    exact ⟨rfl, h⟩
  | succ n ih =>
    by_cases e : k = n + 1
    · subst e; exact ⟨rfl, h⟩
    · obtain ⟨h1, h2⟩ := ih (by omega)
      rw [rep_at, rep_isBad, h2, h1]
      exact ⟨rfl, rfl⟩
theorem bad_none {p : Pr α} {b : List Oct} {i : Nat} {bad : Bool} (h : (p.from b i bad).isBad = true) (x : α) (j : Nat) : p.from b i bad ≠ .ok x j := fun e => by
  rw [e] at h
  cases h
end
def stC (s : St) (Ap Ac Az : Option Addr) (cp cc cz : Nat) : Array Value := #[.slice Ap s.players.length cp, .slice Ac s.cards.length cc, .slice Az s.zones.length cz, .int .i32 s.turn, .int .i64 s.whose, .int .i8 s.fin, .int .i64 s.winner]
/-- A state that is being read: the reader r, its name's block, the result's, the state's, and the lists. -/
structure Rg (w0 w : World) (r B : Nat) (A : Option Addr) (cap : Nat) (b : List Oct) (i : Nat) (bad : Bool) (s : St) (Ap Ac Az : Option Addr) (cp cc cz : Nat) (cells : List Value) : Prop where
  rd : RdAt w r B A cap b i bad
  name : Whole w w0.heap.size 101 #[.pointer (some ⟨r, 0, none⟩)]
  res : Whole w (w0.heap.size + 1) 27 #[.slice none 0 0, .slice none 0 0, .slice none 0 0, .int .i32 0, .int .i64 0, .int .i8 0, .int .i64 0]
  box : Whole w (w0.heap.size + 2) 27 (stC s Ap Ac Az cp cc cz)
  lists : CopyIn w w0.heap.size s Ap Ac Az cp cc cz cells
  ap : Apt cells
  keeps : Keeps (fun k => k = r) w0 w
  old : r < w0.heap.size
section
variable {w0 w w' : World} {r B cap i : Nat} {A : Option Addr} {b : List Oct} {bad : Bool} {s : St} {Ap Ac Az : Option Addr} {cp cc cz : Nat} {cells : List Value}
/-- Behind a reading: the place turns, and nothing else. -/
theorem Rg.read {j : Nat} {c : Bool} (h : Rg w0 w r B A cap b i bad s Ap Ac Az cp cc cz cells) (hr : RdAt w' r B A cap b j c) (hk : Keeps (fun k => k = r) w w') : Rg w0 w' r B A cap b j c s Ap Ac Az cp cc cz cells := by
  have ho := h.old
  exact ⟨hr, h.name.keeps hk (by omega), h.res.keeps hk (by omega), h.box.keeps hk (by omega), h.lists.keeps hk (fun b hb e => by omega), h.ap, h.keeps.trans hk, h.old⟩
theorem Rg.calm (h : Rg w0 w r B A cap b i bad s Ap Ac Az cp cc cz cells) (hk : Keeps (fun _ => False) w w') : Rg w0 w' r B A cap b i bad s Ap Ac Az cp cc cz cells :=
  h.read (h.rd.keeps hk id (fun _ _ => id)) (hk.mono fun _ _ e => e.elim)
end
end Go.Proofs.YthmfbcfbcookiaaGreatDoor
/-
  A state that is being read: one player, one card, one zone more; a field set. Conditions: none.
-/
namespace Go.Proofs.YthmfbcfbcookiaaGreatDoor
open Go.RowKit
/-- The blocks of a set are all of one kind. -/
def OfKind (w : World) (t : TypeId) (S : Nat → Prop) : Prop := ∀ b, S b → ∃ cs fr, w.heap[b]? = some (.cells cs t fr)
theorem whole_keepsT {S : Nat → Prop} {w w' : World} {g : Nat} {t t' : TypeId} {cs : Array Value} (h : Whole w g t cs) (hk : Keeps S w w') (hS : OfKind w t' S) (hne : t ≠ t') : Whole w' g t cs := h.keeps hk fun hb => by
  obtain ⟨cs', fr, e⟩ := hS g hb
  have e2 := h.symm.trans e
  injection e2 with e2
  injection e2 with _ e3 _
  exact hne e3
theorem own_keepsT {S : Nat → Prop} {w w' : World} {B s n : Nat} {t e : TypeId} {v : Value} {xs : List Value} (h : w.ownsRow B e s v n xs) (hk : Keeps S w w') (hS : OfKind w t S) (hne : e ≠ t) : w'.ownsRow B e s v n xs := own_keepsS h hk fun b hb hs => by
  obtain ⟨cs', fr, e1⟩ := hS b hs
  rcases h.2 with ⟨rfl, _⟩ | ⟨g, _, cur, rfl, _, hg, _⟩
  · cases hb
  · simp only [Value.ownBlock, Option.some.injEq] at hb
    subst hb
    have e2 := hg.symm.trans e1
    injection e2 with e2
    injection e2 with _ e3 _
    exact hne e3
theorem rows_keepsT {S : Nat → Prop} {w w' : World} {B : Nat} {t : TypeId} {v : Value} {rows : List (List Int)} {cells : List Value} (h : RowsOwn w B v rows cells) (hk : Keeps S w w') (hS : OfKind w t S) (h1 : 90 ≠ t) (h2 : 3 ≠ t) : RowsOwn w' B v rows cells :=
  ⟨own_keepsT h.own hk hS h1, fun i r hi => by
    obtain ⟨Ai, ci, hc, ho⟩ := h.row i r hi
    exact ⟨Ai, ci, hc, own_keepsT ho hk hS h2⟩⟩
theorem own_ofKind {w : World} {B s n : Nat} {e : TypeId} {v : Value} {xs : List Value} (h : w.ownsRow B e s v n xs) : OfKind w e (fun b => v.ownBlock = some b) := fun b hb => by
  rcases h.2 with ⟨rfl, _⟩ | ⟨g, _, cur, rfl, _, hg, _⟩
  · cases hb
  · simp only [Value.ownBlock, Option.some.injEq] at hb
    subst hb
    exact ⟨_, _, hg⟩
theorem whole_ofKind {w : World} {g : Nat} {t : TypeId} {cs : Array Value} (h : Whole w g t cs) : OfKind w t (fun b => b = g) := fun b hb => by subst hb; exact ⟨_, _, h⟩
theorem RdAt.keepsT {S : Nat → Prop} {w w' : World} {r B cap i : Nat} {A : Option Addr} {b : List Oct} {bad : Bool} {t : TypeId} (h : RdAt w r B A cap b i bad) (hk : Keeps S w w') (hS : OfKind w t S) (hne : 103 ≠ t) (hB : ∀ k, k < B → ¬ S k) : RdAt w' r B A cap b i bad :=
  ⟨whole_keepsT h.box hk hS hne, h.lies.keep fun g o hg => hk.cell (by have := h.box.inside; have := h.below; omega) (hB g hg), h.below, h.place, h.cap⟩
section
variable {w0 w w' : World} {r B cap i : Nat} {A : Option Addr} {b : List Oct} {bad : Bool} {s : St} {Ap Ac Az : Option Addr} {cp cc cz : Nat} {cells : List Value}
/-- The state's own block is turned: another field. -/
theorem Rg.field {s' : St} {Ap' Ac' Az' : Option Addr} {cp' cc' cz' : Nat} (h : Rg w0 w r B A cap b i bad s Ap Ac Az cp cc cz cells) (k : Nat) (v : Value) (hb : (stC s Ap Ac Az cp cc cz).setIfInBounds k v = stC s' Ap' Ac' Az' cp' cc' cz')
    (hl : CopyIn w w0.heap.size s' Ap' Ac' Az' cp' cc' cz' cells) : Rg w0 (w.setCell ⟨w0.heap.size + 2, k, none⟩ v) r B A cap b i bad s' Ap' Ac' Az' cp' cc' cz' cells := by
  have hk : Keeps (fun x => x = w0.heap.size + 2) w (w.setCell ⟨w0.heap.size + 2, k, none⟩ v) := Keeps.setCell (S := fun x => x = w0.heap.size + 2) (Keeps.refl _ _) (fun _ => rfl) v
  have hT := whole_ofKind h.box
  have hold := h.old
  have hB := h.rd.below
  have hW := h.box.put k v
  rw [hb] at hW
  exact ⟨h.rd.keepsT hk hT (by decide) (fun k hk e => by omega), whole_keepsT h.name hk hT (by decide), h.res.keeps hk (by omega), hW, ⟨own_keepsT hl.players hk hT (by decide), own_keepsT hl.cards hk hT (by decide), rows_keepsT hl.zones hk hT (by decide) (by decide)⟩, h.ap, h.keeps.setCell (p := ⟨w0.heap.size + 2, k, none⟩) (fun h => absurd h (by show ¬ w0.heap.size + 2 < w0.heap.size; omega)) v, h.old⟩
theorem Rg.pushP {A' : Option Addr} {cap' : Nat} {x : Pl} {o : Obj} {w1 : World} (h : Rg w0 w r B A cap b i bad s Ap Ac Az cp cc cz cells)
    (h1 : w1.ownsRow w0.heap.size 44 3 (.slice A' (s.players.length + 1) cap') (s.players.length + 1) (flat Pl.cells s.players ++ x.cells)) (h2 : (w.alloc o).grownBy w1 (Value.slice Ap s.players.length cp).ownBlock) :
    Rg w0 (w1.setCell ⟨w0.heap.size + 2, 0, none⟩ (.slice A' (s.players.length + 1) cap')) r B A cap b i bad { s with players := s.players ++ [x] } A' Ac Az cap' cc cz cells ∧ w1.frozen? ⟨w0.heap.size + 2, 0, none⟩ = false ∧ ∃ u, w1.cell? ⟨w0.heap.size + 2, 0, none⟩ = some u := by
  have hk : Keeps (fun b => (Value.slice Ap s.players.length cp).ownBlock = some b) w w1 := ((Keeps.refl _ w).alloc o).grown h2 (fun k hk _ => hk)
  have hT := own_ofKind h.lists.players
  have hlo : ∀ k, (Value.slice Ap s.players.length cp).ownBlock = some k → w0.heap.size ≤ k := fun k hk => (h.lists.players.lt k hk).1
  have hold := h.old
  have hB := h.rd.below
  have e1 : (s.players ++ [x]).length = s.players.length + 1 := by simp
  have e2 : flat Pl.cells (s.players ++ [x]) = flat Pl.cells s.players ++ x.cells := by simp [flat]
  have hW := whole_keepsT h.box hk hT (by decide)
  have h3 : w1.ownsRow w0.heap.size 44 3 (.slice A' (s.players ++ [x]).length cap') (s.players ++ [x]).length (flat Pl.cells (s.players ++ [x])) := by rw [e1, e2]; exact h1
  have hb : (stC s Ap Ac Az cp cc cz).setIfInBounds 0 (.slice A' (s.players.length + 1) cap') = stC { s with players := s.players ++ [x] } A' Ac Az cap' cc cz := by unfold stC; rw [e1]; rfl
  have hk2 : Keeps (fun x => x = w0.heap.size + 2) w1 (w1.setCell ⟨w0.heap.size + 2, 0, none⟩ (.slice A' (s.players.length + 1) cap')) := Keeps.setCell (S := fun x => x = w0.heap.size + 2) (Keeps.refl _ _) (fun _ => rfl) _
  have hT2 := whole_ofKind hW
  have hW2 := hW.put 0 (.slice A' (s.players.length + 1) cap')
  rw [hb] at hW2
  refine ⟨⟨(h.rd.keepsT hk hT (by decide) (fun k hk e => by have := hlo k e; omega)).keepsT hk2 hT2 (by decide) (fun k hk e => by omega), whole_keepsT (whole_keepsT h.name hk hT (by decide)) hk2 hT2 (by decide), (whole_keepsT h.res hk hT (by decide)).keeps hk2 (by omega), hW2,
    ⟨own_keepsT (h3) hk2 hT2 (by decide), own_keepsT (own_keepsT h.lists.cards hk hT (by decide)) hk2 hT2 (by decide), rows_keepsT (rows_keepsT h.lists.zones hk hT (by decide) (by decide)) hk2 hT2 (by decide) (by decide)⟩, h.ap, ?_, h.old⟩, hW.free 0, _, hW.cellAt 0⟩
  exact (h.keeps.and hk (fun k hk e => by have := hlo k e; omega)).setCell (p := ⟨w0.heap.size + 2, 0, none⟩) (fun h => absurd h (by show ¬ w0.heap.size + 2 < w0.heap.size; omega)) _
theorem Rg.pushC {A' : Option Addr} {cap' : Nat} {x : Cd} {o : Obj} {w1 : World} (h : Rg w0 w r B A cap b i bad s Ap Ac Az cp cc cz cells)
    (h1 : w1.ownsRow w0.heap.size 42 6 (.slice A' (s.cards.length + 1) cap') (s.cards.length + 1) (flat Cd.cells s.cards ++ x.cells)) (h2 : (w.alloc o).grownBy w1 (Value.slice Ac s.cards.length cc).ownBlock) :
    Rg w0 (w1.setCell ⟨w0.heap.size + 2, 1, none⟩ (.slice A' (s.cards.length + 1) cap')) r B A cap b i bad { s with cards := s.cards ++ [x] } Ap A' Az cp cap' cz cells ∧ w1.frozen? ⟨w0.heap.size + 2, 1, none⟩ = false ∧ ∃ u, w1.cell? ⟨w0.heap.size + 2, 1, none⟩ = some u := by
  have hk : Keeps (fun b => (Value.slice Ac s.cards.length cc).ownBlock = some b) w w1 := ((Keeps.refl _ w).alloc o).grown h2 (fun k hk _ => hk)
  have hT := own_ofKind h.lists.cards
  have hlo : ∀ k, (Value.slice Ac s.cards.length cc).ownBlock = some k → w0.heap.size ≤ k := fun k hk => (h.lists.cards.lt k hk).1
  have hold := h.old
  have hB := h.rd.below
  have e1 : (s.cards ++ [x]).length = s.cards.length + 1 := by simp
  have e2 : flat Cd.cells (s.cards ++ [x]) = flat Cd.cells s.cards ++ x.cells := by simp [flat]
  have hW := whole_keepsT h.box hk hT (by decide)
  have h3 : w1.ownsRow w0.heap.size 42 6 (.slice A' (s.cards ++ [x]).length cap') (s.cards ++ [x]).length (flat Cd.cells (s.cards ++ [x])) := by rw [e1, e2]; exact h1
  have hb : (stC s Ap Ac Az cp cc cz).setIfInBounds 1 (.slice A' (s.cards.length + 1) cap') = stC { s with cards := s.cards ++ [x] } Ap A' Az cp cap' cz := by unfold stC; rw [e1]; rfl
  have hk2 : Keeps (fun x => x = w0.heap.size + 2) w1 (w1.setCell ⟨w0.heap.size + 2, 1, none⟩ (.slice A' (s.cards.length + 1) cap')) := Keeps.setCell (S := fun x => x = w0.heap.size + 2) (Keeps.refl _ _) (fun _ => rfl) _
  have hT2 := whole_ofKind hW
  have hW2 := hW.put 1 (.slice A' (s.cards.length + 1) cap')
  rw [hb] at hW2
  refine ⟨⟨(h.rd.keepsT hk hT (by decide) (fun k hk e => by have := hlo k e; omega)).keepsT hk2 hT2 (by decide) (fun k hk e => by omega), whole_keepsT (whole_keepsT h.name hk hT (by decide)) hk2 hT2 (by decide), (whole_keepsT h.res hk hT (by decide)).keeps hk2 (by omega), hW2,
    ⟨own_keepsT (own_keepsT h.lists.players hk hT (by decide)) hk2 hT2 (by decide), own_keepsT (h3) hk2 hT2 (by decide), rows_keepsT (rows_keepsT h.lists.zones hk hT (by decide) (by decide)) hk2 hT2 (by decide) (by decide)⟩, h.ap, ?_, h.old⟩, hW.free 1, _, hW.cellAt 1⟩
  exact (h.keeps.and hk (fun k hk e => by have := hlo k e; omega)).setCell (p := ⟨w0.heap.size + 2, 1, none⟩) (fun h => absurd h (by show ¬ w0.heap.size + 2 < w0.heap.size; omega)) _
/-- A row that lies apart from the others, laid behind them. -/
theorem Apt.snoc {cells : List Value} {x : Value} (h : Apt cells) (hnew : ∀ b, x.ownBlock = some b → ∀ (j : Nat) (u : Value), cells[j]? = some u → u.ownBlock ≠ some b) : Apt (cells ++ [x]) := fun j k u v b hu hv hb hb' => by
  rw [List.getElem?_append] at hu hv
  split at hu
  · split at hv
    · exact h j k u v b hu hv hb hb'
    · rw [List.getElem?_singleton] at hv
      split at hv
      · injection hv with hv; subst hv; exact absurd hb (hnew b hb' j u hu)
      · cases hv
  · rw [List.getElem?_singleton] at hu
    split at hu
    · injection hu with hu; subst hu
      split at hv
      · exact absurd hb' (hnew b hb k v hv)
      · rw [List.getElem?_singleton] at hv
        split at hv
        · omega
        · cases hv
    · cases hu
theorem Rg.pushZ {A' Al : Option Addr} {cap' cl : Nat} {x : List Int} {o : Obj} {w1 : World} (h : Rg w0 w r B A cap b i bad s Ap Ac Az cp cc cz cells)
    (hx : w.ownsRow w0.heap.size 3 1 (.slice Al x.length cl) x.length (x.map (Value.int .i64))) (hnew : ∀ b, (Value.slice Al x.length cl).ownBlock = some b → ∀ (j : Nat) (u : Value), cells[j]? = some u → u.ownBlock ≠ some b)
    (h1 : w1.ownsRow w0.heap.size 90 1 (.slice A' (s.zones.length + 1) cap') (s.zones.length + 1) (cells ++ [.slice Al x.length cl])) (h2 : (w.alloc o).grownBy w1 (Value.slice Az s.zones.length cz).ownBlock) :
    Rg w0 (w1.setCell ⟨w0.heap.size + 2, 2, none⟩ (.slice A' (s.zones.length + 1) cap')) r B A cap b i bad { s with zones := s.zones ++ [x] } Ap Ac A' cp cc cap' (cells ++ [.slice Al x.length cl]) ∧ w1.frozen? ⟨w0.heap.size + 2, 2, none⟩ = false ∧ ∃ u, w1.cell? ⟨w0.heap.size + 2, 2, none⟩ = some u := by
  have hk : Keeps (fun b => (Value.slice Az s.zones.length cz).ownBlock = some b) w w1 := ((Keeps.refl _ w).alloc o).grown h2 (fun k hk _ => hk)
  have hT := own_ofKind h.lists.zones.own
  have hlo : ∀ k, (Value.slice Az s.zones.length cz).ownBlock = some k → w0.heap.size ≤ k := fun k hk => (h.lists.zones.own.lt k hk).1
  have hold := h.old
  have hB := h.rd.below
  have e1 : (s.zones ++ [x]).length = s.zones.length + 1 := by simp
  have hW := whole_keepsT h.box hk hT (by decide)
  have hlen : cells.length = s.zones.length := own_length h.lists.zones.own
  have hZ : RowsOwn w1 w0.heap.size (.slice A' (s.zones ++ [x]).length cap') (s.zones ++ [x]) (cells ++ [.slice Al x.length cl]) := by
    refine ⟨by rw [e1]; exact h1, fun j r hj => ?_⟩
    rw [List.getElem?_append] at hj
    split at hj
    · rename_i hjl
      obtain ⟨Ai, ci, hc, ho⟩ := h.lists.zones.row j r hj
      exact ⟨Ai, ci, by rw [List.getElem?_append_left (by omega)]; exact hc, own_keepsT ho hk hT (by decide)⟩
    · rw [List.getElem?_singleton] at hj
      split at hj
      · rename_i hjl hj0
        injection hj with hj
        subst hj
        exact ⟨Al, cl, by rw [List.getElem?_append_right (by omega), hlen, hj0]; rfl, own_keepsT hx hk hT (by decide)⟩
      · cases hj
  have hb : (stC s Ap Ac Az cp cc cz).setIfInBounds 2 (.slice A' (s.zones.length + 1) cap') = stC { s with zones := s.zones ++ [x] } Ap Ac A' cp cc cap' := by unfold stC; rw [e1]; rfl
  have hk2 : Keeps (fun x => x = w0.heap.size + 2) w1 (w1.setCell ⟨w0.heap.size + 2, 2, none⟩ (.slice A' (s.zones.length + 1) cap')) := Keeps.setCell (S := fun x => x = w0.heap.size + 2) (Keeps.refl _ _) (fun _ => rfl) _
  have hT2 := whole_ofKind hW
  have hW2 := hW.put 2 (.slice A' (s.zones.length + 1) cap')
  rw [hb] at hW2
  refine ⟨⟨(h.rd.keepsT hk hT (by decide) (fun k hk e => by have := hlo k e; omega)).keepsT hk2 hT2 (by decide) (fun k hk e => by omega), whole_keepsT (whole_keepsT h.name hk hT (by decide)) hk2 hT2 (by decide), (whole_keepsT h.res hk hT (by decide)).keeps hk2 (by omega), hW2,
    ⟨own_keepsT (own_keepsT h.lists.players hk hT (by decide)) hk2 hT2 (by decide), own_keepsT (own_keepsT h.lists.cards hk hT (by decide)) hk2 hT2 (by decide), rows_keepsT hZ hk2 hT2 (by decide) (by decide)⟩, h.ap.snoc hnew, ?_, h.old⟩, hW.free 2, _, hW.cellAt 2⟩
  exact (h.keeps.and hk (fun k hk e => by have := hlo k e; omega)).setCell (p := ⟨w0.heap.size + 2, 2, none⟩) (fun h => absurd h (by show ¬ w0.heap.size + 2 < w0.heap.size; omega)) _
end
end Go.Proofs.YthmfbcfbcookiaaGreatDoor
/-
  A zone that is being read. Conditions: none.
-/
namespace Go.Proofs.YthmfbcfbcookiaaGreatDoor
open Go.RowKit
theorem num_val {n : Nat} {b : List Oct} {i j : Nat} {bad : Bool} {y : Int} (hn : n ≤ 2) (h : (numP n).from b i bad = .ok y j) : 0 ≤ y ∧ y < 65536 ∧ sx32 (((numP n).from b i bad).val 0) = y := by
  cases bad
  · have h2 : numP n b i = .ok y j := h
    unfold numP at h2
    split at h2
    · injection h2 with e1 _
      have h1 := val_lt ((b.drop i).take n)
      have h3 : ((b.drop i).take n).length ≤ 2 := by rw [List.length_take]; omega
      have h4 : 256 ^ ((b.drop i).take n).length ≤ 256 ^ 2 := Nat.pow_le_pow_right (by decide) h3
      rw [h]
      refine ⟨by omega, by omega, ?_⟩
      exact sx32_small (show y < 2147483648 by omega)
    · cases h2
  · cases h
theorem num_bound {n : Nat} (b : List Oct) (i : Nat) (bad : Bool) (hn : n ≤ 2) : 0 ≤ sx32 (((numP n).from b i bad).val 0) ∧ sx32 (((numP n).from b i bad).val 0) < 65536 := by
  cases e : (numP n).from b i bad with
  | bad q => simp [Rd.val, sx32]
  | ok y j =>
    have h := num_val hn e
    rw [e] at h
    rw [h.2.2]
    exact ⟨h.1, h.2.1⟩
theorem sx32_in {y : Int} (h0 : 0 ≤ y) (h1 : y < 4294967296) : in32 (sx32 y) := by
  unfold in32 sx32
  split <;> omega
theorem num_bound4 (b : List Oct) (i : Nat) (bad : Bool) : in32 (sx32 (((numP 4).from b i bad).val 0)) := by
  cases e : (numP 4).from b i bad with
  | bad q => simp [Rd.val, sx32, in32]
  | ok y j =>
    cases bad
    · have h2 : numP 4 b i = .ok y j := e
      unfold numP at h2
      split at h2
      · injection h2 with e1 _
        have h1 := val_lt ((b.drop i).take 4)
        have h3 : ((b.drop i).take 4).length ≤ 4 := by rw [List.length_take]; omega
        have h4 : 256 ^ ((b.drop i).take 4).length ≤ 256 ^ 4 := Nat.pow_le_pow_right (by decide) h3
        exact sx32_in (show 0 ≤ y by omega) (show y < 4294967296 by omega)
      · cases h2
    · cases e
/-- A zone that is being read: its slice's block zb, the entries so far. -/
structure Rz (w0 w : World) (r B : Nat) (A : Option Addr) (cap : Nat) (b : List Oct) (i : Nat) (bad : Bool) (s : St) (Ap Ac Az : Option Addr) (cp cc cz : Nat) (cells : List Value) (zb : Nat) (xs : List Int) (Al : Option Addr) (cl : Nat) : Prop where
  rg : Rg w0 w r B A cap b i bad s Ap Ac Az cp cc cz cells
  zbox : Whole w zb 90 #[.slice Al xs.length cl]
  own : w.ownsRow w0.heap.size 3 1 (.slice Al xs.length cl) xs.length (xs.map (Value.int .i64))
  new : ∀ k, (Value.slice Al xs.length cl).ownBlock = some k → ∀ (j : Nat) (u : Value), cells[j]? = some u → u.ownBlock ≠ some k
  far : ∀ k, (Value.slice Az s.zones.length cz).ownBlock = some k → k ≠ zb
  zlo : w0.heap.size ≤ zb
section
variable {w0 w w' : World} {r B cap i : Nat} {A : Option Addr} {b : List Oct} {bad : Bool} {s : St} {Ap Ac Az : Option Addr} {cp cc cz : Nat} {cells : List Value} {zb : Nat} {xs : List Int} {Al : Option Addr} {cl : Nat}
theorem Rz.start (h : Rg w0 w r B A cap b i bad s Ap Ac Az cp cc cz cells) : Rz w0 (w.alloc (.cells #[.slice none 0 0] 90)) r B A cap b i bad s Ap Ac Az cp cc cz cells w.heap.size [] none 0 :=
  ⟨h.calm ((Keeps.refl _ w).alloc _), Whole.made _ _ _, World.ownsRow_nil _ _ _ _, (fun k hk => by cases hk), fun k hk => Nat.ne_of_lt (h.lists.zones.own.lt k hk).2, h.keeps.size⟩
theorem Rz.read {j : Nat} {c : Bool} (h : Rz w0 w r B A cap b i bad s Ap Ac Az cp cc cz cells zb xs Al cl) (hr : RdAt w' r B A cap b j c) (hk : Keeps (fun k => k = r) w w') : Rz w0 w' r B A cap b j c s Ap Ac Az cp cc cz cells zb xs Al cl := by
  have ho := h.rg.old
  have hz := h.zlo
  exact ⟨h.rg.read hr hk, h.zbox.keeps hk (by omega), own_keepsS h.own hk (fun k hk e => by have := (h.own.lt k hk).1; omega), h.new, h.far, h.zlo⟩
theorem Rz.calm (h : Rz w0 w r B A cap b i bad s Ap Ac Az cp cc cz cells zb xs Al cl) (hk : Keeps (fun _ => False) w w') : Rz w0 w' r B A cap b i bad s Ap Ac Az cp cc cz cells zb xs Al cl :=
  h.read (h.rg.rd.keeps hk id (fun _ _ => id)) (hk.mono fun _ _ e => e.elim)
/-- One entry more. -/
theorem Rz.push {A' : Option Addr} {cap' : Nat} {x : Int} {o : Obj} {w1 : World} (h : Rz w0 w r B A cap b i bad s Ap Ac Az cp cc cz cells zb xs Al cl)
    (h1 : w1.ownsRow w0.heap.size 3 1 (.slice A' (xs.length + 1) cap') (xs.length + 1) (xs.map (Value.int .i64) ++ [.int .i64 x])) (h2 : (w.alloc o).grownBy w1 (Value.slice Al xs.length cl).ownBlock)
    (h3 : (Value.slice A' (xs.length + 1) cap').ownBlock = (Value.slice Al xs.length cl).ownBlock ∨ (Value.slice A' (xs.length + 1) cap').ownBlock = some (w.alloc o).heap.size) :
    Rz w0 (w1.setCell ⟨zb, 0, none⟩ (.slice A' (xs.length + 1) cap')) r B A cap b i bad s Ap Ac Az cp cc cz cells zb (xs ++ [x]) A' cap' ∧ w1.frozen? ⟨zb, 0, none⟩ = false ∧ ∃ u, w1.cell? ⟨zb, 0, none⟩ = some u := by
  have hk : Keeps (fun k => (Value.slice Al xs.length cl).ownBlock = some k) w w1 := ((Keeps.refl _ w).alloc o).grown h2 (fun k hk _ => hk)
  have hT := own_ofKind h.own
  have hlo : ∀ k, (Value.slice Al xs.length cl).ownBlock = some k → w0.heap.size ≤ k := fun k hk => (h.own.lt k hk).1
  have hold := h.rg.old
  have hB := h.rg.rd.below
  have hzl := h.zlo
  have hW := whole_keepsT h.zbox hk hT (by decide)
  have hk2 : Keeps (fun x => x = zb) w1 (w1.setCell ⟨zb, 0, none⟩ (.slice A' (xs.length + 1) cap')) := Keeps.setCell (S := fun x => x = zb) (Keeps.refl _ _) (fun _ => rfl) _
  have hT2 := whole_ofKind hW
  have e1 : (xs ++ [x]).length = xs.length + 1 := by simp
  have hZ1 : RowsOwn w1 w0.heap.size (.slice Az s.zones.length cz) s.zones cells := ⟨own_keepsT h.rg.lists.zones.own hk hT (by decide), fun j q hj => by
    obtain ⟨Ai, ci, hc, ho⟩ := h.rg.lists.zones.row j q hj
    exact ⟨Ai, ci, hc, own_keepsS ho hk fun k hb hs => h.new k hs j _ hc hb⟩⟩
  have hZ2 : RowsOwn (w1.setCell ⟨zb, 0, none⟩ (.slice A' (xs.length + 1) cap')) w0.heap.size (.slice Az s.zones.length cz) s.zones cells := ⟨own_keepsS hZ1.own hk2 (fun k hk e => h.far k hk e), fun j q hj => by
    obtain ⟨Ai, ci, hc, ho⟩ := hZ1.row j q hj
    exact ⟨Ai, ci, hc, own_keepsT ho hk2 hT2 (by decide)⟩⟩
  refine ⟨⟨⟨(h.rg.rd.keepsT hk hT (by decide) (fun k hk e => by have := hlo k e; omega)).keepsT hk2 hT2 (by decide) (fun k hk e => by omega), whole_keepsT (whole_keepsT h.rg.name hk hT (by decide)) hk2 hT2 (by decide), whole_keepsT (whole_keepsT h.rg.res hk hT (by decide)) hk2 hT2 (by decide), whole_keepsT (whole_keepsT h.rg.box hk hT (by decide)) hk2 hT2 (by decide),
    ⟨own_keepsT (own_keepsT h.rg.lists.players hk hT (by decide)) hk2 hT2 (by decide), own_keepsT (own_keepsT h.rg.lists.cards hk hT (by decide)) hk2 hT2 (by decide), hZ2⟩, h.rg.ap, ?_, h.rg.old⟩, ?_, ?_, ?_, h.far, h.zlo⟩, hW.free 0, _, hW.cellAt 0⟩
  · exact (h.rg.keeps.and hk (fun k hk e => by have := hlo k e; omega)).setCell (p := ⟨zb, 0, none⟩) (fun h => absurd h (by show ¬ zb < w0.heap.size; omega)) _
  · rw [e1]; exact hW.put 0 _
  · have h4 := own_keepsT h1 hk2 hT2 (by decide)
    rw [e1, List.map_append]
    exact h4
  · intro k hk3 j u hu
    rw [e1] at hk3
    rcases h3 with e | e
    · exact h.new k (by rw [← e]; exact hk3) j u hu
    · intro hb
      have h4 := RowsOwn.cell_lt h.rg.lists.zones hu hb
      rw [e] at hk3
      injection hk3 with hk3
      rw [World.size_alloc] at hk3
      omega
end
end Go.Proofs.YthmfbcfbcookiaaGreatDoor
