/-
  A state within reach. Conditions: none.
-/
import Derived.Test.YtgbikcliembkcaaDoorStX
import Derived.Test.YtgbikcliembkcaaDoorWk
namespace Go.Proofs.YtgbikcliembkcaaDoor
/-- Lengths that a machine bears. -/
structure StBig (s : St) : Prop where
  players : s.players.length ≤ 1000000000000000
  cards : s.cards.length ≤ 1000000000000000
  zones : s.zones.length ≤ 1000000000000000
  rows : ∀ r ∈ s.zones, r.length ≤ 1000000000000000
end Go.Proofs.YtgbikcliembkcaaDoor
/-
  The law StateWheres: the walk. Conditions: lengths within 10 ^ 15.
-/
namespace Go.Proofs.YtgbikcliembkcaaDoor
open Go.RowKit
/-- A state and its marked copy, each in a box. -/
structure Two (w wr : World) (lo : Nat) (s : St) (Ap Ac Az : Option Addr) (cp cc cz gi gp gc gz : Nat) (cs : Array Value) (bs : Nat → Nat) : Prop where
  keeps : Keeps (fun _ => False) w wr
  box : Whole wr w.heap.size 32 #[.slice Ap s.players.length cp, .slice Ac s.cards.length cc, .slice Az s.zones.length cz, .int .i32 s.turn, .int .i64 s.whose, .int .i8 s.fin, .int .i64 s.winner]
  inn : Whole wr gi 32 #[.slice (some ⟨gp, 0, none⟩) s.players.length (s.players.length + 64), .slice (some ⟨gc, 0, none⟩) s.cards.length (s.cards.length + 64), .slice (some ⟨gz, 0, none⟩) s.zones.length (s.zones.length + 64), .int .i32 s.turn, .int .i64 s.whose, .int .i8 s.fin, .int .i64 s.winner]
  src : StIn wr wr.heap.size s Ap Ac Az
  wide : WideIn wr lo s gp gc gz cs bs
theorem Two.calm {w wr w' : World} {lo : Nat} {s : St} {Ap Ac Az : Option Addr} {cp cc cz gi gp gc gz : Nat} {cs : Array Value} {bs : Nat → Nat} (h : Two w wr lo s Ap Ac Az cp cc cz gi gp gc gz cs bs) (hk : Keeps (fun _ => False) wr w') : Two w w' lo s Ap Ac Az cp cc cz gi gp gc gz cs bs :=
  ⟨h.keeps.trans hk, h.box.keeps hk id, h.inn.keeps hk id, h.src.past hk, h.wide.keeps hk (fun _ _ => id)⟩
theorem whereV_same (o : Option (Nat × Nat)) : ∃ z i : Int, ∃ b : Bool, whereV o = .tuple #[.int .i64 z, .int .i64 i, .bool b] := by
  cases o with
  | none => exact ⟨0, 0, false, rfl⟩
  | some p => exact ⟨p.1, p.2, true, rfl⟩
end Go.Proofs.YtgbikcliembkcaaDoor
/-
  A state's own memory, written over: cards and rows. Conditions: none.
-/
namespace Go.Proofs.YtgbikcliembkcaaDoor
open Go.RowKit
theorem Whole.kind {w : World} {b b' : Nat} {t t' : TypeId} {cs cs' : Array Value} (h : Whole w b t cs) (h' : Whole w b' t' cs') (hne : t ≠ t') : b ≠ b' := fun e => by
  subst e
  have := h.symm.trans h'
  simp only [Option.some.injEq, Obj.cells.injEq] at this
  exact hne this.2.1
/-- Cells that are as many cards. -/
def Cards6 (cs : Array Value) (n : Nat) : Prop := ∀ i, i < n → ∃ c : Cd, ∀ j, j < 6 → cs[i * 6 + j]? = c.cells[j]?
theorem Cards6.of {l : List Cd} {n : Nat} (h : n ≤ l.length) : Cards6 (flat Cd.cells l).toArray n := fun i hi =>
  ⟨l[i], fun j hj => by rw [List.getElem?_toArray]; exact flat_get (k := 6) (fun _ => rfl) l i _ (List.getElem?_eq_getElem (by omega)) j hj⟩
theorem Cards6.owner {cs : Array Value} {n : Nat} (h : Cards6 cs n) (k : Nat) (z : Int) : Cards6 (cs.setIfInBounds (k * 6 + 1) (.int .i64 z)) n := fun i hi => by
  obtain ⟨c, hc⟩ := h i hi
  by_cases e : i = k
  · subst e
    refine ⟨{ c with owner := z }, fun j hj => ?_⟩
    have h1 := hc 1 (by decide)
    rw [Array.getElem?_setIfInBounds]
    by_cases e : j = 1
    · subst e
      have : i * 6 + 1 < cs.size := (Array.getElem?_eq_some_iff.1 (h1.trans (by rfl))).1
      rw [if_pos rfl, if_pos this]; rfl
    · rw [if_neg (by omega), hc j hj]
      match j, hj, e with
      | 0, _, _ => rfl
      | 2, _, _ => rfl
      | 3, _, _ => rfl
      | 4, _, _ => rfl
      | 5, _, _ => rfl
  · exact ⟨c, fun j hj => by rw [Array.getElem?_setIfInBounds, if_neg (by omega)]; exact hc j hj⟩
theorem Cards6.lies {w : World} {g n : Nat} {t : TypeId} {cs : Array Value} (h : Cards6 cs n) (hw : Whole w g t cs) : ∃ l : List Cd, l.length = n ∧ CdLies w w.heap.size (some ⟨g, 0, none⟩) l := by
  have : ∃ f : Nat → Cd, ∀ i, i < n → ∀ j, j < 6 → cs[i * 6 + j]? = (f i).cells[j]? := by
    classical
    exact ⟨fun i => if hi : i < n then Classical.choose (h i hi) else ⟨0, 0, 0, 0, 0, 0⟩, fun i hi => by simp only [dif_pos hi]; exact Classical.choose_spec (h i hi)⟩
  obtain ⟨f, hf⟩ := this
  refine ⟨(List.range n).map f, by simp, fun i c hi => ?_⟩
  have hlt : i < n := by simpa using (List.getElem?_eq_some_iff.1 hi).1
  obtain rfl : f i = c := by simpa [List.getElem?_map, List.getElem?_range hlt] using hi
  exact ⟨g, 0, rfl, hw.inside, fun j hj => by rw [Nat.zero_add, hw.cellAt]; exact hf i hlt j hj⟩
/-- Rows of a row's own, each in a block of its own: what they hold may be anything. -/
structure RowsOf (w : World) (gz : Nat) (cs : Array Value) (bs : Nat → Nat) (ns : List Nat) : Prop where
  whole : Whole w gz 74 cs
  row : ∀ (i n : Nat), ns[i]? = some n → ∃ l : List Int, n ≤ l.length ∧ cs[i]? = some (.slice (some ⟨bs i, 0, none⟩) n l.length) ∧ Whole w (bs i) 3 (ints l) ∧ gz < bs i
  rise : ∀ j k, j < k → k < ns.length → bs j < bs k
theorem RowsOf.of {w : World} {gz : Nat} {xs : List (List Int)} {cs : Array Value} {bs : Nat → Nat} (h : RowsUpto gz (wideR xs) w cs bs (xs.length + 64)) : RowsOf w gz cs bs (xs.map List.length) :=
  ⟨h.whole, fun i n hi => by
    have hl : i < xs.length := by simpa using (List.getElem?_eq_some_iff.1 hi).1
    obtain rfl : xs[i].length = n := by simpa [List.getElem?_map, List.getElem?_eq_getElem hl] using hi
    obtain ⟨h1, h2, h3⟩ := h.row i _ (by omega) (wideR_low xs i _ (List.getElem?_eq_getElem hl))
    exact ⟨wideL xs[i], by simp [wideL_length], h1, h2, h3⟩, fun j k hjk hk => h.rise j k hjk (by simp at hk; omega)⟩
theorem RowsOf.put {w : World} {gz : Nat} {cs : Array Value} {bs : Nat → Nat} {ns : List Nat} (h : RowsOf w gz cs bs ns) {i n : Nat} (hi : ns[i]? = some n) (k : Nat) (z : Int) : RowsOf (w.setCell ⟨bs i, k, none⟩ (.int .i64 z)) gz cs bs ns := by
  have hil := (List.getElem?_eq_some_iff.1 hi).1
  refine ⟨h.whole.putFar (by obtain ⟨_, _, _, _, h4⟩ := h.row i n hi; show gz ≠ bs i; omega) _, fun j m hj => ?_, h.rise⟩
  obtain ⟨l, h1, h2, h3, h4⟩ := h.row j m hj
  have hjl := (List.getElem?_eq_some_iff.1 hj).1
  by_cases e : j = i
  · subst e
    refine ⟨l.set k z, by simpa using h1, by simpa using h2, ?_, h4⟩
    have := h3.put k (.int .i64 z)
    rwa [ints_set] at this
  · refine ⟨l, h1, h2, h3.putFar ?_ _, h4⟩
    show bs j ≠ bs i
    rcases Nat.lt_or_ge j i with hlt | hge
    · have := h.rise j i hlt hil; omega
    · have := h.rise i j (by omega) hjl; omega
theorem RowsOf.keeps {S : Nat → Prop} {w w' : World} {gz : Nat} {cs : Array Value} {bs : Nat → Nat} {ns : List Nat} (h : RowsOf w gz cs bs ns) (hk : Keeps S w w') (hS : ∀ b, gz ≤ b → ¬ S b) : RowsOf w' gz cs bs ns :=
  ⟨h.whole.keeps hk (hS gz (Nat.le_refl _)), fun i n hi => by
    obtain ⟨l, h1, h2, h3, h4⟩ := h.row i n hi
    exact ⟨l, h1, h2, h3.keeps hk (hS _ (by omega)), h4⟩, h.rise⟩
theorem RowsOf.far {w : World} {gz g : Nat} {t : TypeId} {cs c : Array Value} {bs : Nat → Nat} {ns : List Nat} (h : RowsOf w gz cs bs ns) (hg : Whole w g t c) (h1 : t ≠ 3) (h2 : t ≠ 74) (i : Nat) (u : Value) : RowsOf (w.setCell ⟨g, i, none⟩ u) gz cs bs ns :=
  ⟨h.whole.putFar (fun e => (Whole.kind hg h.whole h2) e.symm) _, fun i n hi => by
    obtain ⟨l, k1, k2, k3, k4⟩ := h.row i n hi
    exact ⟨l, k1, k2, k3.putFar (fun e => (Whole.kind hg k3 h1) e.symm) _, k4⟩, h.rise⟩
theorem RowsOf.lies {w : World} {gz : Nat} {cs : Array Value} {bs : Nat → Nat} {ns : List Nat} (h : RowsOf w gz cs bs ns) : ∃ rows : List (List Int), rows.map List.length = ns ∧ RowsLie w w.heap.size (some ⟨gz, 0, none⟩) rows := by
  have hq : ∀ i, i < ns.length → ∃ l : List Int, ns.getD i 0 ≤ l.length ∧ cs[i]? = some (.slice (some ⟨bs i, 0, none⟩) (ns.getD i 0) l.length) ∧ Whole w (bs i) 3 (ints l) := fun i hi => by
    obtain ⟨l, h1, h2, h3, _⟩ := h.row i _ (List.getElem?_eq_getElem hi)
    have e : ns.getD i 0 = ns[i] := by simp [List.getD, List.getElem?_eq_getElem hi]
    exact ⟨l, by rw [e]; exact h1, by rw [e]; exact h2, h3⟩
  have : ∃ f : Nat → List Int, ∀ i, i < ns.length → ns.getD i 0 ≤ (f i).length ∧ cs[i]? = some (.slice (some ⟨bs i, 0, none⟩) (ns.getD i 0) (f i).length) ∧ Whole w (bs i) 3 (ints (f i)) := by
    classical
    exact ⟨fun i => if hi : i < ns.length then Classical.choose (hq i hi) else [], fun i hi => by simp only [dif_pos hi]; exact Classical.choose_spec (hq i hi)⟩
  obtain ⟨f, hf⟩ := this
  have hlen : ∀ i, i < ns.length → ((f i).take (ns.getD i 0)).length = ns.getD i 0 := fun i hi => by rw [List.length_take]; have := (hf i hi).1; omega
  refine ⟨(List.range ns.length).map (fun i => (f i).take (ns.getD i 0)), ?_, fun i r hi => ?_⟩
  · apply List.ext_getElem (by simp)
    intro i h1 h2
    have hi : i < ns.length := by simpa using h2
    have e : ns.getD i 0 = ns[i] := by simp [List.getD, List.getElem?_eq_getElem hi]
    simp only [List.getElem_map, List.getElem_range]
    rw [hlen i hi, e]
  · have hlt : i < ns.length := by simpa using (List.getElem?_eq_some_iff.1 hi).1
    obtain rfl : (f i).take (ns.getD i 0) = r := by simpa [List.getElem?_map, List.getElem?_range hlt] using hi
    obtain ⟨h1, h2, h3⟩ := hf i hlt
    refine ⟨gz, 0, some ⟨bs i, 0, none⟩, (f i).length, rfl, h.whole.inside, by rw [Nat.zero_add, h.whole.cellAt, hlen i hlt]; exact h2, Lies.whole h3 (fun k u hu => ?_) h3.inside⟩
    rw [Nat.zero_add, ints_get]
    have hk : k < ns.getD i 0 := by have := (List.getElem?_eq_some_iff.1 hu).1; rw [List.length_map, hlen i hlt] at this; exact this
    rw [List.getElem?_map, List.getElem?_take, if_pos hk] at hu
    exact hu
/-- A copy in memory of its own, whose cards and rows may be written over. -/
structure Own3 (w wr : World) (s : St) (gi gp gc gz : Nat) (cc cs : Array Value) (bs : Nat → Nat) : Prop where
  keeps : Keeps (fun _ => False) w wr
  inn : Whole wr gi 32 #[.slice (some ⟨gp, 0, none⟩) s.players.length (s.players.length + 64), .slice (some ⟨gc, 0, none⟩) s.cards.length (s.cards.length + 64), .slice (some ⟨gz, 0, none⟩) s.zones.length (s.zones.length + 64), .int .i32 s.turn, .int .i64 s.whose, .int .i8 s.fin, .int .i64 s.winner]
  players : Whole wr gp 72 (flat Pl.cells (widePl s.players)).toArray
  cards : Whole wr gc 68 cc
  six : Cards6 cc s.cards.length
  zones : RowsOf wr gz cs bs (s.zones.map List.length)
  newc : w.heap.size ≤ gc
  newz : w.heap.size ≤ gz
section
variable {w wr w' : World} {s : St} {gi gp gc gz : Nat} {cc cs : Array Value} {bs : Nat → Nat}
theorem Own3.calm (h : Own3 w wr s gi gp gc gz cc cs bs) (hk : Keeps (fun _ => False) wr w') : Own3 w w' s gi gp gc gz cc cs bs :=
  ⟨h.keeps.trans hk, h.inn.keeps hk id, h.players.keeps hk id, h.cards.keeps hk id, h.six, h.zones.keeps hk fun _ _ => id, h.newc, h.newz⟩
theorem Own3.drewN (h : Own3 w wr s gi gp gc gz cc cs bs) (n : Nat) : Own3 w (wr.drewN n) s gi gp gc gz cc cs bs := h.calm ((Keeps.refl _ wr).drewN n)
theorem Own3.card (h : Own3 w wr s gi gp gc gz cc cs bs) (k : Nat) (z : Int) : Own3 w (wr.setCell ⟨gc, k * 6 + 1, none⟩ (.int .i64 z)) s gi gp gc gz (cc.setIfInBounds (k * 6 + 1) (.int .i64 z)) cs bs :=
  ⟨h.keeps.setCell (fun hb => absurd hb (by have := h.newc; show ¬ gc < _; omega)) _, h.inn.putFar (Whole.kind h.inn h.cards (by decide)) _, h.players.putFar (Whole.kind h.players h.cards (by decide)) _, h.cards.put _ _, h.six.owner k z,
    h.zones.far h.cards (by decide) (by decide) _ _, h.newc, h.newz⟩
theorem Own3.zone (h : Own3 w wr s gi gp gc gz cc cs bs) {i n : Nat} (hi : (s.zones.map List.length)[i]? = some n) (k : Nat) (z : Int) : Own3 w (wr.setCell ⟨bs i, k, none⟩ (.int .i64 z)) s gi gp gc gz cc cs bs := by
  obtain ⟨l, _, _, h3, h4⟩ := h.zones.row i n hi
  exact ⟨h.keeps.setCell (fun hb => absurd hb (by have := h.newz; show ¬ bs i < _; omega)) _, h.inn.putFar (Whole.kind h.inn h3 (by decide)) _, h.players.putFar (Whole.kind h.players h3 (by decide)) _, h.cards.putFar (Whole.kind h.cards h3 (by decide)) _, h.six,
    h.zones.put hi k z, h.newc, h.newz⟩
/-- It reads as a state as large. -/
theorem Own3.lies (h : Own3 w wr s gi gp gc gz cc cs bs) : ∃ t : St, t.players.length = s.players.length ∧ t.cards.length = s.cards.length ∧ t.zones.map List.length = s.zones.map List.length ∧ t.turn = s.turn ∧ t.whose = s.whose ∧ t.fin = s.fin ∧ t.winner = s.winner ∧
    StIn wr wr.heap.size t (some ⟨gp, 0, none⟩) (some ⟨gc, 0, none⟩) (some ⟨gz, 0, none⟩) := by
  obtain ⟨l, hl, hc⟩ := h.six.lies h.cards
  obtain ⟨rows, hr, hz⟩ := h.zones.lies
  exact ⟨⟨s.players, l, rows, s.turn, s.whose, s.fin, s.winner⟩, rfl, hl, hr, rfl, rfl, rfl, rfl, ⟨FLies.whole (f := Pl.cells) (k := 3) (fun _ => rfl) h.players (widePl_head _) h.players.inside, hc, hz⟩⟩
theorem Own3.of (hk : Keeps (fun _ => False) w wr) {lo : Nat} (hin : Whole wr gi 32 #[.slice (some ⟨gp, 0, none⟩) s.players.length (s.players.length + 64), .slice (some ⟨gc, 0, none⟩) s.cards.length (s.cards.length + 64), .slice (some ⟨gz, 0, none⟩) s.zones.length (s.zones.length + 64), .int .i32 s.turn, .int .i64 s.whose, .int .i8 s.fin, .int .i64 s.winner])
    (h : WideIn wr lo s gp gc gz cs bs) (hlo : w.heap.size ≤ lo) : Own3 w wr s gi gp gc gz (flat Cd.cells (wideCd s.cards)).toArray cs bs :=
  ⟨hk, hin, h.players, h.cards, Cards6.of (by rw [wideCd_length]; omega), RowsOf.of h.zones, Nat.le_trans hlo h.newc, Nat.le_trans hlo h.newz⟩
end
/-- States as large are alike small. -/
theorem small_like {s t : St} (h : StSmall s) (hp : t.players.length = s.players.length) (hc : t.cards.length = s.cards.length) (hz : t.zones.map List.length = s.zones.map List.length) (hf : s.zones.flatten.length ≤ 1000000000) : StSmall t ∧ t.zones.flatten.length ≤ 1000000000 := by
  have hzl : t.zones.length = s.zones.length := by simpa using congrArg List.length hz
  refine ⟨⟨by rw [hp]; exact h.players, by rw [hc]; exact h.cards, by rw [hzl]; exact h.zones, fun r hr => ?_⟩, by rw [List.length_flatten, hz, ← List.length_flatten]; exact hf⟩
  have : r.length ∈ s.zones.map List.length := by rw [← hz]; exact List.mem_map_of_mem hr
  obtain ⟨r', hr', e⟩ := List.mem_map.1 this
  rw [← e]; exact h.rows r' hr'
end Go.Proofs.YtgbikcliembkcaaDoor
