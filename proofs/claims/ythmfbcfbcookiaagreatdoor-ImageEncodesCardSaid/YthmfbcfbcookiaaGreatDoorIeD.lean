/-
  A state in memory of its own that is written over: plain laws. Conditions: none.
-/
import Derived.Test.YthmfbcfbcookiaaGreatDoorIeC
import Derived.Test.YthmfbcfbcookiaaGreatDoorStB
import Derived.Test.YthmfbcfbcookiaaGreatDoorBgM
namespace Go.Proofs.YthmfbcfbcookiaaGreatDoor
open Go.RowKit
/-- Cards in a row: what they hold may be anything. -/
def Cards6 (cs : Array Value) (n : Nat) : Prop := ∀ i, i < n → ∃ c : Cd, ∀ j, j < 6 → cs[i * 6 + j]? = c.cells[j]?
theorem Cards6.of {l : List Cd} {n : Nat} (h : n ≤ l.length) : Cards6 (flat Cd.cells l).toArray n := fun i hi =>
  ⟨l[i], fun j hj => by rw [List.getElem?_toArray]; exact flat_get (k := 6) (fun _ => rfl) l i _ (List.getElem?_eq_getElem (by omega)) j hj⟩
theorem Cards6.power {cs : Array Value} {n : Nat} (h : Cards6 cs n) (k : Nat) (z : Int) : Cards6 (cs.setIfInBounds (k * 6 + 2) (.int .i32 z)) n := fun i hi => by
  obtain ⟨c, hc⟩ := h i hi
  by_cases e : i = k
  · subst e
    refine ⟨{ c with power := z }, fun j hj => ?_⟩
    have h1 := hc 2 (by decide)
    rw [Array.getElem?_setIfInBounds]
    by_cases e : j = 2
    · subst e
      have : i * 6 + 2 < cs.size := (Array.getElem?_eq_some_iff.1 (h1.trans (by rfl))).1
      rw [if_pos rfl, if_pos this]; rfl
    · rw [if_neg (by omega), hc j hj]
      match j, hj, e with
      | 0, _, _ => rfl
      | 1, _, _ => rfl
      | 3, _, _ => rfl
      | 4, _, _ => rfl
      | 5, _, _ => rfl
  · exact ⟨c, fun j hj => by rw [Array.getElem?_setIfInBounds, if_neg (by omega)]; exact hc j hj⟩
theorem Cards6.lies {w : World} {g n : Nat} {t : TypeId} {cs : Array Value} (h : Cards6 cs n) (hw : Whole w g t cs) : ∃ l : List Cd, l.length = n ∧ CdLies w w.heap.size (some ⟨g, 0, none⟩) l := by
  have : ∃ f : Nat → Cd, ∀ i, i < n → ∀ j, j < 6 → cs[i * 6 + j]? = (f i).cells[j]? := by
    classical
    exact ⟨fun i => if hi : i < n then Classical.choose (h i hi) else ⟨0, 0, 0, 0, 0, 0⟩, fun i hi => by simp only [dif_pos hi]; exact Classical.choose_spec (h i hi)⟩
  obtain ⟨f, hf⟩ := this
  refine ⟨(List.range n).map f, by simp, fun i c hi => ?_⟩
  have hlt : i < n := by simpa using (List.getElem?_eq_some_iff.1 hi).1
  obtain rfl : f i = c := by simpa [List.getElem?_map, List.getElem?_range hlt] using hi
  exact ⟨g, 0, rfl, hw.inside, fun j hj => by rw [Nat.zero_add, hw.cellAt]; exact hf i hlt j hj⟩
def Pls3 (cs : Array Value) (n : Nat) : Prop := ∀ i, i < n → ∃ c : Pl, ∀ j, j < 3 → cs[i * 3 + j]? = c.cells[j]?
theorem Pls3.of {l : List Pl} {n : Nat} (h : n ≤ l.length) : Pls3 (flat Pl.cells l).toArray n := fun i hi =>
  ⟨l[i], fun j hj => by rw [List.getElem?_toArray]; exact flat_get (k := 3) (fun _ => rfl) l i _ (List.getElem?_eq_getElem (by omega)) j hj⟩
theorem Pls3.flip {cs : Array Value} {n : Nat} (h : Pls3 cs n) (k : Nat) (z : Bool) : Pls3 (cs.setIfInBounds (k * 3 + 2) (.bool z)) n := fun i hi => by
  obtain ⟨c, hc⟩ := h i hi
  by_cases e : i = k
  · subst e
    refine ⟨{ c with out := z }, fun j hj => ?_⟩
    have h1 := hc 2 (by decide)
    rw [Array.getElem?_setIfInBounds]
    by_cases e : j = 2
    · subst e
      have : i * 3 + 2 < cs.size := (Array.getElem?_eq_some_iff.1 (h1.trans (by rfl))).1
      rw [if_pos rfl, if_pos this]; rfl
    · rw [if_neg (by omega), hc j hj]
      match j, hj, e with
      | 0, _, _ => rfl
      | 1, _, _ => rfl
      | 2, _, e => exact absurd rfl e
  · exact ⟨c, fun j hj => by rw [Array.getElem?_setIfInBounds, if_neg (by omega)]; exact hc j hj⟩
theorem Pls3.lies {w : World} {g n : Nat} {t : TypeId} {cs : Array Value} (h : Pls3 cs n) (hw : Whole w g t cs) : ∃ l : List Pl, l.length = n ∧ PlLies w w.heap.size (some ⟨g, 0, none⟩) l := by
  have : ∃ f : Nat → Pl, ∀ i, i < n → ∀ j, j < 3 → cs[i * 3 + j]? = (f i).cells[j]? := by
    classical
    exact ⟨fun i => if hi : i < n then Classical.choose (h i hi) else ⟨0, 0, false⟩, fun i hi => by simp only [dif_pos hi]; exact Classical.choose_spec (h i hi)⟩
  obtain ⟨f, hf⟩ := this
  refine ⟨(List.range n).map f, by simp, fun i c hi => ?_⟩
  have hlt : i < n := by simpa using (List.getElem?_eq_some_iff.1 hi).1
  obtain rfl : f i = c := by simpa [List.getElem?_map, List.getElem?_range hlt] using hi
  exact ⟨g, 0, rfl, hw.inside, fun j hj => by rw [Nat.zero_add, hw.cellAt]; exact hf i hlt j hj⟩
theorem RowsUpto.keepsT {S : Nat → Prop} {w w' : World} {g i : Nat} {its : List (Nat × List Int)} {cs : Array Value} {bs : Nat → Nat} {t : TypeId} (h : RowsUpto g its w cs bs i) (hk : Keeps S w w') (hS : OfKind w t S) (h1 : 90 ≠ t) (h2 : 3 ≠ t) : RowsUpto g its w' cs bs i :=
  ⟨h.size, whole_keepsT h.whole hk hS h1, fun j it hj hit => by
    obtain ⟨q1, q2, q3⟩ := h.row j it hj hit
    exact ⟨q1, whole_keepsT q2 hk hS h2, q3⟩, h.rise⟩
/-- The state of one's own, while it is written over; bytes that were answered. -/
structure On (w W : World) (s : St) (gi gp gc gz : Nat) (pc cc cs : Array Value) (bs : Nat → Nat) (A1 A2 : Option Addr) (c1 c2 : Nat) (l : List Byte) (n1 n2 : Nat) : Prop where
  keeps : Keeps (fun _ => False) w W
  box : Whole W gi 27 (stC s (some ⟨gp, 0, none⟩) (some ⟨gc, 0, none⟩) (some ⟨gz, 0, none⟩) (s.players.length + 64) (s.cards.length + 64) (s.zones.length + 64))
  pl : Whole W gp 44 pc
  pls : Pls3 pc s.players.length
  cd : Whole W gc 42 cc
  cds : Cards6 cc s.cards.length
  zn : RowsUpto gz (wideR s.zones) W cs bs (s.zones.length + 64)
  a : Byt W n1 A1 c1 l
  b : Byt W n2 A2 c2 l
section
variable {w W W' : World} {s : St} {gi gp gc gz : Nat} {pc cc cs : Array Value} {bs : Nat → Nat} {A1 A2 : Option Addr} {c1 c2 : Nat} {l : List Byte} {n1 n2 : Nat}
theorem On.calm (h : On w W s gi gp gc gz pc cc cs bs A1 A2 c1 c2 l n1 n2) (hk : Keeps (fun _ => False) W W') : On w W' s gi gp gc gz pc cc cs bs A1 A2 c1 c2 l n1 n2 :=
  ⟨h.keeps.trans hk, h.box.keeps hk id, h.pl.keeps hk id, h.pls, h.cd.keeps hk id, h.cds, h.zn.keeps hk (fun _ _ => id), own_keepsS h.a hk (fun _ _ => id), own_keepsS h.b hk (fun _ _ => id)⟩
theorem On.card (h : On w W s gi gp gc gz pc cc cs bs A1 A2 c1 c2 l n1 n2) (hg : w.heap.size ≤ gc) (k : Nat) (z : Int) : On w (W.setCell ⟨gc, k * 6 + 2, none⟩ (.int .i32 z)) s gi gp gc gz pc (cc.setIfInBounds (k * 6 + 2) (.int .i32 z)) cs bs A1 A2 c1 c2 l n1 n2 := by
  have hk : Keeps (fun x => x = gc) W (W.setCell ⟨gc, k * 6 + 2, none⟩ (.int .i32 z)) := Keeps.setCell (S := fun x => x = gc) (Keeps.refl _ _) (fun _ => rfl) _
  have hT := whole_ofKind h.cd
  exact ⟨h.keeps.and hk (fun b hb e => by omega), whole_keepsT h.box hk hT (by decide), whole_keepsT h.pl hk hT (by decide), h.pls, h.cd.put _ _, h.cds.power k z, h.zn.keepsT hk hT (by decide) (by decide), own_keepsT h.a hk hT (by decide), own_keepsT h.b hk hT (by decide)⟩
theorem On.player (h : On w W s gi gp gc gz pc cc cs bs A1 A2 c1 c2 l n1 n2) (hg : w.heap.size ≤ gp) (k : Nat) (z : Bool) : On w (W.setCell ⟨gp, k * 3 + 2, none⟩ (.bool z)) s gi gp gc gz (pc.setIfInBounds (k * 3 + 2) (.bool z)) cc cs bs A1 A2 c1 c2 l n1 n2 := by
  have hk : Keeps (fun x => x = gp) W (W.setCell ⟨gp, k * 3 + 2, none⟩ (.bool z)) := Keeps.setCell (S := fun x => x = gp) (Keeps.refl _ _) (fun _ => rfl) _
  have hT := whole_ofKind h.pl
  exact ⟨h.keeps.and hk (fun b hb e => by omega), whole_keepsT h.box hk hT (by decide), h.pl.put _ _, h.pls.flip k z, whole_keepsT h.cd hk hT (by decide), h.cds, h.zn.keepsT hk hT (by decide) (by decide), own_keepsT h.a hk hT (by decide), own_keepsT h.b hk hT (by decide)⟩
/-- What it holds is some state with as many players, as many cards, and the same zones. -/
theorem On.lies (h : On w W s gi gp gc gz pc cc cs bs A1 A2 c1 c2 l n1 n2) : ∃ t : St, t.players.length = s.players.length ∧ t.cards.length = s.cards.length ∧ t.zones = s.zones ∧ t.turn = s.turn ∧ t.whose = s.whose ∧ t.fin = s.fin ∧ t.winner = s.winner ∧ StIn W W.heap.size t (some ⟨gp, 0, none⟩) (some ⟨gc, 0, none⟩) (some ⟨gz, 0, none⟩) := by
  obtain ⟨ps, hp1, hp2⟩ := h.pls.lies h.pl
  obtain ⟨cs', hc1, hc2⟩ := h.cds.lies h.cd
  exact ⟨⟨ps, cs', s.zones, s.turn, s.whose, s.fin, s.winner⟩, hp1, hc1, rfl, rfl, rfl, rfl, rfl, hp2, hc2, h.zn.lie⟩
end
theorem On.of {w W : World} {s : St} {gi gp gc gz lo : Nat} {cs : Array Value} {bs : Nat → Nat} {A1 A2 : Option Addr} {c1 c2 : Nat} {l : List Byte} {n1 n2 : Nat} (h : WideIn W lo s gp gc gz cs bs) (hk : Keeps (fun _ => False) w W) (hb : Whole W gi 27 (stC s (some ⟨gp, 0, none⟩) (some ⟨gc, 0, none⟩) (some ⟨gz, 0, none⟩) (s.players.length + 64) (s.cards.length + 64) (s.zones.length + 64))) (ha : Byt W n1 A1 c1 l) (hb2 : Byt W n2 A2 c2 l) :
    On w W s gi gp gc gz (flat Pl.cells (widePl s.players)).toArray (flat Cd.cells (wideCd s.cards)).toArray cs bs A1 A2 c1 c2 l n1 n2 :=
  ⟨hk, hb, h.players, Pls3.of (by rw [widePl_length]; omega), h.cards, Cards6.of (by rw [wideCd_length]; omega), h.zones, ha, hb2⟩
/-- Bytes laid into a bag. -/
theorem addBytes1 {w : World} {p c : Nat} {rows : List Sl} {A : Option Addr} (r : Sl) {xs : List Value} (h : BagYn w p rows A c) (hn : rows.length < 400) (hr : w.ownsRow 0 5 1 r.val r.len xs) (hd : ∀ b, r.blk = some b → ¬ blks rows b ∧ b < p) :
    Calls Tryz.prog 15 #[.pointer (some ⟨p, 0, none⟩), .slice r.at_ r.len r.cap] w fun e w' => e = .returned (.tuple #[]) ∧ ∃ A' c', BagYn w' p (rows ++ [r]) A' c' ∧ Keeps (fun b => p ≤ b) w w' := by
  have hlt := h.hW.inside
  refine (addBytes_any p (p + 1) rows.length r.len r.cap c A r.at_ _ (vals rows) w h.hW (by rw [Array.getElem?_setIfInBounds, if_pos rfl, if_pos (by decide)]) h.hO (Nat.lt_succ_self _) hlt hn).mono ?_
  rintro e w' ⟨he, A', c', hW, hO, hk⟩
  exact ⟨he, A', c', h.add hr (fun b hb => ⟨(hd b hb).1, by have := (hd b hb).2; omega⟩) hW hO hk, hk.mono (fun b _ e => by
    rcases e with e | e
    · omega
    · have := (h.hO.lt b e).1; omega)⟩
end Go.Proofs.YthmfbcfbcookiaaGreatDoor
