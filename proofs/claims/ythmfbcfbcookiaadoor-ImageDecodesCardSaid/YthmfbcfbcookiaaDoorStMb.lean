/-
  The bag: one list of players, of cards, of integers more, or none where 400 are there. Conditions: none.
-/
import Derived.Test.YthmfbcfbcookiaaDoorBagJ
import Derived.Test.YthmfbcfbcookiaaDoorStMa
namespace Go.Proofs.YthmfbcfbcookiaaDoor
open Go.RowKit
set_option maxRecDepth 100000 in
set_option maxHeartbeats 1000000 in
theorem addPlayers_any (p base n ln lc cap : Nat) (A LA : Option Addr) (cs : Array Value) (xs : List Value) (w : World) (hW : Whole w p 70 cs) (hcs : cs[7]? = some (.slice A n cap)) (hO : w.ownsRow base 22 1 (.slice A n cap) n xs) (hp : p < base) (hb : base ≤ w.heap.size) (hn : n < 400) :
    Calls Tryd.prog 42 #[.pointer (some ⟨p, 0, none⟩), .slice LA ln lc] w fun e w' => e = .returned (.tuple #[]) ∧ ∃ A' cap', Whole w' p 70 (cs.setIfInBounds 7 (.slice A' (n + 1) cap')) ∧
      w'.ownsRow base 22 1 (.slice A' (n + 1) cap') (n + 1) (xs ++ [.slice LA ln lc]) ∧ Keeps (fun b => b = p ∨ (Value.slice A n cap).ownBlock = some b) w w' := by
  have c0 := (hW.cellAt 7).trans hcs
  have hj : 7 < cs.size := (Array.getElem?_eq_some_iff.1 hcs).1
  have HW := Lib.hid hW; have HO := Lib.hid hO
  have hin := hW.inside
  clear hW hcs hO
  go_enter Tryd.func42, Tryd.ntmps42
  go_wp2_with (at_builtin; (refine wpList_append_cells _ rfl (.tmp 14) (.tmp 16) 55 rfl base 22 (.slice none 0 0) 1 24 Tryd.underlying55 info_plsB rfl (by decide) _ n _ rfl (HO.out.alloc _) (w.heap.size + 1) (some ⟨w.heap.size, 0, none⟩) 1 1 [.slice LA ln lc] rfl (Lies.row (t := 22) (fr := (0, 0)) (heap_alloc_new w _) (by simp)) rfl (by simp [Value.oneCell']) (by unfold maxLen; omega) (by omega) (by simp; omega) ?_); intro A' cap' w1 h1 h2 _ _ _; obtain ⟨hA, hB, hC, hD, x, hE⟩ := bag_next HW.out HO.out hp hj h1 h2; have HA := Lib.hid hA; have HB := Lib.hid hB; have HC := Lib.hid hC; clear hA hB hC h1 h2 c0)
  go_end0
  exact ⟨rfl, A', cap', HA.out, HB.out, HC.out⟩
set_option maxRecDepth 100000 in
set_option maxHeartbeats 1000000 in
theorem addCards_any (p base n ln lc cap : Nat) (A LA : Option Addr) (cs : Array Value) (xs : List Value) (w : World) (hW : Whole w p 70 cs) (hcs : cs[8]? = some (.slice A n cap)) (hO : w.ownsRow base 23 1 (.slice A n cap) n xs) (hp : p < base) (hb : base ≤ w.heap.size) (hn : n < 400) :
    Calls Tryd.prog 43 #[.pointer (some ⟨p, 0, none⟩), .slice LA ln lc] w fun e w' => e = .returned (.tuple #[]) ∧ ∃ A' cap', Whole w' p 70 (cs.setIfInBounds 8 (.slice A' (n + 1) cap')) ∧
      w'.ownsRow base 23 1 (.slice A' (n + 1) cap') (n + 1) (xs ++ [.slice LA ln lc]) ∧ Keeps (fun b => b = p ∨ (Value.slice A n cap).ownBlock = some b) w w' := by
  have c0 := (hW.cellAt 8).trans hcs
  have hj : 8 < cs.size := (Array.getElem?_eq_some_iff.1 hcs).1
  have HW := Lib.hid hW; have HO := Lib.hid hO
  have hin := hW.inside
  clear hW hcs hO
  go_enter Tryd.func43, Tryd.ntmps43
  go_wp2_with (at_builtin; (refine wpList_append_cells _ rfl (.tmp 14) (.tmp 16) 56 rfl base 23 (.slice none 0 0) 1 24 Tryd.underlying56 info_cdsB rfl (by decide) _ n _ rfl (HO.out.alloc _) (w.heap.size + 1) (some ⟨w.heap.size, 0, none⟩) 1 1 [.slice LA ln lc] rfl (Lies.row (t := 23) (fr := (0, 0)) (heap_alloc_new w _) (by simp)) rfl (by simp [Value.oneCell']) (by unfold maxLen; omega) (by omega) (by simp; omega) ?_); intro A' cap' w1 h1 h2 _ _ _; obtain ⟨hA, hB, hC, hD, x, hE⟩ := bag_next HW.out HO.out hp hj h1 h2; have HA := Lib.hid hA; have HB := Lib.hid hB; have HC := Lib.hid hC; clear hA hB hC h1 h2 c0)
  go_end0
  exact ⟨rfl, A', cap', HA.out, HB.out, HC.out⟩
set_option maxRecDepth 100000 in
theorem addInts_full (p n cap : Nat) (A : Option Addr) (v : Value) (cs : Array Value) (w : World) (hW : Whole w p 70 cs) (hcs : cs[1]? = some (.slice A n cap)) (hn : 400 ≤ n) :
    Calls Tryd.prog 81 #[.pointer (some ⟨p, 0, none⟩), v] w fun e w' => e = .returned (.tuple #[]) ∧ w' = w := by
  have c0 := (hW.cellAt 1).trans hcs
  clear hW hcs
  go_enter Tryd.func81, Tryd.ntmps81
  go_wp2_with fail
  go_end0
  exact ⟨rfl, rfl⟩
set_option maxRecDepth 100000 in
theorem addPlayers_full (p n cap : Nat) (A : Option Addr) (v : Value) (cs : Array Value) (w : World) (hW : Whole w p 70 cs) (hcs : cs[7]? = some (.slice A n cap)) (hn : 400 ≤ n) :
    Calls Tryd.prog 42 #[.pointer (some ⟨p, 0, none⟩), v] w fun e w' => e = .returned (.tuple #[]) ∧ w' = w := by
  have c0 := (hW.cellAt 7).trans hcs
  clear hW hcs
  go_enter Tryd.func42, Tryd.ntmps42
  go_wp2_with fail
  go_end0
  exact ⟨rfl, rfl⟩
set_option maxRecDepth 100000 in
theorem addCards_full (p n cap : Nat) (A : Option Addr) (v : Value) (cs : Array Value) (w : World) (hW : Whole w p 70 cs) (hcs : cs[8]? = some (.slice A n cap)) (hn : 400 ≤ n) :
    Calls Tryd.prog 43 #[.pointer (some ⟨p, 0, none⟩), v] w fun e w' => e = .returned (.tuple #[]) ∧ w' = w := by
  have c0 := (hW.cellAt 8).trans hcs
  clear hW hcs
  go_enter Tryd.func43, Tryd.ntmps43
  go_wp2_with fail
  go_end0
  exact ⟨rfl, rfl⟩
end Go.Proofs.YthmfbcfbcookiaaDoor
/-
  A bag of lists of integers, players, cards and rows, as it is filled: plain laws of memory. Conditions: none.
-/
namespace Go.Proofs.YthmfbcfbcookiaaDoor
open Go.RowKit
def bag4 (vi vp vc vr : Value) : Array Value := #[.slice none 0 0, vi, .slice none 0 0, .slice none 0 0, .slice none 0 0, .slice none 0 0, .slice none 0 0, vp, vc, .slice none 0 0, .slice none 0 0, .slice none 0 0, vr, .slice none 0 0, .slice none 0 0, .slice none 0 0, .slice none 0 0, .slice none 0 0, .slice none 0 0, .slice none 0 0, .slice none 0 0]
/-- The lists of one kind: all that will come, and those that lie in the bag. -/
structure BagK1 (w : World) (p : Nat) (t lt : TypeId) (s : Nat) (pend rows : List Sl) (A : Option Addr) (c : Nat) : Prop where
  hO : w.ownsRow (p + 1) lt 1 (.slice A rows.length c) rows.length (vals rows)
  hR : SlRows t s pend w
  low : ∀ b, blks pend b → b < p
  pre : rows = pend.take rows.length
  few : rows.length ≤ 400
  h0 : rows = [] → A = none ∧ c = 0
  ln : ∀ (k : Nat) (r : Sl), pend[k]? = some r → r.len ≤ 1000000000
section
variable {S : Nat → Prop} {w w' : World} {p s c c' : Nat} {t lt : TypeId} {pend rows : List Sl} {A A' : Option Addr}
theorem blks_sub {rows pend : List Sl} {n b : Nat} (h : rows = pend.take n) (hb : blks rows b) : blks pend b := by
  obtain ⟨k, r, hr, hb⟩ := hb
  rw [h, List.getElem?_take] at hr
  split at hr
  · exact ⟨k, r, hr, hb⟩
  · cases hr
theorem SlRows.sub {rows pend : List Sl} {n : Nat} (h : SlRows t s pend w) (hp : rows = pend.take n) : SlRows t s rows w := by
  have hg : ∀ {k : Nat} {r : Sl}, rows[k]? = some r → pend[k]? = some r := fun {k r} hr => by
    rw [hp, List.getElem?_take] at hr
    split at hr
    · exact hr
    · cases hr
  exact ⟨fun k r hr => h.own k r (hg hr), fun j k r q b hr hq hb hb' => h.apart j k r q b (hg hr) (hg hq) hb hb'⟩
theorem BagK1.calm (h : BagK1 w p t lt s pend rows A c) (hk : Keeps S w w') (hA : ∀ b, (Value.slice A rows.length c).ownBlock = some b → ¬ S b) (hS : ∀ b, b < p → ¬ S b) : BagK1 w' p t lt s pend rows A c :=
  ⟨own_keepsS h.hO hk hA, h.hR.keeps hk (fun k r b hr hb => hS b (h.low b ⟨k, r, hr, hb⟩)), h.low, h.pre, h.few, h.h0, h.ln⟩
theorem BagK1.add {r : Sl} (h : BagK1 w p t lt s pend rows A c) (hO : w'.ownsRow (p + 1) lt 1 (.slice A' (rows.length + 1) c') (rows.length + 1) (vals rows ++ [r.val])) (hk : Keeps S w w') (hS : ∀ b, b < p → ¬ S b) (hr : pend[rows.length]? = some r) (hlt : rows.length < 400) : BagK1 w' p t lt s pend (rows ++ [r]) A' c' := by
  have hl : (rows ++ [r]).length = rows.length + 1 := by simp
  have hv : vals (rows ++ [r]) = vals rows ++ [r.val] := by simp [vals]
  refine ⟨by rw [hl, hv]; exact hO, h.hR.keeps hk (fun k r b hr hb => hS b (h.low b ⟨k, r, hr, hb⟩)), h.low, ?_, by omega, fun h => by simp at h, h.ln⟩
  rw [hl, List.take_add_one, hr, ← h.pre]
  rfl
theorem BagK1.nil (w : World) (p : Nat) (t lt : TypeId) (s : Nat) (pend : List Sl) (hR : SlRows t s pend w) (low : ∀ b, blks pend b → b < p) (ln : ∀ (k : Nat) (r : Sl), pend[k]? = some r → r.len ≤ 1000000000) : BagK1 w p t lt s pend [] none 0 :=
  ⟨World.ownsRow_nil _ _ _ _, hR, low, rfl, Nat.zero_le _, fun _ => ⟨rfl, rfl⟩, ln⟩
/-- Ahead of its part of Apart: behind a change of blocks below p of other kinds. -/
theorem BagK1.fix {cs : Array Value} {j : Nat} (h : BagK1 w p t lt s pend rows A c) (hW : Whole w p 70 cs) (hj : cs[j]? = some (.slice A rows.length c)) (h1 : rows ≠ []) (hk : Keeps S w w') (hS : ∀ b, S b → b < p) (hd : ∀ b, blks pend b → ¬ S b) :
    ∃ gO, BagFix w' p j gO c rows ∧ SlRows t s rows w' ∧ A = some ⟨gO, 0, none⟩ := by
  obtain ⟨g, cs', rfl, hpg, hG, _⟩ := own_whole h.hO (List.length_pos_iff.2 h1)
  have hp : ¬ S p := fun e => by have := hS p e; omega
  have hg : ¬ S g := fun e => by have := hS g e; omega
  refine ⟨g, ⟨?_, fun n r hr => ?_, ⟨Nat.lt_of_lt_of_le hW.inside hk.size, Nat.lt_of_lt_of_le hG.inside hk.size⟩, fun e => ?_, fun e => ?_⟩, (h.hR.keeps hk (fun k r b hr hb => hd b ⟨k, r, hr, hb⟩)).sub h.pre, rfl⟩
  · rw [hk.cell hW.inside hp, hW.cellAt, hj]
  · have h2 := own_cells h.hO (g := g) rfl (o := n) (by rw [Nat.mul_one]; exact (List.getElem?_eq_some_iff.1 hr).1)
    rw [hk.cell hG.inside hg, h2, vals_get hr]; rfl
  · have := h.low p (blks_sub h.pre e); omega
  · have := h.low g (blks_sub h.pre e); omega
end
/-- The bag. -/
structure Bag4 (w : World) (p : Nat) (pi pp pc pr ri rp rc rr : List Sl) (Ai Ap Ac Ar : Option Addr) (ci cp cc cr : Nat) : Prop where
  hW : Whole w p 70 (bag4 (.slice Ai ri.length ci) (.slice Ap rp.length cp) (.slice Ac rc.length cc) (.slice Ar rr.length cr))
  i : BagK1 w p 3 81 1 pi ri Ai ci
  p' : BagK1 w p 75 22 3 pp rp Ap cp
  c : BagK1 w p 78 23 6 pc rc Ac cc
  r : BagK1 w p 81 24 1 pr rr Ar cr
section
variable {w w' : World} {p : Nat} {pi pp pc pr ri rp rc rr : List Sl} {Ai Ap Ac Ar : Option Addr} {ci cp cc cr : Nat}
theorem Bag4.calm (h : Bag4 w p pi pp pc pr ri rp rc rr Ai Ap Ac Ar ci cp cc cr) (hk : Keeps (fun _ => False) w w') : Bag4 w' p pi pp pc pr ri rp rc rr Ai Ap Ac Ar ci cp cc cr :=
  ⟨h.hW.keeps hk id, h.i.calm hk (fun _ _ h => h) (fun _ _ h => h), h.p'.calm hk (fun _ _ h => h) (fun _ _ h => h), h.c.calm hk (fun _ _ h => h) (fun _ _ h => h), h.r.calm hk (fun _ _ h => h) (fun _ _ h => h)⟩
theorem Bag4.lt (h : Bag4 w p pi pp pc pr ri rp rc rr Ai Ap Ac Ar ci cp cc cr) : p < w.heap.size := h.hW.inside
end
/-- What the bag's own growth turns: blocks from p on, and no box of a state. -/
def BagS (p : Nat) (w : World) (b : Nat) : Prop := p ≤ b ∧ ∀ cs, ¬ Whole w b 27 cs
theorem BagS.and {p : Nat} {w w1 w2 : World} (h : Keeps (BagS p w) w w1) (k : Keeps (BagS p w1) w1 w2) : Keeps (BagS p w) w w2 :=
  h.and k (fun _ _ hb => ⟨hb.1, fun cs hc => hb.2 cs (hc.keeps h (fun e => e.2 cs hc))⟩)
theorem BagS.box {p b : Nat} {w w1 : World} {cs : Array Value} (h : Keeps (BagS p w) w w1) (hc : Whole w b 27 cs) : Whole w1 b 27 cs := hc.keeps h (fun e => e.2 cs hc)
theorem BagS.of {p s n : Nat} {B : Nat} {w w' : World} {e t : TypeId} {v : Value} {xs : List Value} {cs : Array Value} (hk : Keeps (fun b => b = p ∨ v.ownBlock = some b) w w') (hW : Whole w p t cs) (hO : w.ownsRow B e s v n xs) (hB : p ≤ B) (ht : t ≠ 27) (he : 27 ≠ e) : Keeps (BagS p w) w w' :=
  hk.mono (fun k _ hh => by
    rcases hh with hh | hh
    · subst hh
      refine ⟨Nat.le_refl _, fun cs' hc => ?_⟩
      unfold Whole at hW hc
      rw [hW] at hc
      injection hc with hc
      injection hc with _ e1 _
      exact ht e1
    · exact ⟨by have := (hO.lt k hh).1; omega, fun cs' hc => row_kindB hO hc he hh⟩)
/-- One list of integers more, where it is the next one, or where 400 are there. -/
theorem addInts4 {w : World} {p : Nat} {pi pp pc pr ri rp rc rr : List Sl} {Ai Ap Ac Ar : Option Addr} {ci cp cc cr : Nat} (r : Sl) (h : Bag4 w p pi pp pc pr ri rp rc rr Ai Ap Ac Ar ci cp cc cr) (hr : ri.length < 400 → pi[ri.length]? = some r) :
    Calls Tryd.prog 81 #[.pointer (some ⟨p, 0, none⟩), .slice r.at_ r.len r.cap] w fun e w' => e = .returned (.tuple #[]) ∧ ∃ ri' Ai' ci', Bag4 w' p pi pp pc pr ri' rp rc rr Ai' Ap Ac Ar ci' cp cc cr ∧ ri'.length = (if ri.length < 400 then ri.length + 1 else ri.length) ∧ Keeps (BagS p w) w w' := by
  by_cases hlt : ri.length < 400
  · refine (addInts_any p (p + 1) ri.length r.len r.cap ci Ai r.at_ _ (vals ri) w h.hW rfl h.i.hO (Nat.lt_succ_self _) h.lt hlt).mono ?_
    rintro e w' ⟨he, A', c', hW, hO, hk⟩
    have hb : ∀ b, (b = p ∨ (Value.slice Ai ri.length ci).ownBlock = some b) → p ≤ b := fun b hb => by
      rcases hb with hb | hb
      · omega
      · have := (h.i.hO.lt b hb).1; omega
    have hS : ∀ b, b < p → ¬ (b = p ∨ (Value.slice Ai ri.length ci).ownBlock = some b) := fun b hlt' hh => by have := hb b hh; omega
    have hne : ∀ {B s n : Nat} {t : TypeId} {v : Value} {xs : List Value}, w.ownsRow B t s v n xs → t ≠ 81 → p + 1 ≤ B → ∀ b, v.ownBlock = some b → ¬ (b = p ∨ (Value.slice Ai ri.length ci).ownBlock = some b) := fun {B s n t v xs} ho ht hB b hb' hh => by
      rcases hh with hh | hh
      · have := (ho.lt b hb').1; omega
      · exact other_kind ho h.i.hO ht hb' hh
    refine ⟨he, ri ++ [r], A', c', ⟨?_, h.i.add hO hk hS (hr hlt) hlt, h.p'.calm hk (hne h.p'.hO (by decide) (Nat.le_refl _)) hS, h.c.calm hk (hne h.c.hO (by decide) (Nat.le_refl _)) hS, h.r.calm hk (hne h.r.hO (by decide) (Nat.le_refl _)) hS⟩, by rw [if_pos hlt]; simp, BagS.of hk h.hW h.i.hO (Nat.le_succ _) (by decide) (by decide)⟩
    rw [show (ri ++ [r]).length = ri.length + 1 by simp]
    exact hW
  · refine (addInts_full p ri.length ci Ai _ _ w h.hW rfl (by omega)).mono ?_
    rintro e w' ⟨he, rfl⟩
    exact ⟨he, ri, Ai, ci, h, by rw [if_neg hlt], Keeps.refl _ _⟩
theorem addPlayers4 {w : World} {p : Nat} {pi pp pc pr ri rp rc rr : List Sl} {Ai Ap Ac Ar : Option Addr} {ci cp cc cr : Nat} (r : Sl) (h : Bag4 w p pi pp pc pr ri rp rc rr Ai Ap Ac Ar ci cp cc cr) (hr : rp.length < 400 → pp[rp.length]? = some r) :
    Calls Tryd.prog 42 #[.pointer (some ⟨p, 0, none⟩), .slice r.at_ r.len r.cap] w fun e w' => e = .returned (.tuple #[]) ∧ ∃ rp' Ap' cp', Bag4 w' p pi pp pc pr ri rp' rc rr Ai Ap' Ac Ar ci cp' cc cr ∧ rp'.length = (if rp.length < 400 then rp.length + 1 else rp.length) ∧ Keeps (BagS p w) w w' := by
  by_cases hlt : rp.length < 400
  · refine (addPlayers_any p (p + 1) rp.length r.len r.cap cp Ap r.at_ _ (vals rp) w h.hW rfl h.p'.hO (Nat.lt_succ_self _) h.lt hlt).mono ?_
    rintro e w' ⟨he, A', c', hW, hO, hk⟩
    have hb : ∀ b, (b = p ∨ (Value.slice Ap rp.length cp).ownBlock = some b) → p ≤ b := fun b hb => by
      rcases hb with hb | hb
      · omega
      · have := (h.p'.hO.lt b hb).1; omega
    have hS : ∀ b, b < p → ¬ (b = p ∨ (Value.slice Ap rp.length cp).ownBlock = some b) := fun b hlt' hh => by have := hb b hh; omega
    have hne : ∀ {B s n : Nat} {t : TypeId} {v : Value} {xs : List Value}, w.ownsRow B t s v n xs → t ≠ 22 → p + 1 ≤ B → ∀ b, v.ownBlock = some b → ¬ (b = p ∨ (Value.slice Ap rp.length cp).ownBlock = some b) := fun {B s n t v xs} ho ht hB b hb' hh => by
      rcases hh with hh | hh
      · have := (ho.lt b hb').1; omega
      · exact other_kind ho h.p'.hO ht hb' hh
    refine ⟨he, rp ++ [r], A', c', ⟨?_, h.i.calm hk (hne h.i.hO (by decide) (Nat.le_refl _)) hS, h.p'.add hO hk hS (hr hlt) hlt, h.c.calm hk (hne h.c.hO (by decide) (Nat.le_refl _)) hS, h.r.calm hk (hne h.r.hO (by decide) (Nat.le_refl _)) hS⟩, by rw [if_pos hlt]; simp, BagS.of hk h.hW h.p'.hO (Nat.le_succ _) (by decide) (by decide)⟩
    rw [show (rp ++ [r]).length = rp.length + 1 by simp]
    exact hW
  · refine (addPlayers_full p rp.length cp Ap _ _ w h.hW rfl (by omega)).mono ?_
    rintro e w' ⟨he, rfl⟩
    exact ⟨he, rp, Ap, cp, h, by rw [if_neg hlt], Keeps.refl _ _⟩
theorem addCards4 {w : World} {p : Nat} {pi pp pc pr ri rp rc rr : List Sl} {Ai Ap Ac Ar : Option Addr} {ci cp cc cr : Nat} (r : Sl) (h : Bag4 w p pi pp pc pr ri rp rc rr Ai Ap Ac Ar ci cp cc cr) (hr : rc.length < 400 → pc[rc.length]? = some r) :
    Calls Tryd.prog 43 #[.pointer (some ⟨p, 0, none⟩), .slice r.at_ r.len r.cap] w fun e w' => e = .returned (.tuple #[]) ∧ ∃ rc' Ac' cc', Bag4 w' p pi pp pc pr ri rp rc' rr Ai Ap Ac' Ar ci cp cc' cr ∧ rc'.length = (if rc.length < 400 then rc.length + 1 else rc.length) ∧ Keeps (BagS p w) w w' := by
  by_cases hlt : rc.length < 400
  · refine (addCards_any p (p + 1) rc.length r.len r.cap cc Ac r.at_ _ (vals rc) w h.hW rfl h.c.hO (Nat.lt_succ_self _) h.lt hlt).mono ?_
    rintro e w' ⟨he, A', c', hW, hO, hk⟩
    have hb : ∀ b, (b = p ∨ (Value.slice Ac rc.length cc).ownBlock = some b) → p ≤ b := fun b hb => by
      rcases hb with hb | hb
      · omega
      · have := (h.c.hO.lt b hb).1; omega
    have hS : ∀ b, b < p → ¬ (b = p ∨ (Value.slice Ac rc.length cc).ownBlock = some b) := fun b hlt' hh => by have := hb b hh; omega
    have hne : ∀ {B s n : Nat} {t : TypeId} {v : Value} {xs : List Value}, w.ownsRow B t s v n xs → t ≠ 23 → p + 1 ≤ B → ∀ b, v.ownBlock = some b → ¬ (b = p ∨ (Value.slice Ac rc.length cc).ownBlock = some b) := fun {B s n t v xs} ho ht hB b hb' hh => by
      rcases hh with hh | hh
      · have := (ho.lt b hb').1; omega
      · exact other_kind ho h.c.hO ht hb' hh
    refine ⟨he, rc ++ [r], A', c', ⟨?_, h.i.calm hk (hne h.i.hO (by decide) (Nat.le_refl _)) hS, h.p'.calm hk (hne h.p'.hO (by decide) (Nat.le_refl _)) hS, h.c.add hO hk hS (hr hlt) hlt, h.r.calm hk (hne h.r.hO (by decide) (Nat.le_refl _)) hS⟩, by rw [if_pos hlt]; simp, BagS.of hk h.hW h.c.hO (Nat.le_succ _) (by decide) (by decide)⟩
    rw [show (rc ++ [r]).length = rc.length + 1 by simp]
    exact hW
  · refine (addCards_full p rc.length cc Ac _ _ w h.hW rfl (by omega)).mono ?_
    rintro e w' ⟨he, rfl⟩
    exact ⟨he, rc, Ac, cc, h, by rw [if_neg hlt], Keeps.refl _ _⟩
end Go.Proofs.YthmfbcfbcookiaaDoor
/-
  A bag of four kinds: rows, a state more; Apart: the walks. Conditions: lengths within 10 ^ 9, fewer than 400 rows.
-/
namespace Go.Proofs.YthmfbcfbcookiaaDoor
open Go.RowKit
section
set_option maxRecDepth 100000 in
set_option maxHeartbeats 4000000 in
theorem addRows4 {w : World} {p : Nat} {pi pp pc pr ri rp rc rr : List Sl} {Ai Ap Ac Ar : Option Addr} {ci cp cc cr : Nat} (r : Sl) (zs : List Sl) (h : Bag4 w p pi pp pc pr ri rp rc rr Ai Ap Ac Ar ci cp cc cr) (hlt : rr.length < 400) (hr : pr[rr.length]? = some r) (hz : zs.length = r.len) (hlies : Lies w p r.at_ (vals zs))
    (hpi : ∀ i q, zs[i]? = some q → ri.length + i < 400 → pi[ri.length + i]? = some q) :
    Calls Tryd.prog 44 #[.pointer (some ⟨p, 0, none⟩), .slice r.at_ r.len r.cap] w fun e w' => e = .returned (.tuple #[]) ∧ ∃ ri' Ai' ci' rr' Ar' cr', Bag4 w' p pi pp pc pr ri' rp rc rr' Ai' Ap Ac Ar' ci' cp cc cr' ∧ rr'.length = rr.length + 1 ∧ ri'.length = min 400 (ri.length + zs.length) ∧ Keeps (BagS p w) w w' := by
  have H := Lib.hid h
  have HLI := Lib.hid hlies
  have HPI := Lib.hid hpi
  have HRR := Lib.hid hr
  have c0 : w.cell? ⟨p, 12, none⟩ = some (.slice Ar rr.length cr) := h.hW.cellAt 12
  have hin := h.lt
  have hpO := h.r.hO
  have HO := Lib.hid hpO
  have HW := Lib.hid h.hW
  obtain ⟨rA, rl, rcap⟩ := r
  simp only at hz
  clear h hlies hpi hr hpO
  go_enter Tryd.func44, Tryd.ntmps44
  go_wp2_with (at_builtin; (refine wpList_append_cells _ rfl (.tmp 15) (.tmp 17) 60 rfl (p + 1) 24 (.slice none 0 0) 1 24 Tryd.underlying60 info_rwsB rfl (by decide) _ rr.length _ rfl (HO.out.alloc _) (w.heap.size + 1) (some ⟨w.heap.size, 0, none⟩) 1 1 [.slice rA rl rcap] rfl (Lies.row (t := 24) (fr := (0, 0)) (heap_alloc_new w _) (by simp)) rfl (by simp [Value.oneCell']) (by unfold maxLen; omega) (by omega) (by simp; omega) ?_); intro A' cap' w1 h1 h2 _ _ _; obtain ⟨hA, hB, hC, hD, x, hE⟩ := bag_next (j := 12) HW.out HO.out (Nat.lt_succ_self _) (by simp [bag4]) h1 h2; have HA := Lib.hid hA; have HB := Lib.hid hB; have HC := Lib.hid hC; clear hA hB hC h1 h2 c0)
  obtain ⟨w2, hw2⟩ : ∃ z, z = w1.setCell ⟨p, 12, none⟩ (.slice A' (rr.length + 1) cap') := ⟨_, rfl⟩
  rw [← hw2] at HA HB HC ⊢
  have hb : ∀ b, (b = p ∨ (Value.slice Ar rr.length cr).ownBlock = some b) → p ≤ b := fun b hb => by
    rcases hb with hb | hb
    · omega
    · have := (HO.out.lt b hb).1; omega
  have hS : ∀ b, b < p → ¬ (b = p ∨ (Value.slice Ar rr.length cr).ownBlock = some b) := fun b hlt' hh => by have := hb b hh; omega
  have hne : ∀ {B s n : Nat} {t : TypeId} {v : Value} {xs : List Value}, w.ownsRow B t s v n xs → t ≠ 24 → p + 1 ≤ B → ∀ b, v.ownBlock = some b → ¬ (b = p ∨ (Value.slice Ar rr.length cr).ownBlock = some b) := fun {B s n t v xs} ho ht hB b hb' hh => by
    rcases hh with hh | hh
    · have := (ho.lt b hb').1; omega
    · exact other_kind ho HO.out ht hb' hh
  have HB4 : Hid (Bag4 w2 p pi pp pc pr ri rp rc (rr ++ [⟨rA, rl, rcap⟩]) Ai Ap Ac A' ci cp cc cap') := Lib.hid ⟨by rw [show (rr ++ [(⟨rA, rl, rcap⟩ : Sl)]).length = rr.length + 1 by simp]; exact HA.out, H.out.i.calm HC.out (hne H.out.i.hO (by decide) (Nat.le_refl _)) hS, H.out.p'.calm HC.out (hne H.out.p'.hO (by decide) (Nat.le_refl _)) hS, H.out.c.calm HC.out (hne H.out.c.hO (by decide) (Nat.le_refl _)) hS, H.out.r.add (r := ⟨rA, rl, rcap⟩) HB.out HC.out hS HRR.out hlt⟩
  have HK2 : Hid (Keeps (BagS p w) w w2) := Lib.hid (BagS.of HC.out HW.out HO.out (Nat.le_succ _) (by decide) (by decide))
  have hri := H.out.i.few
  clear hb hS hne HA HB HC hw2 HO HW H
  have hrr2 : (rr ++ [(⟨rA, rl, rcap⟩ : Sl)]).length = rr.length + 1 := by simp
  generalize rr ++ [(⟨rA, rl, rcap⟩ : Sl)] = rr2 at *
  go_loopw [4] (fun v wr => ∃ (i : Nat) (ri' : List Sl) (Ai' : Option Addr) (ci' : Nat), i ≤ rl ∧ i ≤ 400 ∧ v = .int .i64 i ∧ ri'.length = min 400 (ri.length + i) ∧ Hid (Bag4 wr p pi pp pc pr ri' rp rc rr2 Ai' Ap Ac A' ci' cp cc cap') ∧ Hid (Keeps (BagS p w) w wr)) (fun v _ => 400 - (intOf v).toNat)
  case atStart => exact ⟨0, ri, Ai, ci, by omega, by omega, rfl, by omega, HB4, HK2⟩
  case round =>
    clear HB4 HK2
    obtain ⟨i, ri', Ai', ci', hi, hi4, rfl, hri', HB, HK⟩ := hrel
    by_cases h4 : i < 400
    · have h4I : (i : Int) < 400 := by omega
      have d4 : decide ((i : Int) < 400) = true := decide_eq_true h4I
      by_cases hil : i < rl
      · obtain ⟨q, hq⟩ : ∃ q, zs[i]? = some q := ⟨_, List.getElem?_eq_getElem (by omega)⟩
        obtain ⟨g, off, rfl, hg, hc⟩ := HLI.out i _ (vals_get hq)
        have hc1 : wr.cell? ⟨g, off + i, none⟩ = some (.slice q.at_ q.len q.cap) := (HK.out.cell (by omega) (fun e => by have := e.1; omega)).trans hc
        have HAD := Lib.hid (addInts4 q HB.out (fun hl => by
          have := HPI.out i q hq (by omega)
          rw [show ri'.length = ri.length + i by omega]
          exact this))
        clear hc hq
        go_wp2_with fail
        refine HAD.out.mono ?_
        rintro e w3 ⟨rfl, ri2, Ai2, ci2, hb4, hl2, k3⟩
        have HB2 := Lib.hid hb4
        have HK2 : Hid (Keeps (BagS p w) w w3) := Lib.hid (BagS.and HK.out k3)
        have hri2 : ri2.length = min 400 (ri.length + (i + 1)) := by rw [hl2]; split <;> omega
        clear hb4 k3 HB HK
        go_wp2_with fail
        go_roundw
        case rel => exact ⟨i + 1, ri2, Ai2, ci2, by omega, by omega, by go_num, hri2, HB2, HK2⟩
        case measure => (simp [intOf] <;> omega)
      · obtain rfl : i = rl := by omega
        go_wp2_with fail
        go_end0
        first | exact ⟨rfl, ri', Ai', ci', rr2, A', cap', HB.out, hrr2, by omega, HK.out⟩ | exact ⟨rfl, ri', Ai', ci', rr2, ⟨A', cap', HB.out⟩, hrr2, by omega, HK.out⟩
    · have h4I : ¬ ((i : Int) < 400) := by omega
      have d4 : decide ((i : Int) < 400) = false := decide_eq_false h4I
      by_cases hil : i < rl
      · go_wp2_with fail
        go_end0
        first | exact ⟨rfl, ri', Ai', ci', rr2, A', cap', HB.out, hrr2, by omega, HK.out⟩ | exact ⟨rfl, ri', Ai', ci', rr2, ⟨A', cap', HB.out⟩, hrr2, by omega, HK.out⟩
      · obtain rfl : i = rl := by omega
        go_wp2_with fail
        go_end0
        first | exact ⟨rfl, ri', Ai', ci', rr2, A', cap', HB.out, hrr2, by omega, HK.out⟩ | exact ⟨rfl, ri', Ai', ci', rr2, ⟨A', cap', HB.out⟩, hrr2, by omega, HK.out⟩
end
/-- A state's lists, and its value. -/
structure Lists where
  ps : Sl
  cs : Sl
  zs : Sl
  rows : List Sl
def Lists.val (x : Lists) (t o f n : Value) : Value := .agg #[x.ps.val, x.cs.val, x.zs.val, t, o, f, n]
set_option maxRecDepth 100000 in
set_option maxHeartbeats 4000000 in
theorem addState4 {w : World} {p : Nat} {pi pp pc pr ri rp rc rr : List Sl} {Ai Ap Ac Ar : Option Addr} {ci cp cc cr : Nat} (x : Lists) (t o f n : Int) (h : Bag4 w p pi pp pc pr ri rp rc rr Ai Ap Ac Ar ci cp cc cr) (h1 : rp.length < 400) (h2 : rc.length < 400) (h3 : rr.length < 400)
    (g1 : pp[rp.length]? = some x.ps) (g2 : pc[rc.length]? = some x.cs) (g3 : pr[rr.length]? = some x.zs) (hz : x.rows.length = x.zs.len) (hlies : Lies w p x.zs.at_ (vals x.rows))
    (hpi : ∀ i q, x.rows[i]? = some q → ri.length + i < 400 → pi[ri.length + i]? = some q) :
    Calls Tryd.prog 21 #[.pointer (some ⟨p, 0, none⟩), .agg #[.slice x.ps.at_ x.ps.len x.ps.cap, .slice x.cs.at_ x.cs.len x.cs.cap, .slice x.zs.at_ x.zs.len x.zs.cap, .int .i32 t, .int .i64 o, .int .i8 f, .int .i64 n]] w fun e w' => e = .returned (.tuple #[]) ∧ ∃ ri' rp' rc' rr' Ai' Ap' Ac' Ar' ci' cp' cc' cr', Bag4 w' p pi pp pc pr ri' rp' rc' rr' Ai' Ap' Ac' Ar' ci' cp' cc' cr' ∧ rp'.length = rp.length + 1 ∧ rc'.length = rc.length + 1 ∧ rr'.length = rr.length + 1 ∧ ri'.length = min 400 (ri.length + x.rows.length) ∧ Keeps (BagS p w) w w' := by
  obtain ⟨w0, hw0⟩ : ∃ z, z = w.alloc (.cells #[.slice x.ps.at_ x.ps.len x.ps.cap, .slice x.cs.at_ x.cs.len x.cs.cap, .slice x.zs.at_ x.zs.len x.zs.cap, .int .i32 t, .int .i64 o, .int .i8 f, .int .i64 n] 27) := ⟨_, rfl⟩
  have K0 : Hid (Keeps (fun _ => False) w w0) := Lib.hid (by rw [hw0]; exact (Keeps.refl _ _).alloc _)
  have WB : Hid (Whole w0 w.heap.size 27 #[.slice x.ps.at_ x.ps.len x.ps.cap, .slice x.cs.at_ x.cs.len x.cs.cap, .slice x.zs.at_ x.zs.len x.zs.cap, .int .i32 t, .int .i64 o, .int .i8 f, .int .i64 n]) := Lib.hid (by rw [hw0]; exact Whole.made _ _ _)
  have H := Lib.hid (h.calm K0.out)
  have HLI := Lib.hid hlies
  have HPI := Lib.hid hpi
  have hpw := h.lt
  have G1 := Lib.hid g1; have G2 := Lib.hid g2; have G3 := Lib.hid g3
  clear h hlies hpi g1 g2 g3
  go_enter Tryd.func21, Tryd.ntmps21
  go_wp2_with fail
  rw [← hw0]
  clear hw0
  refine (addPlayers4 x.ps H.out (fun _ => G1.out)).mono ?_
  rintro e w1 ⟨rfl, rp', Ap', cp', hb1, hl1, k1⟩
  have H1 := Lib.hid hb1
  have hl1' : rp'.length = rp.length + 1 := by rw [hl1, if_pos h1]
  have K1 := Lib.hid k1
  have WB1 := Lib.hid (BagS.box k1 WB.out)
  have b1 : w1.cell? ⟨w.heap.size, 1, none⟩ = some (.slice x.cs.at_ x.cs.len x.cs.cap) := WB1.out.cellAt 1
  clear hb1 k1 hl1 H
  go_wp2_with fail
  refine (addCards4 x.cs H1.out (fun _ => G2.out)).mono ?_
  rintro e w2 ⟨rfl, rc', Ac', cc', hb2, hl2, k2⟩
  have H2 := Lib.hid hb2
  have hl2' : rc'.length = rc.length + 1 := by rw [hl2, if_pos h2]
  have K2 : Hid (Keeps (BagS p w0) w0 w2) := Lib.hid (BagS.and K1.out k2)
  have WB2 := Lib.hid (BagS.box k2 WB1.out)
  have b2 : w2.cell? ⟨w.heap.size, 2, none⟩ = some (.slice x.zs.at_ x.zs.len x.zs.cap) := WB2.out.cellAt 2
  have hpw0 : p < w0.heap.size := Nat.lt_of_lt_of_le hpw K0.out.size
  have HL2 : Hid (Lies w2 p x.zs.at_ (vals x.rows)) := Lib.hid (HLI.out.keep (fun b o hb => by rw [K2.out.cell (by omega) (fun e => by have := e.1; omega), K0.out.cell (by omega) id]))
  clear hb2 k2 hl2 H1 b1
  go_wp2_with fail
  refine (addRows4 x.zs x.rows H2.out h3 G3.out hz HL2.out HPI.out).mono ?_
  rintro e w3 ⟨rfl, ri', Ai', ci', rr', Ar', cr', hb3, hl3, hl4, k3⟩
  have H3 := Lib.hid hb3
  have K3 : Hid (Keeps (BagS p w) w w3) := Lib.hid (by
    have h4 := BagS.and K2.out k3
    exact (K0.out.mono (T := BagS p w) (fun _ _ h => h.elim)).and h4 (fun b hb hh => ⟨hh.1, fun cs hc => hh.2 cs (hc.keeps K0.out id)⟩))
  clear hb3 k3
  go_wp2_with fail
  go_end0
  exact ⟨rfl, ri', rp', rc', rr', Ai', Ap', Ac', Ar', ci', cp', cc', cr', H3.out, hl1', hl2', hl3, hl4, K3.out⟩
end Go.Proofs.YthmfbcfbcookiaaDoor
/-
  A bag of four kinds: Apart is true: the walk. Conditions: no two of its lists lie in one block.
-/
namespace Go.Proofs.YthmfbcfbcookiaaDoor
open Go.RowKit
theorem kinds_apart {t t' : TypeId} {s s' : Nat} {rows rows' : List Sl} {w : World} (h : SlRows t s rows w) (h' : SlRows t' s' rows' w) (hne : t ≠ t') (b : Nat) (hb : blks rows b) : ¬ blks rows' b := fun hb' => by
  obtain ⟨k, r, hr, hrb⟩ := hb
  obtain ⟨k', r', hr', hrb'⟩ := hb'
  obtain ⟨xs, hx⟩ := h.own k r hr
  obtain ⟨ys, hy⟩ := h'.own k' r' hr'
  exact other_kind hx hy hne hrb hrb'
section
variable {w : World} {p : Nat} {pi pp pc pr ri rp rc rr : List Sl} {Ai Ap Ac Ar : Option Addr} {ci cp cc cr : Nat} {S : Nat → Prop}
theorem BagK1.ln' {t lt : TypeId} {s c : Nat} {pend rows : List Sl} {A : Option Addr} (h : BagK1 w p t lt s pend rows A c) (k : Nat) (r : Sl) (hr : rows[k]? = some r) : r.len ≤ 1000000000 := by
  rw [h.pre, List.getElem?_take] at hr
  split at hr
  · exact h.ln k r hr
  · cases hr
theorem Bag4.okInts (h : Bag4 w p pi pp pc pr ri rp rc rr Ai Ap Ac Ar ci cp cc cr) (hS : ∀ b, S b → b < p) (hd : ∀ b, blks pi b → ¬ S b) : BagOk (fun w1 => Keeps S w w1) (fun w1 => Keeps (fun b => S b ∨ blks ri b) w w1) p 46 := fun w1 hk => by
  by_cases h1 : ri = []
  · obtain ⟨hA, hc⟩ := h.i.h0 h1
    refine (apartInts_none p w1 ?_).mono fun e w' hh => ⟨hh.1, by rw [← hh.2]; exact hk.mono (fun _ _ hs => .inl hs)⟩
    have h2 : w.cell? ⟨p, 1, none⟩ = some (.slice Ai ri.length ci) := h.hW.cellAt 1
    rw [hk.cell h.lt (fun e => by have := hS p e; omega), h2, hA, hc, h1]
    rfl
  · obtain ⟨gO, hF, hR, hA⟩ := h.i.fix h.hW (j := 1) rfl h1 hk hS hd
    exact (apartInts_any p gO ci ri w1 hF hR h.i.few (fun k r hr => by have := h.i.ln' k r hr; omega)).mono fun e w' hh => ⟨hh.1, (hk.mono (fun _ _ hs => .inl hs)).trans (hh.2.mono (fun _ _ hs => .inr hs))⟩
theorem Bag4.okPlayers (h : Bag4 w p pi pp pc pr ri rp rc rr Ai Ap Ac Ar ci cp cc cr) (hS : ∀ b, S b → b < p) (hd : ∀ b, blks pp b → ¬ S b) : BagOk (fun w1 => Keeps S w w1) (fun w1 => Keeps (fun b => S b ∨ blks rp b) w w1) p 52 := fun w1 hk => by
  by_cases h1 : rp = []
  · obtain ⟨hA, hc⟩ := h.p'.h0 h1
    refine (apartPlayers_none p w1 ?_).mono fun e w' hh => ⟨hh.1, by rw [← hh.2]; exact hk.mono (fun _ _ hs => .inl hs)⟩
    have h2 : w.cell? ⟨p, 7, none⟩ = some (.slice Ap rp.length cp) := h.hW.cellAt 7
    rw [hk.cell h.lt (fun e => by have := hS p e; omega), h2, hA, hc, h1]
    rfl
  · obtain ⟨gO, hF, hR, hA⟩ := h.p'.fix h.hW (j := 7) rfl h1 hk hS hd
    exact (apartPlayers_any p gO cp rp w1 hF hR h.p'.few h.p'.ln').mono fun e w' hh => ⟨hh.1, (hk.mono (fun _ _ hs => .inl hs)).trans (hh.2.mono (fun _ _ hs => .inr hs))⟩
theorem Bag4.okCards (h : Bag4 w p pi pp pc pr ri rp rc rr Ai Ap Ac Ar ci cp cc cr) (hS : ∀ b, S b → b < p) (hd : ∀ b, blks pc b → ¬ S b) : BagOk (fun w1 => Keeps S w w1) (fun w1 => Keeps (fun b => S b ∨ blks rc b) w w1) p 53 := fun w1 hk => by
  by_cases h1 : rc = []
  · obtain ⟨hA, hc⟩ := h.c.h0 h1
    refine (apartCards_none p w1 ?_).mono fun e w' hh => ⟨hh.1, by rw [← hh.2]; exact hk.mono (fun _ _ hs => .inl hs)⟩
    have h2 : w.cell? ⟨p, 8, none⟩ = some (.slice Ac rc.length cc) := h.hW.cellAt 8
    rw [hk.cell h.lt (fun e => by have := hS p e; omega), h2, hA, hc, h1]
    rfl
  · obtain ⟨gO, hF, hR, hA⟩ := h.c.fix h.hW (j := 8) rfl h1 hk hS hd
    exact (apartCards_any p gO cc rc w1 hF hR h.c.few h.c.ln').mono fun e w' hh => ⟨hh.1, (hk.mono (fun _ _ hs => .inl hs)).trans (hh.2.mono (fun _ _ hs => .inr hs))⟩
theorem Bag4.okRows (h : Bag4 w p pi pp pc pr ri rp rc rr Ai Ap Ac Ar ci cp cc cr) (hS : ∀ b, S b → b < p) (hd : ∀ b, blks pr b → ¬ S b) : BagOk (fun w1 => Keeps S w w1) (fun w1 => Keeps (fun b => S b ∨ blks rr b) w w1) p 57 := fun w1 hk => by
  by_cases h1 : rr = []
  · obtain ⟨hA, hc⟩ := h.r.h0 h1
    refine (apartRows_none p w1 ?_).mono fun e w' hh => ⟨hh.1, by rw [← hh.2]; exact hk.mono (fun _ _ hs => .inl hs)⟩
    have h2 : w.cell? ⟨p, 12, none⟩ = some (.slice Ar rr.length cr) := h.hW.cellAt 12
    rw [hk.cell h.lt (fun e => by have := hS p e; omega), h2, hA, hc, h1]
    rfl
  · obtain ⟨gO, hF, hR, hA⟩ := h.r.fix h.hW (j := 12) rfl h1 hk hS hd
    exact (apartRows_any p gO cr rr w1 hF hR h.r.few (fun k r hr => by have := h.r.ln' k r hr; omega)).mono fun e w' hh => ⟨hh.1, (hk.mono (fun _ _ hs => .inl hs)).trans (hh.2.mono (fun _ _ hs => .inr hs))⟩
/-- The blocks that Apart writes over. -/
def aparts (ri rp rc rr : List Sl) (b : Nat) : Prop := (((False ∨ blks ri b) ∨ blks rp b) ∨ blks rc b) ∨ blks rr b
theorem apart4 (h : Bag4 w p pi pp pc pr ri rp rc rr Ai Ap Ac Ar ci cp cc cr) :
    Calls Tryd.prog 22 #[.pointer (some ⟨p, 0, none⟩)] w fun e w' => e = .returned (.bool true) ∧ Keeps (aparts ri rp rc rr) w w' := by
  have si : SlRows 3 1 ri w := h.i.hR.sub h.i.pre
  have sp : SlRows 75 3 rp w := h.p'.hR.sub h.p'.pre
  have sc : SlRows 78 6 rc w := h.c.hR.sub h.c.pre
  have bi : ∀ b, blks ri b → b < p := fun b hb => h.i.low b (blks_sub h.i.pre hb)
  have bp : ∀ b, blks rp b → b < p := fun b hb => h.p'.low b (blks_sub h.p'.pre hb)
  have bc : ∀ b, blks rc b → b < p := fun b hb => h.c.low b (blks_sub h.c.pre hb)
  have br : ∀ b, blks rr b → b < p := fun b hb => h.r.low b (blks_sub h.r.pre hb)
  have hn : ∀ {S : Nat → Prop} (j : Nat), (bag4 (.slice Ai ri.length ci) (.slice Ap rp.length cp) (.slice Ac rc.length cc) (.slice Ar rr.length cr))[j]? = some (.slice none 0 0) → (∀ b, S b → b < p) → BagNil (fun w1 => Keeps S w w1) p j := fun {S} j hj hS w1 hk => by
    rw [hk.cell h.lt (fun e => by have := hS p e; omega), h.hW.cellAt, hj]
  have s0 : ∀ b, (fun _ : Nat => False) b → b < p := fun _ h => h.elim
  have s1 : ∀ b, (fun b => False ∨ blks ri b) b → b < p := fun b hb => hb.elim (fun h => h.elim) (bi b)
  have s2 : ∀ b, (fun b => (False ∨ blks ri b) ∨ blks rp b) b → b < p := fun b hb => hb.elim (s1 b) (bp b)
  have s3 : ∀ b, (fun b => ((False ∨ blks ri b) ∨ blks rp b) ∨ blks rc b) b → b < p := fun b hb => hb.elim (s2 b) (bc b)
  have s4 : ∀ b, aparts ri rp rc rr b → b < p := fun b hb => hb.elim (s3 b) (br b)
  refine apart_any (fun j w1 => match j with
    | 0 => Keeps (fun _ => False) w w1 | 1 => Keeps (fun _ => False) w w1
    | 2 => Keeps (fun b => False ∨ blks ri b) w w1 | 3 => Keeps (fun b => False ∨ blks ri b) w w1 | 4 => Keeps (fun b => False ∨ blks ri b) w w1 | 5 => Keeps (fun b => False ∨ blks ri b) w w1 | 6 => Keeps (fun b => False ∨ blks ri b) w w1 | 7 => Keeps (fun b => False ∨ blks ri b) w w1
    | 8 => Keeps (fun b => (False ∨ blks ri b) ∨ blks rp b) w w1
    | 9 => Keeps (fun b => ((False ∨ blks ri b) ∨ blks rp b) ∨ blks rc b) w w1 | 10 => Keeps (fun b => ((False ∨ blks ri b) ∨ blks rp b) ∨ blks rc b) w w1 | 11 => Keeps (fun b => ((False ∨ blks ri b) ∨ blks rp b) ∨ blks rc b) w w1 | 12 => Keeps (fun b => ((False ∨ blks ri b) ∨ blks rp b) ∨ blks rc b) w w1
    | _ => Keeps (aparts ri rp rc rr) w w1) p w (Keeps.refl _ _)
    (okBytes_none (hn 0 rfl s0)) (h.okInts s0 (fun _ _ h => h)) (okLongs_none (hn 2 rfl s1)) (okWords_none (hn 3 rfl s1)) (okFloats_none (hn 4 rfl s1)) (okSmalls_none (hn 5 rfl s1)) (okTexts_none (hn 6 rfl s1))
    (h.okPlayers s1 (fun b hb hh => hh.elim (fun h => h) (kinds_apart h.p'.hR si (by decide) b hb)))
    (h.okCards s2 (fun b hb hh => hh.elim (fun hh => hh.elim (fun h => h) (kinds_apart h.c.hR si (by decide) b hb)) (kinds_apart h.c.hR sp (by decide) b hb)))
    (okTokens_none (hn 9 rfl s3)) (okNodes_none (hn 10 rfl s3)) (okInstrs_none (hn 11 rfl s3))
    (h.okRows s3 (fun b hb hh => hh.elim (fun hh => hh.elim (fun hh => hh.elim (fun h => h) (kinds_apart h.r.hR si (by decide) b hb)) (kinds_apart h.r.hR sp (by decide) b hb)) (kinds_apart h.r.hR sc (by decide) b hb)))
    (okShapes_none (hn 13 rfl s4)) (okEvents_none (hn 14 rfl s4)) (okValues_none (hn 15 rfl s4)) (okAbilities_none (hn 16 rfl s4)) (okDesigns_none (hn 17 rfl s4)) (okEffects_none (hn 18 rfl s4)) (okKinds_none (hn 19 rfl s4)) (okStates_none (hn 20 rfl s4))
end
end Go.Proofs.YthmfbcfbcookiaaDoor
