/-
  The bag: one list of integers more. Conditions: fewer than 400 are there.
-/
import Derived.Test.YthmfbcfbcookiaaDoorBagI
import Derived.Test.YthmfbcfbcookiaaDoorBagB
namespace Go.Proofs.YthmfbcfbcookiaaDoor
open Go.RowKit
theorem own_putB {w : World} {base : Nat} {e : TypeId} {v : Value} {n : Nat} {xs : List Value} {p j : Nat} (h : w.ownsRow base e 1 v n xs) (hp : p < base) (u : Value) : (w.setCell ⟨p, j, none⟩ u).ownsRow base e 1 v n xs := ownsRow_setCell_below h (show (⟨p, j, none⟩ : Addr).block < base from hp) u
/-- What an append leaves in a field behind a pointer. -/
theorem bag_next {p base n cap' : Nat} {e t : TypeId} {A' : Option Addr} {v u : Value} {w w1 : World} {o : Obj} {cs : Array Value} {xs : List Value} {j : Nat} (hW : Whole w p t cs) (hO : w.ownsRow base e 1 v n xs) (hp : p < base) (hj : j < cs.size)
    (h1 : w1.ownsRow base e 1 (.slice A' (n + 1) cap') (n + 1) (xs ++ [u])) (h2 : (w.alloc o).grownBy w1 v.ownBlock) :
    Whole (w1.setCell ⟨p, j, none⟩ (.slice A' (n + 1) cap')) p t (cs.setIfInBounds j (.slice A' (n + 1) cap')) ∧ (w1.setCell ⟨p, j, none⟩ (.slice A' (n + 1) cap')).ownsRow base e 1 (.slice A' (n + 1) cap') (n + 1) (xs ++ [u]) ∧
    Keeps (fun b => b = p ∨ v.ownBlock = some b) w (w1.setCell ⟨p, j, none⟩ (.slice A' (n + 1) cap')) ∧ w1.frozen? ⟨p, j, none⟩ = false ∧ ∃ x, w1.cell? ⟨p, j, none⟩ = some x := by
  have hlt : ∀ b, v.ownBlock = some b → base ≤ b := fun b hb => (hO.lt b hb).1
  have hK1 : Keeps (fun b => v.ownBlock = some b) w w1 := ((Keeps.refl _ w).alloc _).grown h2 (fun b hb _ => hb)
  have hW1 : Whole w1 p t cs := hW.keeps hK1 (fun h => by have := hlt p h; omega)
  exact ⟨hW1.put j _, own_putB h1 hp _, (hK1.mono (T := fun b => b = p ∨ v.ownBlock = some b) (fun b _ h => Or.inr h)).setCell (p := ⟨p, j, none⟩) (fun _ => Or.inl rfl) _, hW1.free j, _, (hW1.cellAt j).trans (Array.getElem?_eq_getElem hj)⟩
set_option maxRecDepth 100000 in
set_option maxHeartbeats 1000000 in
theorem addInts_any (p base n ln lc cap : Nat) (A LA : Option Addr) (cs : Array Value) (xs : List Value) (w : World) (hW : Whole w p 70 cs) (hcs : cs[1]? = some (.slice A n cap)) (hO : w.ownsRow base 81 1 (.slice A n cap) n xs) (hp : p < base) (hb : base ≤ w.heap.size) (hn : n < 400) :
    Calls Tryd.prog 81 #[.pointer (some ⟨p, 0, none⟩), .slice LA ln lc] w fun e w' => e = .returned (.tuple #[]) ∧ ∃ A' cap', Whole w' p 70 (cs.setIfInBounds 1 (.slice A' (n + 1) cap')) ∧
      w'.ownsRow base 81 1 (.slice A' (n + 1) cap') (n + 1) (xs ++ [.slice LA ln lc]) ∧ Keeps (fun b => b = p ∨ (Value.slice A n cap).ownBlock = some b) w w' := by
  have c0 := (hW.cellAt 1).trans hcs
  have hj : 1 < cs.size := (Array.getElem?_eq_some_iff.1 hcs).1
  have HW := Lib.hid hW; have HO := Lib.hid hO
  have hin := hW.inside
  clear hW hcs hO
  go_enter Tryd.func81, Tryd.ntmps81
  go_wp2_with (at_builtin; (refine wpList_append_cells _ rfl (.tmp 14) (.tmp 16) 24 rfl base 81 (.slice none 0 0) 1 24 Tryd.underlying24 info_intsB rfl (by decide) _ n _ rfl (HO.out.alloc _) (w.heap.size + 1) (some ⟨w.heap.size, 0, none⟩) 1 1 [.slice LA ln lc] rfl (Lies.row (t := 81) (fr := (0, 0)) (heap_alloc_new w _) (by simp)) rfl (by simp [Value.oneCell']) (by unfold maxLen; omega) (by omega) (by simp; omega) ?_); intro A' cap' w1 h1 h2 _ _ _; obtain ⟨hA, hB, hC, hD, x, hE⟩ := bag_next HW.out HO.out hp hj h1 h2; have HA := Lib.hid hA; have HB := Lib.hid hB; have HC := Lib.hid hC; clear hA hB hC h1 h2 c0)
  go_end0
  exact ⟨rfl, A', cap', HA.out, HB.out, HC.out⟩
/-- The cells of a bag in which nothing lies. -/
def bagNone : Array Value := #[.slice none 0 0, .slice none 0 0, .slice none 0 0, .slice none 0 0, .slice none 0 0, .slice none 0 0, .slice none 0 0, .slice none 0 0, .slice none 0 0, .slice none 0 0, .slice none 0 0, .slice none 0 0, .slice none 0 0, .slice none 0 0, .slice none 0 0, .slice none 0 0, .slice none 0 0, .slice none 0 0, .slice none 0 0, .slice none 0 0, .slice none 0 0]
theorem bagNone_at (j : Nat) (h : j < 21) : bagNone[j]? = some (.slice none 0 0) := by
  have : bagNone = Array.replicate 21 (.slice none 0 0) := rfl
  rw [this, Array.getElem?_replicate, if_pos h]
/-- A bag of lists of integers alone: the walk of Apart. -/
theorem apartInts_all (p gO capO : Nat) (rows : List Sl) (v : Value) (w : World) (hW : Whole w p 70 (bagNone.setIfInBounds 1 v)) (hF : BagFix w p 1 gO capO rows) (hR : SlRows 3 1 rows w) (hn : rows.length ≤ 400) (hl : ∀ (k : Nat) (r : Sl), rows[k]? = some r → r.len ≤ 1000000000000) :
    Calls Tryd.prog 22 #[.pointer (some ⟨p, 0, none⟩)] w fun e w' => e = .returned (.bool true) ∧ Keeps (blks rows) w w' := by
  have hc : ∀ j, j < 21 → j ≠ 1 → w.cell? ⟨p, j, none⟩ = some (.slice none 0 0) := fun j hj h1 => by
    rw [hW.cellAt, Array.getElem?_setIfInBounds, if_neg (fun e => h1 e.symm), bagNone_at j hj]
  have hk : ∀ j, j < 21 → j ≠ 1 → BagNil (fun w1 => Keeps (blks rows) w w1) p j := fun j hj h1 w1 h => (h.cell hF.lt.1 hF.far.1).trans (hc j hj h1)
  refine apart_any (fun j w1 => match j with | 0 => w1 = w | 1 => w1 = w | _ => Keeps (blks rows) w w1) p w rfl
    (okBytes_none fun w1 h => by subst h; exact hc 0 (by decide) (by decide))
    (fun w1 h => by subst h; exact apartInts_any p gO capO rows w1 hF hR hn hl)
    (okLongs_none (hk 2 (by decide) (by decide))) (okWords_none (hk 3 (by decide) (by decide))) (okFloats_none (hk 4 (by decide) (by decide))) (okSmalls_none (hk 5 (by decide) (by decide))) (okTexts_none (hk 6 (by decide) (by decide)))
    (okPlayers_none (hk 7 (by decide) (by decide))) (okCards_none (hk 8 (by decide) (by decide))) (okTokens_none (hk 9 (by decide) (by decide))) (okNodes_none (hk 10 (by decide) (by decide))) (okInstrs_none (hk 11 (by decide) (by decide)))
    (okRows_none (hk 12 (by decide) (by decide))) (okShapes_none (hk 13 (by decide) (by decide))) (okEvents_none (hk 14 (by decide) (by decide))) (okValues_none (hk 15 (by decide) (by decide))) (okAbilities_none (hk 16 (by decide) (by decide)))
    (okDesigns_none (hk 17 (by decide) (by decide))) (okEffects_none (hk 18 (by decide) (by decide))) (okKinds_none (hk 19 (by decide) (by decide))) (okStates_none (hk 20 (by decide) (by decide)))
/-- A bag of lists of integers alone, as it is filled. -/
structure BagIn (w : World) (p : Nat) (rows : List Sl) (A : Option Addr) (c : Nat) : Prop where
  hW : Whole w p 70 (bagNone.setIfInBounds 1 (.slice A rows.length c))
  hO : w.ownsRow (p + 1) 81 1 (.slice A rows.length c) rows.length (vals rows)
  hR : SlRows 3 1 rows w
  far : ¬ blks rows p
  h0 : rows = [] → A = none ∧ c = 0
theorem BagIn.start (w : World) : BagIn (w.alloc (.cells bagNone 70)) w.heap.size [] none 0 :=
  ⟨Whole.made w _ _, World.ownsRow_nil _ _ _ _, ⟨fun k r hr => by simp at hr, fun j k r q b hr => by simp at hr⟩, fun ⟨k, r, hr, _⟩ => by simp at hr, fun _ => ⟨rfl, rfl⟩⟩
theorem BagIn.past {w w' : World} {p c : Nat} {rows : List Sl} {A : Option Addr} (h : BagIn w p rows A c) (hb : Below w.heap.size w w') : BagIn w' p rows A c :=
  ⟨h.hW.past hb, own_keepsS (S := fun _ => False) h.hO (keepsAll hb) (fun _ _ hf => hf), h.hR.keeps (S := fun _ => False) (keepsAll hb) (fun _ _ _ _ _ hf => hf), h.far, h.h0⟩
/-- Memory that holds something of another kind is another block. -/
theorem other_kind {w : World} {B B' s s' n n' : Nat} {e e' : TypeId} {v v' : Value} {xs xs' : List Value} (h : w.ownsRow B e s v n xs) (h' : w.ownsRow B' e' s' v' n' xs') (hne : e ≠ e') {b : Nat} (hb : v.ownBlock = some b) (hb' : v'.ownBlock = some b) : False := by
  rcases h.2 with ⟨rfl, _⟩ | ⟨g, _, cur, rfl, _, hg, _⟩
  · cases hb
  · rcases h'.2 with ⟨rfl, _⟩ | ⟨g', _, cur', rfl, _, hg', _⟩
    · cases hb'
    · simp only [Value.ownBlock, Option.some.injEq] at hb hb'
      subst hb; subst hb'
      rw [hg] at hg'
      injection hg' with hg'
      injection hg' with _ e1 _
      exact hne e1
theorem BagIn.add {w w' : World} {p c c' : Nat} {rows : List Sl} {A A' : Option Addr} {r : Sl} {xs : List Value} (h : BagIn w p rows A c) (hr : w.ownsRow 0 3 1 r.val r.len xs) (hd : ∀ b, r.blk = some b → ¬ blks rows b ∧ b ≠ p)
    (hW : Whole w' p 70 ((bagNone.setIfInBounds 1 (.slice A rows.length c)).setIfInBounds 1 (.slice A' (rows.length + 1) c'))) (hO : w'.ownsRow (p + 1) 81 1 (.slice A' (rows.length + 1) c') (rows.length + 1) (vals rows ++ [r.val]))
    (hK : Keeps (fun b => b = p ∨ (Value.slice A rows.length c).ownBlock = some b) w w') : BagIn w' p (rows ++ [r]) A' c' := by
  have hl : (rows ++ [r]).length = rows.length + 1 := by simp
  have hv : vals (rows ++ [r]) = vals rows ++ [r.val] := by simp [vals]
  have hne : (3 : TypeId) ≠ 81 := by decide
  have hR1 : SlRows 3 1 rows w' := h.hR.keeps hK fun k q b hq hb hs => by
    rcases hs with hs | hs
    · exact h.far ⟨k, q, hq, hs ▸ hb⟩
    · obtain ⟨ys, hy⟩ := h.hR.own k q hq
      exact other_kind hy h.hO hne hb hs
  have hr1 : w'.ownsRow 0 3 1 r.val r.len xs := own_keepsS hr hK fun b hb hs => by
    rcases hs with hs | hs
    · exact (hd b hb).2 hs
    · exact other_kind hr h.hO hne hb hs
  have hget : ∀ (k : Nat) (q : Sl), (rows ++ [r])[k]? = some q → rows[k]? = some q ∨ (k = rows.length ∧ q = r) := fun k q hq => by
    rcases Nat.lt_or_ge k rows.length with hlt | hge
    · rw [List.getElem?_append_left hlt] at hq; exact .inl hq
    · rw [List.getElem?_append_right hge] at hq
      have h0 : k - rows.length = 0 := by
        rcases Nat.eq_zero_or_pos (k - rows.length) with h0 | h0
        · exact h0
        · rw [List.getElem?_eq_none (by simp; omega)] at hq; cases hq
      rw [h0] at hq
      injection hq with hq
      exact .inr ⟨by omega, hq.symm⟩
  refine ⟨?_, ?_, ⟨fun k q hq => ?_, fun j k q1 q2 b h1 h2 hb1 hb2 => ?_⟩, ?_, fun h => by simp at h⟩
  · rw [hl]; rw [Array.setIfInBounds_setIfInBounds] at hW; exact hW
  · rw [hl, hv]; exact hO
  · rcases hget k q hq with h1 | ⟨_, rfl⟩
    · exact hR1.own k q h1
    · exact ⟨xs, hr1⟩
  · rcases hget j q1 h1 with h3 | ⟨h3, rfl⟩
    · rcases hget k q2 h2 with h4 | ⟨h4, rfl⟩
      · exact hR1.apart j k q1 q2 b h3 h4 hb1 hb2
      · exact ((hd b hb2).1 ⟨j, q1, h3, hb1⟩).elim
    · rcases hget k q2 h2 with h4 | ⟨h4, _⟩
      · exact ((hd b hb1).1 ⟨k, q2, h4, hb2⟩).elim
      · omega
  · rintro ⟨k, q, hq, hb⟩
    rcases hget k q hq with h1 | ⟨_, rfl⟩
    · exact h.far ⟨k, q, h1, hb⟩
    · exact (hd p hb).2 rfl
/-- The filled bag, ahead of Apart. -/
theorem BagIn.fix {w : World} {p c : Nat} {rows : List Sl} {A : Option Addr} (h : BagIn w p rows A c) (h0 : 0 < rows.length) : ∃ gO, BagFix w p 1 gO c rows := by
  have h1 := h.hO
  obtain ⟨gO, cs', rfl, hg, hWO, _, _, _⟩ := own_whole h1 h0
  refine ⟨gO, (h.hW.cellAt 1).trans (by simp [bagNone]), fun n r hr => ?_, ⟨h.hW.inside, hWO.inside⟩, h.far, ?_⟩
  · have hn : n < rows.length := (List.getElem?_eq_some_iff.1 hr).1
    rw [own_cells h1 rfl (by omega), vals_get hr]; rfl
  · rintro ⟨k, q, hq, hb⟩
    obtain ⟨ys, hy⟩ := h.hR.own k q hq
    exact other_kind hy h1 (by decide) hb rfl
/-- Apart of a bag of lists of integers, empty or not. -/
theorem BagIn.apart {w : World} {p c : Nat} {rows : List Sl} {A : Option Addr} (h : BagIn w p rows A c) (hn : rows.length ≤ 400) (hl : ∀ (k : Nat) (r : Sl), rows[k]? = some r → r.len ≤ 1000000000000) :
    Calls Tryd.prog 22 #[.pointer (some ⟨p, 0, none⟩)] w fun e w' => e = .returned (.bool true) ∧ Keeps (blks rows) w w' := by
  by_cases h0 : 0 < rows.length
  · obtain ⟨gO, hF⟩ := h.fix h0
    exact apartInts_all p gO c rows _ w h.hW hF h.hR hn hl
  · obtain rfl : rows = [] := List.length_eq_zero_iff.1 (by omega)
    obtain ⟨rfl, rfl⟩ := h.h0 rfl
    have hc : ∀ j, j < 21 → BagNil (fun w1 => w1 = w) p j := fun j hj w1 h1 => by
      subst h1
      rw [h.hW.cellAt, Array.getElem?_setIfInBounds]
      by_cases e1 : 1 = j
      · subst e1; rfl
      · rw [if_neg e1, bagNone_at j hj]
    refine (apart_any (fun _ w1 => w1 = w) p w rfl (okBytes_none (hc 0 (by decide))) (okInts_none (hc 1 (by decide))) (okLongs_none (hc 2 (by decide))) (okWords_none (hc 3 (by decide))) (okFloats_none (hc 4 (by decide))) (okSmalls_none (hc 5 (by decide))) (okTexts_none (hc 6 (by decide))) (okPlayers_none (hc 7 (by decide))) (okCards_none (hc 8 (by decide))) (okTokens_none (hc 9 (by decide))) (okNodes_none (hc 10 (by decide))) (okInstrs_none (hc 11 (by decide))) (okRows_none (hc 12 (by decide))) (okShapes_none (hc 13 (by decide))) (okEvents_none (hc 14 (by decide))) (okValues_none (hc 15 (by decide))) (okAbilities_none (hc 16 (by decide))) (okDesigns_none (hc 17 (by decide))) (okEffects_none (hc 18 (by decide))) (okKinds_none (hc 19 (by decide))) (okStates_none (hc 20 (by decide)))).mono ?_
    rintro e w' ⟨he, rfl⟩
    exact ⟨he, Keeps.refl _ _⟩
/-- The slices that a bag was given, seen from behind. -/
theorem bag_rows {w w' : World} {p c : Nat} {A : Option Addr} {rows : List Sl} {cs : Array Value} (hR : SlRows 3 1 rows w) (hp : w.heap.size = p) (hK : Keeps (fun b => b = p ∨ p + 1 ≤ b) w w') (hW : Whole w' p 70 cs) (hcs : cs[1]? = some (.slice A rows.length c))
    (hO : w'.ownsRow (p + 1) 81 1 (.slice A rows.length c) rows.length (vals rows)) (h0 : 0 < rows.length) : ∃ gO, BagFix w' p 1 gO c rows ∧ SlRows 3 1 rows w' := by
  obtain ⟨gO, cs', rfl, hg, hWO, _, _, _⟩ := own_whole hO h0
  have hlt : ∀ b, blks rows b → b < p := fun b hb => hp ▸ blks_lt hR hb
  refine ⟨gO, ⟨(hW.cellAt 1).trans hcs, ?_, ⟨hW.inside, hWO.inside⟩, fun h => absurd (hlt _ h) (by omega), fun h => absurd (hlt _ h) (by omega)⟩, hR.keeps hK fun k r b hr hb h => ?_⟩
  · intro n r hr
    have hn : n < rows.length := (List.getElem?_eq_some_iff.1 hr).1
    rw [own_cells hO rfl (by omega), vals_get hr]; rfl
  · have := hlt b ⟨k, r, hr, hb⟩
    omega
end Go.Proofs.YthmfbcfbcookiaaDoor
