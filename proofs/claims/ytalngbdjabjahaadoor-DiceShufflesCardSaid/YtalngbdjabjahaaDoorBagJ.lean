/-
  The bag: one list of integers more. Conditions: fewer than 400 are there.
-/
import Derived.Test.YtalngbdjabjahaaDoorBagI
import Derived.Test.YtalngbdjabjahaaDoorBagB
namespace Go.Proofs.YtalngbdjabjahaaDoor
open Go.RowKit
theorem own_putB {w : World} {base : Nat} {e : TypeId} {v : Value} {n : Nat} {xs : List Value} {p j : Nat} (h : w.ownsRow base e 1 v n xs) (hp : p < base) (u : Value) : (w.setCell ⟨p, j, none⟩ u).ownsRow base e 1 v n xs := ownsRow_setCell_below h (show (⟨p, j, none⟩ : Addr).block < base from hp) u
/-- What an append leaves in a field behind a pointer. -/
theorem bag_next {p base n cap' : Nat} {e t : TypeId} {A' : Option Addr} {v u : Value} {w w1 : World} {o : Obj} {cs : Array Value} {xs : List Value} {j : Nat} (hW : Whole w p t cs) (hO : w.ownsRow base e 1 v n xs) (hp : p < base) (hj : j < cs.size)
    (h1 : w1.ownsRow base e 1 (.slice A' (n + 1) cap') (n + 1) (xs ++ [u])) (h2 : (w.alloc o).grownBy w1 v.ownBlock) :
    Whole (w1.setCell ⟨p, j, none⟩ (.slice A' (n + 1) cap')) p t (cs.setIfInBounds j (.slice A' (n + 1) cap')) ∧ (w1.setCell ⟨p, j, none⟩ (.slice A' (n + 1) cap')).ownsRow base e 1 (.slice A' (n + 1) cap') (n + 1) (xs ++ [u]) ∧
    Keeps (fun b => b = p ∨ base ≤ b) w (w1.setCell ⟨p, j, none⟩ (.slice A' (n + 1) cap')) ∧ w1.frozen? ⟨p, j, none⟩ = false ∧ ∃ x, w1.cell? ⟨p, j, none⟩ = some x := by
  have hlt : ∀ b, v.ownBlock = some b → base ≤ b := fun b hb => (hO.lt b hb).1
  have hK1 : Keeps (fun b => base ≤ b) w w1 := ((Keeps.refl _ w).alloc _).grown h2 (fun b hb _ => hlt b hb)
  have hW1 : Whole w1 p t cs := hW.keeps hK1 (by omega)
  exact ⟨hW1.put j _, own_putB h1 hp _, (hK1.mono (T := fun b => b = p ∨ base ≤ b) (fun b _ h => Or.inr h)).setCell (p := ⟨p, j, none⟩) (fun _ => Or.inl rfl) _, hW1.free j, _, (hW1.cellAt j).trans (Array.getElem?_eq_getElem hj)⟩
set_option maxRecDepth 100000 in
set_option maxHeartbeats 1000000 in
theorem addInts_any (p base n ln lc cap : Nat) (A LA : Option Addr) (cs : Array Value) (xs : List Value) (w : World) (hW : Whole w p 57 cs) (hcs : cs[1]? = some (.slice A n cap)) (hO : w.ownsRow base 27 1 (.slice A n cap) n xs) (hp : p < base) (hb : base ≤ w.heap.size) (hn : n < 400) :
    Calls Tryd.prog 9 #[.pointer (some ⟨p, 0, none⟩), .slice LA ln lc] w fun e w' => e = .returned (.tuple #[]) ∧ ∃ A' cap', Whole w' p 57 (cs.setIfInBounds 1 (.slice A' (n + 1) cap')) ∧
      w'.ownsRow base 27 1 (.slice A' (n + 1) cap') (n + 1) (xs ++ [.slice LA ln lc]) ∧ Keeps (fun b => b = p ∨ base ≤ b) w w' := by
  have c0 := (hW.cellAt 1).trans hcs
  have hj : 1 < cs.size := (Array.getElem?_eq_some_iff.1 hcs).1
  have HW := Lib.hid hW; have HO := Lib.hid hO
  have hin := hW.inside
  clear hW hcs hO
  go_enter Tryd.func9, Tryd.ntmps9
  go_wp2_with (at_builtin; (refine wpList_append_cells _ rfl (.tmp 14) (.tmp 16) 36 rfl base 27 (.slice none 0 0) 1 24 Tryd.underlying36 info_intsB rfl (by decide) _ n _ rfl (HO.out.alloc _) (w.heap.size + 1) (some ⟨w.heap.size, 0, none⟩) 1 1 [.slice LA ln lc] rfl (Lies.row (t := 27) (fr := (0, 0)) (heap_alloc_new w _) (by simp)) rfl (by simp [Value.oneCell']) (by unfold maxLen; omega) (by omega) (by simp; omega) ?_); intro A' cap' w1 h1 h2 _ _ _; obtain ⟨hA, hB, hC, hD, x, hE⟩ := bag_next HW.out HO.out hp hj h1 h2; have HA := Lib.hid hA; have HB := Lib.hid hB; have HC := Lib.hid hC; clear hA hB hC h1 h2 c0)
  go_end0
  exact ⟨rfl, A', cap', HA.out, HB.out, HC.out⟩
/-- The cells of a bag in which nothing lies. -/
def bagNone : Array Value := #[.slice none 0 0, .slice none 0 0, .slice none 0 0, .slice none 0 0, .slice none 0 0, .slice none 0 0, .slice none 0 0, .slice none 0 0, .slice none 0 0, .slice none 0 0, .slice none 0 0, .slice none 0 0, .slice none 0 0, .slice none 0 0, .slice none 0 0, .slice none 0 0, .slice none 0 0, .slice none 0 0, .slice none 0 0, .slice none 0 0, .slice none 0 0]
theorem bagNone_at (j : Nat) (h : j < 21) : bagNone[j]? = some (.slice none 0 0) := by
  have : bagNone = Array.replicate 21 (.slice none 0 0) := rfl
  rw [this, Array.getElem?_replicate, if_pos h]
/-- A bag of lists of integers alone: the walk of Apart. -/
theorem apartInts_all (p gO capO : Nat) (rows : List Sl) (v : Value) (w : World) (hW : Whole w p 57 (bagNone.setIfInBounds 1 v)) (hF : BagFix w p 1 gO capO rows) (hR : SlRows 3 1 rows w) (hn : rows.length ≤ 400) (hl : ∀ (k : Nat) (r : Sl), rows[k]? = some r → r.len ≤ 1000000000000) :
    Calls Tryd.prog 10 #[.pointer (some ⟨p, 0, none⟩)] w fun e w' => e = .returned (.bool true) ∧ Keeps (blks rows) w w' := by
  have hc : ∀ j, j < 21 → j ≠ 1 → w.cell? ⟨p, j, none⟩ = some (.slice none 0 0) := fun j hj h1 => by
    rw [hW.cellAt, Array.getElem?_setIfInBounds, if_neg (fun e => h1 e.symm), bagNone_at j hj]
  have hk : ∀ j, j < 21 → j ≠ 1 → BagNil (fun w1 => Keeps (blks rows) w w1) p j := fun j hj h1 w1 h => (h.cell hF.lt.1 hF.far.1).trans (hc j hj h1)
  refine apart_any (fun j w1 => match j with | 0 => w1 = w | 1 => w1 = w | _ => Keeps (blks rows) w w1) p w rfl
    (okBytes_none fun w1 h => by subst h; exact hc 0 (by decide) (by decide))
    (fun w1 h => by subst h; exact apartInts_any p gO capO rows w1 hF hR hn hl)
    (okLongs_none (hk 2 (by decide) (by decide))) (okWords_none (hk 3 (by decide) (by decide))) (okFloats_none (hk 4 (by decide) (by decide))) (okSmalls_none (hk 5 (by decide) (by decide))) (okTexts_none (hk 6 (by decide) (by decide)))
    (okPlayers_none (hk 7 (by decide) (by decide))) (okCards_none (hk 8 (by decide) (by decide))) (okTokens_none (hk 9 (by decide) (by decide))) (okNodes_none (hk 10 (by decide) (by decide))) (okInstrs_none (hk 11 (by decide) (by decide)))
    (okRows_none (hk 12 (by decide) (by decide))) (okShapes_none (hk 13 (by decide) (by decide))) (okEvents_none (hk 14 (by decide) (by decide))) (okValues_none (hk 15 (by decide) (by decide))) (okAbilities_none (hk 16 (by decide) (by decide)))
    (okDesigns_none (hk 17 (by decide) (by decide))) (okEffects_none (hk 18 (by decide) (by decide))) (okKinds_none (hk 19 (by decide) (by decide))) (okStates_none (hk 20 (by decide) (by decide)))
/-- The slices that a bag was given, seen from behind. -/
theorem bag_rows {w w' : World} {p c : Nat} {A : Option Addr} {rows : List Sl} {cs : Array Value} (hR : SlRows 3 1 rows w) (hp : w.heap.size = p) (hK : Keeps (fun b => b = p ∨ p + 1 ≤ b) w w') (hW : Whole w' p 57 cs) (hcs : cs[1]? = some (.slice A rows.length c))
    (hO : w'.ownsRow (p + 1) 27 1 (.slice A rows.length c) rows.length (vals rows)) (h0 : 0 < rows.length) : ∃ gO, BagFix w' p 1 gO c rows ∧ SlRows 3 1 rows w' := by
  obtain ⟨gO, cs', rfl, hg, hWO, _, _, _⟩ := own_whole hO h0
  have hlt : ∀ b, blks rows b → b < p := fun b hb => hp ▸ blks_lt hR hb
  refine ⟨gO, ⟨(hW.cellAt 1).trans hcs, ?_, ⟨hW.inside, hWO.inside⟩, fun h => absurd (hlt _ h) (by omega), fun h => absurd (hlt _ h) (by omega)⟩, hR.keeps hK fun k r b hr hb h => ?_⟩
  · intro n r hr
    have hn : n < rows.length := (List.getElem?_eq_some_iff.1 hr).1
    rw [own_cells hO rfl (by omega), vals_get hr]; rfl
  · have := hlt b ⟨k, r, hr, hb⟩
    omega
end Go.Proofs.YtalngbdjabjahaaDoor
