/-
  A bag of seven kinds of lists, as packs are laid into it: plain laws of memory. Conditions: none.
-/
import Derived.Test.YtcmbdnjcfneinaaGreatDoorBgM
namespace Go.Proofs.YtcmbdnjcfneinaaGreatDoor
open Go.RowKit
theorem row_kindB {w : World} {B s n b : Nat} {e t : TypeId} {v : Value} {xs : List Value} {cs : Array Value} (h : w.ownsRow B e s v n xs) (hw : Whole w b t cs) (hne : t ≠ e) : v.ownBlock ≠ some b := fun hb => by
  rcases h.2 with ⟨rfl, _⟩ | ⟨g, _, cur, rfl, _, hg, _⟩
  · cases hb
  · simp only [Value.ownBlock, Option.some.injEq] at hb
    subst hb
    unfold Whole at hw
    rw [hw] at hg
    injection hg with hg
    injection hg with _ e1 _
    exact hne e1
/-- The lists of one kind: all that will come, and those that lie in the bag. -/
structure BagK1 (w : World) (p : Nat) (t lt : TypeId) (s : Nat) (pend rows : List Sl) (A : Option Addr) (c : Nat) : Prop where
  hO : w.ownsRow (p + 1) lt 1 (.slice A rows.length c) rows.length (vals rows)
  hR : SlRows t s pend w
  low : ∀ b, blks pend b → b < p
  pre : rows = pend.take rows.length
  few : rows.length ≤ 400
  h0 : rows = [] → A = none ∧ c = 0
  ln : ∀ (k : Nat) (r : Sl), pend[k]? = some r → r.len ≤ 1000000000
section
variable {S : Nat → Prop} {w w' : World} {p s c c' : Nat} {t lt : TypeId} {pend rows : List Sl} {A A' : Option Addr}
theorem blks_sub {rows pend : List Sl} {n b : Nat} (h : rows = pend.take n) (hb : blks rows b) : blks pend b := by
  obtain ⟨k, r, hr, hb⟩ := hb
  rw [h, List.getElem?_take] at hr
  split at hr
  · exact ⟨k, r, hr, hb⟩
  · cases hr
theorem SlRows.sub {rows pend : List Sl} {n : Nat} (h : SlRows t s pend w) (hp : rows = pend.take n) : SlRows t s rows w := by
  have hg : ∀ {k : Nat} {r : Sl}, rows[k]? = some r → pend[k]? = some r := fun {k r} hr => by
    rw [hp, List.getElem?_take] at hr
    split at hr
    · exact hr
    · cases hr
  exact ⟨fun k r hr => h.own k r (hg hr), fun j k r q b hr hq hb hb' => h.apart j k r q b (hg hr) (hg hq) hb hb'⟩
theorem BagK1.calm (h : BagK1 w p t lt s pend rows A c) (hk : Keeps S w w') (hA : ∀ b, (Value.slice A rows.length c).ownBlock = some b → ¬ S b) (hS : ∀ b, b < p → ¬ S b) : BagK1 w' p t lt s pend rows A c :=
  ⟨own_keepsS h.hO hk hA, h.hR.keeps hk (fun k r b hr hb => hS b (h.low b ⟨k, r, hr, hb⟩)), h.low, h.pre, h.few, h.h0, h.ln⟩
theorem BagK1.add {r : Sl} (h : BagK1 w p t lt s pend rows A c) (hO : w'.ownsRow (p + 1) lt 1 (.slice A' (rows.length + 1) c') (rows.length + 1) (vals rows ++ [r.val])) (hk : Keeps S w w') (hS : ∀ b, b < p → ¬ S b) (hr : pend[rows.length]? = some r) (hlt : rows.length < 400) : BagK1 w' p t lt s pend (rows ++ [r]) A' c' := by
  have hl : (rows ++ [r]).length = rows.length + 1 := by simp
  have hv : vals (rows ++ [r]) = vals rows ++ [r.val] := by simp [vals]
  refine ⟨by rw [hl, hv]; exact hO, h.hR.keeps hk (fun k r b hr hb => hS b (h.low b ⟨k, r, hr, hb⟩)), h.low, ?_, by omega, fun h => by simp at h, h.ln⟩
  rw [hl, List.take_add_one, hr, ← h.pre]
  rfl
theorem BagK1.nil (w : World) (p : Nat) (t lt : TypeId) (s : Nat) (pend : List Sl) (hR : SlRows t s pend w) (low : ∀ b, blks pend b → b < p) (ln : ∀ (k : Nat) (r : Sl), pend[k]? = some r → r.len ≤ 1000000000) : BagK1 w p t lt s pend [] none 0 :=
  ⟨World.ownsRow_nil _ _ _ _, hR, low, rfl, Nat.zero_le _, fun _ => ⟨rfl, rfl⟩, ln⟩
/-- Ahead of its part of Apart: behind a change of blocks below p of other kinds. -/
theorem BagK1.fix {cs : Array Value} {j : Nat} (h : BagK1 w p t lt s pend rows A c) (hW : Whole w p 67 cs) (hj : cs[j]? = some (.slice A rows.length c)) (h1 : rows ≠ []) (hk : Keeps S w w') (hS : ∀ b, S b → b < p) (hd : ∀ b, blks pend b → ¬ S b) :
    ∃ gO, BagFix w' p j gO c rows ∧ SlRows t s rows w' ∧ A = some ⟨gO, 0, none⟩ := by
  obtain ⟨g, cs', rfl, hpg, hG, _⟩ := own_whole h.hO (List.length_pos_iff.2 h1)
  have hp : ¬ S p := fun e => by have := hS p e; omega
  have hg : ¬ S g := fun e => by have := hS g e; omega
  refine ⟨g, ⟨?_, fun n r hr => ?_, ⟨Nat.lt_of_lt_of_le hW.inside hk.size, Nat.lt_of_lt_of_le hG.inside hk.size⟩, fun e => ?_, fun e => ?_⟩, (h.hR.keeps hk (fun k r b hr hb => hd b ⟨k, r, hr, hb⟩)).sub h.pre, rfl⟩
  · rw [hk.cell hW.inside hp, hW.cellAt, hj]
  · have h2 := own_cells h.hO (g := g) rfl (o := n) (by rw [Nat.mul_one]; exact (List.getElem?_eq_some_iff.1 hr).1)
    rw [hk.cell hG.inside hg, h2, vals_get hr]; rfl
  · have := h.low p (blks_sub h.pre e); omega
  · have := h.low g (blks_sub h.pre e); omega
end
theorem kinds_apart {t t' : TypeId} {s s' : Nat} {rows rows' : List Sl} {w : World} (h : SlRows t s rows w) (h' : SlRows t' s' rows' w) (hne : t ≠ t') (b : Nat) (hb : blks rows b) : ¬ blks rows' b := fun hb' => by
  obtain ⟨k, r, hr, hrb⟩ := hb
  obtain ⟨k', r', hr', hrb'⟩ := hb'
  obtain ⟨xs, hx⟩ := h.own k r hr
  obtain ⟨ys, hy⟩ := h'.own k' r' hr'
  exact other_kind hx hy hne hrb hrb'
theorem BagK1.ln' {w : World} {p : Nat} {t lt : TypeId} {s c : Nat} {pend rows : List Sl} {A : Option Addr} (h : BagK1 w p t lt s pend rows A c) (k : Nat) (r : Sl) (hr : rows[k]? = some r) : r.len ≤ 1000000000 := by
  rw [h.pre, List.getElem?_take] at hr
  split at hr
  · exact h.ln k r hr
  · cases hr
/-! ### The seven kinds: the bag's fields 0, 1, 2, 5, 6, 18, 19 -/
def bgK : List Nat := [0, 1, 2, 5, 6, 18, 19]
def bgT (j : Nat) : TypeId := match j with
  | 0 => 5 | 1 => 3 | 2 => 2 | 5 => 80 | 6 => 9 | 18 => 43 | _ => 40
def bgL (j : Nat) : TypeId := match j with
  | 0 => 32 | 1 => 37 | 2 => 22 | 5 => 41 | 6 => 23 | 18 => 38 | _ => 24
def bgS (j : Nat) : Nat := match j with
  | 18 => 4 | 19 => 6 | _ => 1
theorem bgL_ne : ∀ i ∈ bgK, ∀ j ∈ bgK, i ≠ j → bgL i ≠ bgL j := by decide
theorem bgT_ne : ∀ i ∈ bgK, ∀ j ∈ bgK, i ≠ j → bgT i ≠ bgT j := by decide
theorem bgK_lt : ∀ j ∈ bgK, j < 21 := by decide
theorem bgL_bag : ∀ j ∈ bgK, 67 ≠ bgL j := by decide
def upd {α : Type} (f : Nat → α) (j : Nat) (a : α) : Nat → α := fun i => if i = j then a else f i
theorem upd_at {α : Type} (f : Nat → α) (j : Nat) (a : α) : upd f j a j = a := if_pos rfl
theorem upd_ne {α : Type} (f : Nat → α) {j i : Nat} (a : α) (h : i ≠ j) : upd f j a i = f i := if_neg h
def bagV (R : Nat → List Sl) (A : Nat → Option Addr) (c : Nat → Nat) : Array Value := ((List.range 21).map fun j => Value.slice (A j) (R j).length (c j)).toArray
section
variable {R P : Nat → List Sl} {A : Nat → Option Addr} {c : Nat → Nat} {w w' : World} {p : Nat}
theorem bagV_at {j : Nat} (h : j < 21) : (bagV R A c)[j]? = some (.slice (A j) (R j).length (c j)) := by
  unfold bagV
  rw [List.getElem?_toArray, List.getElem?_map, List.getElem?_range h]
  rfl
theorem bagV_set {j : Nat} (_h : j < 21) (l : List Sl) (A' : Option Addr) (c' n : Nat) (hn : l.length = n) : (bagV R A c).setIfInBounds j (.slice A' n c') = bagV (upd R j l) (upd A j A') (upd c j c') := by
  apply Array.ext_getElem?
  intro i
  rw [Array.getElem?_setIfInBounds]
  have hs : (bagV R A c).size = 21 := by simp [bagV]
  by_cases e : j = i
  · subst e
    rw [if_pos rfl, if_pos (by omega), bagV_at _h, upd_at, upd_at, upd_at, hn]
  · rw [if_neg e]
    by_cases hi : i < 21
    · rw [bagV_at hi, bagV_at hi, upd_ne _ _ (Ne.symm e), upd_ne _ _ (Ne.symm e), upd_ne _ _ (Ne.symm e)]
    · rw [Array.getElem?_eq_none (by omega), Array.getElem?_eq_none (by simp [bagV]; omega)]
/-- The bag. -/
structure BagW (w : World) (p : Nat) (P R : Nat → List Sl) (A : Nat → Option Addr) (c : Nat → Nat) : Prop where
  hW : Whole w p 67 (bagV R A c)
  k : ∀ j ∈ bgK, BagK1 w p (bgT j) (bgL j) (bgS j) (P j) (R j) (A j) (c j)
  no : ∀ j, j ∉ bgK → R j = [] ∧ A j = none ∧ c j = 0
theorem BagW.calm (h : BagW w p P R A c) (hk : Keeps (fun _ => False) w w') : BagW w' p P R A c :=
  ⟨h.hW.keeps hk id, fun j hj => (h.k j hj).calm hk (fun _ _ h => h) (fun _ _ h => h), h.no⟩
/-- What the bag's own growth turns. -/
def BagG (p : Nat) (w : World) (b : Nat) : Prop := p ≤ b ∧ ∀ t cs, Whole w b t cs → t = 67 ∨ ∃ j ∈ bgK, t = bgL j
theorem BagG.and {w1 w2 : World} (h : Keeps (BagG p w) w w1) (k : Keeps (BagG p w1) w1 w2) : Keeps (BagG p w) w w2 :=
  h.and k (fun _ _ hb => ⟨hb.1, fun t cs hc => Classical.byContradiction fun hn => hn (hb.2 t cs (hc.keeps h (fun e => hn (e.2 t cs hc))))⟩)
theorem BagG.box {b : Nat} {w1 : World} {t : TypeId} {cs : Array Value} (h : Keeps (BagG p w) w w1) (hc : Whole w b t cs) (h1 : t ≠ 67) (h2 : ∀ j ∈ bgK, t ≠ bgL j) : Whole w1 b t cs := hc.keeps h (fun e => by
  rcases e.2 t cs hc with e | ⟨j, hj, e⟩
  · exact h1 e
  · exact h2 j hj e)
theorem BagG.first {w1 w2 : World} (h : Keeps (fun _ => False) w w1) (k : Keeps (BagG p w1) w1 w2) : Keeps (BagG p w) w w2 :=
  (h.mono (T := BagG p w) (fun _ _ h => h.elim)).and k (fun _ _ hb => ⟨hb.1, fun t cs hc => hb.2 t cs (hc.keeps h id)⟩)
theorem BagG.of {s n B j : Nat} {v : Value} {xs : List Value} {cs : Array Value} (hj : j ∈ bgK) (hk : Keeps (fun b => b = p ∨ v.ownBlock = some b) w w') (hW : Whole w p 67 cs) (hO : w.ownsRow B (bgL j) s v n xs) (hB : p ≤ B) : Keeps (BagG p w) w w' :=
  hk.mono (fun k _ hh => by
    rcases hh with hh | hh
    · subst hh
      refine ⟨Nat.le_refl _, fun t cs' hc => .inl ?_⟩
      unfold Whole at hW hc
      rw [hW] at hc
      injection hc with hc
      injection hc with _ e1 _
      exact e1.symm
    · refine ⟨by have := (hO.lt k hh).1; omega, fun t cs' hc => .inr ⟨j, hj, ?_⟩⟩
      exact Classical.byContradiction fun hn => row_kindB hO hc hn hh)
end
/-! ### What is still to come -/
def app (f g : Nat → List Sl) : Nat → List Sl := fun j => f j ++ g j
def one (j : Nat) (r : Sl) : Nat → List Sl := fun i => if i = j then [r] else []
def nul : Nat → List Sl := fun _ => []
theorem app_app (f g h : Nat → List Sl) : app (app f g) h = app f (app g h) := funext fun _ => List.append_assoc _ _ _
theorem app_nul (f : Nat → List Sl) : app f nul = f := funext fun _ => List.append_nil _
theorem nul_app (f : Nat → List Sl) : app nul f = f := rfl
def BagT (w : World) (p : Nat) (P T : Nat → List Sl) : Prop := ∃ R A c, BagW w p P R A c ∧ ∀ j, ∃ D, P j = D ++ T j ∧ R j = D.take 400
/-- What an addition is asked to show. -/
def AddOk (f j : Nat) : Prop := ∀ (p base n ln lc cap : Nat) (A LA : Option Addr) (cs : Array Value) (xs : List Value) (w : World), Whole w p 67 cs → cs[j]? = some (.slice A n cap) → w.ownsRow base (bgL j) 1 (.slice A n cap) n xs → p < base → base ≤ w.heap.size → n < 400 →
  Calls Tryz.prog f #[.pointer (some ⟨p, 0, none⟩), .slice LA ln lc] w fun e w' => e = .returned (.tuple #[]) ∧ ∃ A' cap', Whole w' p 67 (cs.setIfInBounds j (.slice A' (n + 1) cap')) ∧ w'.ownsRow base (bgL j) 1 (.slice A' (n + 1) cap') (n + 1) (xs ++ [.slice LA ln lc]) ∧ Keeps (fun b => b = p ∨ (Value.slice A n cap).ownBlock = some b) w w'
def AddFull (f j : Nat) : Prop := ∀ (p n cap : Nat) (A : Option Addr) (v : Value) (cs : Array Value) (w : World), Whole w p 67 cs → cs[j]? = some (.slice A n cap) → 400 ≤ n →
  Calls Tryz.prog f #[.pointer (some ⟨p, 0, none⟩), v] w fun e w' => e = .returned (.tuple #[]) ∧ w' = w
section
variable {P T : Nat → List Sl} {w w' : World} {p : Nat}
theorem BagT.calm (h : BagT w p P T) (hk : Keeps (fun _ => False) w w') : BagT w' p P T := by
  obtain ⟨R, A, c, hB, hD⟩ := h
  exact ⟨R, A, c, hB.calm hk, hD⟩
theorem BagT.lt (h : BagT w p P T) : p < w.heap.size := by
  obtain ⟨R, A, c, hB, hD⟩ := h
  exact hB.hW.inside
/-- A list more, where it is laid into the bag. -/
theorem BagW.next {R : Nat → List Sl} {A : Nat → Option Addr} {c : Nat → Nat} {j c' : Nat} {A' : Option Addr} {r : Sl} {D : List Sl} (hj : j ∈ bgK) (hB : BagW w p P R A c) (hD : ∀ i, i ≠ j → ∃ D, P i = D ++ T i ∧ R i = D.take 400) (hP : P j = D ++ (r :: T j)) (hR : R j = D.take 400) (hl : D.length < 400)
    (hW : Whole w' p 67 ((bagV R A c).setIfInBounds j (.slice A' ((R j).length + 1) c'))) (hO : w'.ownsRow (p + 1) (bgL j) 1 (.slice A' ((R j).length + 1) c') ((R j).length + 1) (vals (R j) ++ [r.val])) (hk : Keeps (fun b => b = p ∨ (Value.slice (A j) (R j).length (c j)).ownBlock = some b) w w') : BagT w' p P T := by
  have hRD : R j = D := by rw [hR, List.take_of_length_le (by omega)]
  have hjl := bgK_lt j hj
  have hKj := hB.k j hj
  have hS : ∀ b, b < p → ¬ (b = p ∨ (Value.slice (A j) (R j).length (c j)).ownBlock = some b) := fun b hlt hh => by
    rcases hh with hh | hh
    · omega
    · have := (hKj.hO.lt b hh).1; omega
  refine ⟨upd R j (R j ++ [r]), upd A j A', upd c j c', ⟨?_, fun i hi => ?_, fun i hi => ?_⟩, fun i => ?_⟩
  · rw [← bagV_set hjl (R j ++ [r]) A' c' ((R j).length + 1) (by simp)]
    exact hW
  · by_cases e : i = j
    · subst e
      rw [upd_at, upd_at, upd_at]
      exact hKj.add hO hk hS (by rw [hP, hRD, List.getElem?_append_right (Nat.le_refl _), Nat.sub_self]; rfl) (by rw [hRD]; exact hl)
    · rw [upd_ne _ _ e, upd_ne _ _ e, upd_ne _ _ e]
      refine (hB.k i hi).calm hk (fun b hb hh => ?_) hS
      rcases hh with hh | hh
      · have := ((hB.k i hi).hO.lt b hb).1; omega
      · exact other_kind (hB.k i hi).hO hKj.hO (bgL_ne i hi j hj e) hb hh
  · have e : i ≠ j := fun e => hi (e ▸ hj)
    rw [upd_ne _ _ e, upd_ne _ _ e, upd_ne _ _ e]
    exact hB.no i hi
  · by_cases e : i = j
    · subst e
      exact ⟨D ++ [r], by rw [hP]; simp, by rw [upd_at, hRD, List.take_of_length_le (by simp; omega)]⟩
    · rw [upd_ne _ _ e]
      exact hD i e
theorem BagW.skip {R : Nat → List Sl} {A : Nat → Option Addr} {c : Nat → Nat} {j : Nat} {r : Sl} {D : List Sl} (hB : BagW w p P R A c) (hD : ∀ i, i ≠ j → ∃ D, P i = D ++ T i ∧ R i = D.take 400) (hP : P j = D ++ (r :: T j)) (hR : R j = D.take 400) (hl : ¬ D.length < 400) : BagT w p P T := by
  refine ⟨R, A, c, hB, fun i => ?_⟩
  by_cases e : i = j
  · subst e
    exact ⟨D ++ [r], by rw [hP]; simp, by rw [hR, List.take_append_of_le_length (by omega)]⟩
  · exact hD i e
theorem BagT.see {j : Nat} {r : Sl} (h : BagT w p P (app (one j r) T)) : ∃ R A c D, BagW w p P R A c ∧ (∀ i, i ≠ j → ∃ D, P i = D ++ T i ∧ R i = D.take 400) ∧ P j = D ++ (r :: T j) ∧ R j = D.take 400 := by
  obtain ⟨R, A, c, hB, hD⟩ := h
  obtain ⟨D, h1, h2⟩ := hD j
  refine ⟨R, A, c, D, hB, fun i e => ?_, ?_, h2⟩
  · obtain ⟨D', h3, h4⟩ := hD i
    refine ⟨D', ?_, h4⟩
    rw [h3]
    unfold app one
    rw [if_neg e]
    rfl
  · rw [h1]
    unfold app one
    rw [if_pos rfl]
    rfl
theorem addT {f j : Nat} (hj : j ∈ bgK) (ha : AddOk f j) (hf : AddFull f j) (r : Sl) (h : BagT w p P (app (one j r) T)) :
    Calls Tryz.prog f #[.pointer (some ⟨p, 0, none⟩), .slice r.at_ r.len r.cap] w fun e w' => e = .returned (.tuple #[]) ∧ BagT w' p P T ∧ Keeps (BagG p w) w w' := by
  obtain ⟨R, A, c, D, hB, hD, hP, hR⟩ := h.see
  have hjl := bgK_lt j hj
  by_cases hl : D.length < 400
  · have hRl : (R j).length = D.length := by rw [hR, List.length_take]; omega
    refine (ha p (p + 1) (R j).length r.len r.cap (c j) (A j) r.at_ _ (vals (R j)) w hB.hW (bagV_at hjl) (hB.k j hj).hO (Nat.lt_succ_self _) hB.hW.inside (by omega)).mono ?_
    rintro e w' ⟨he, A', c', hW, hO, hk⟩
    exact ⟨he, hB.next hj hD hP hR hl hW hO hk, BagG.of hj hk hB.hW (hB.k j hj).hO (Nat.le_succ _)⟩
  · have hRl : (R j).length = 400 := by rw [hR, List.length_take]; omega
    refine (hf p (R j).length (c j) (A j) _ _ w hB.hW (bagV_at hjl) (by omega)).mono ?_
    rintro e w' ⟨he, rfl⟩
    exact ⟨he, hB.skip hD hP hR hl, Keeps.refl _ _⟩
end
end Go.Proofs.YtcmbdnjcfneinaaGreatDoor
