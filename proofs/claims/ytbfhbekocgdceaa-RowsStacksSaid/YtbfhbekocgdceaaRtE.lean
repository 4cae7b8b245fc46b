/-
  RowsStacks: the lists that are held, in memory. Conditions: none.
-/
import Derived.Test.YtbfhbekocgdceaaRtA
import Derived.Test.YtbfhbekocgdceaaSnI
import Derived.Test.YtbfhbekocgdceaaRcM
namespace Go.Proofs.Ytbfhbekocgdceaa
open Go.RowKit
theorem own_putB {w : World} {base : Nat} {e : TypeId} {v : Value} {n : Nat} {xs : List Value} {p j : Nat} (h : w.ownsRow base e 1 v n xs) (hp : p < base) (u : Value) : (w.setCell ⟨p, j, none⟩ u).ownsRow base e 1 v n xs := ownsRow_setCell_below h (show (⟨p, j, none⟩ : Addr).block < base from hp) u
/-- What an append leaves in a field behind a pointer. -/
theorem bag_next {p base n cap' : Nat} {e t : TypeId} {A' : Option Addr} {v u : Value} {w w1 : World} {o : Obj} {cs : Array Value} {xs : List Value} {j : Nat} (hW : Whole w p t cs) (hO : w.ownsRow base e 1 v n xs) (hp : p < base) (hj : j < cs.size)
    (h1 : w1.ownsRow base e 1 (.slice A' (n + 1) cap') (n + 1) (xs ++ [u])) (h2 : (w.alloc o).grownBy w1 v.ownBlock) :
    Whole (w1.setCell ⟨p, j, none⟩ (.slice A' (n + 1) cap')) p t (cs.setIfInBounds j (.slice A' (n + 1) cap')) ∧ (w1.setCell ⟨p, j, none⟩ (.slice A' (n + 1) cap')).ownsRow base e 1 (.slice A' (n + 1) cap') (n + 1) (xs ++ [u]) ∧
    Keeps (fun b => b = p ∨ v.ownBlock = some b) w (w1.setCell ⟨p, j, none⟩ (.slice A' (n + 1) cap')) ∧ w1.frozen? ⟨p, j, none⟩ = false ∧ ∃ x, w1.cell? ⟨p, j, none⟩ = some x := by
  have hlt : ∀ b, v.ownBlock = some b → base ≤ b := fun b hb => (hO.lt b hb).1
  have hK1 : Keeps (fun b => v.ownBlock = some b) w w1 := ((Keeps.refl _ w).alloc _).grown h2 (fun b hb _ => hb)
  have hW1 : Whole w1 p t cs := hW.keeps hK1 (fun h => by have := hlt p h; omega)
  exact ⟨hW1.put j _, own_putB h1 hp _, (hK1.mono (T := fun b => b = p ∨ v.ownBlock = some b) (fun b _ h => Or.inr h)).setCell (p := ⟨p, j, none⟩) (fun _ => Or.inl rfl) _, hW1.free j, _, (hW1.cellAt j).trans (Array.getElem?_eq_getElem hj)⟩
/-- Memory that holds something of another kind is another block. -/
theorem other_kind {w : World} {B B' s s' n n' : Nat} {e e' : TypeId} {v v' : Value} {xs xs' : List Value} (h : w.ownsRow B e s v n xs) (h' : w.ownsRow B' e' s' v' n' xs') (hne : e ≠ e') {b : Nat} (hb : v.ownBlock = some b) (hb' : v'.ownBlock = some b) : False := by
  rcases h.2 with ⟨rfl, _⟩ | ⟨g, _, cur, rfl, _, hg, _⟩
  · cases hb
  · rcases h'.2 with ⟨rfl, _⟩ | ⟨g', _, cur', rfl, _, hg', _⟩
    · cases hb'
    · simp only [Value.ownBlock, Option.some.injEq] at hb hb'
      subst hb; subst hb'
      rw [hg] at hg'
      injection hg' with hg'
      injection hg' with _ e1 _
      exact hne e1
/-- The lists that are held, behind the pointer p. -/
structure HeldIn (w : World) (p : Nat) (rows : List Sl) (A : Option Addr) (c : Nat) : Prop where
  hW : Whole w p 63 #[.slice A rows.length c]
  hO : w.ownsRow (p + 1) 44 1 (.slice A rows.length c) rows.length (vals rows)
  hR : SlRows 3 1 rows w
  far : ¬ blks rows p
  h0 : rows = [] → A = none ∧ c = 0
  ln : ∀ (k : Nat) (r : Sl), rows[k]? = some r → r.len ≤ 1000000000
def HeldIn.foot (p : Nat) (A : Option Addr) (rows : List Sl) (b : Nat) : Prop := b = p ∨ (Value.slice A 0 0).ownBlock = some b ∨ blks rows b
theorem HeldIn.start (w : World) : HeldIn (w.alloc (.cells #[.slice none 0 0] 63)) w.heap.size [] none 0 :=
  ⟨Whole.made w _ _, World.ownsRow_nil _ _ _ _, ⟨fun k r hr => by simp at hr, fun j k r q b hr => by simp at hr⟩, fun ⟨k, r, hr, _⟩ => by simp at hr, fun _ => ⟨rfl, rfl⟩, fun k r hr => by simp at hr⟩
theorem HeldIn.calm {S : Nat → Prop} {w w' : World} {p c : Nat} {rows : List Sl} {A : Option Addr} (h : HeldIn w p rows A c) (hk : Keeps S w w') (hS : ∀ b, HeldIn.foot p A rows b → ¬ S b) : HeldIn w' p rows A c :=
  ⟨h.hW.keeps hk (hS p (.inl rfl)), own_keepsS h.hO hk (fun b hb => hS b (.inr (.inl (by rw [own_any A 0 rows.length 0 c]; exact hb)))), h.hR.keeps hk (fun k r b hr hb => hS b (.inr (.inr ⟨k, r, hr, hb⟩))), h.far, h.h0, h.ln⟩
theorem HeldIn.add {w w' : World} {p c c' : Nat} {rows : List Sl} {A A' : Option Addr} {r : Sl} {xs : List Value} (h : HeldIn w p rows A c) (hr : w.ownsRow 0 3 1 r.val r.len xs) (hl : r.len ≤ 1000000000) (hd : ∀ b, r.blk = some b → ¬ blks rows b ∧ b ≠ p)
    (hW : Whole w' p 63 ((#[.slice A rows.length c] : Array Value).setIfInBounds 0 (.slice A' (rows.length + 1) c'))) (hO : w'.ownsRow (p + 1) 44 1 (.slice A' (rows.length + 1) c') (rows.length + 1) (vals rows ++ [r.val]))
    (hK : Keeps (fun b => b = p ∨ (Value.slice A rows.length c).ownBlock = some b) w w') : HeldIn w' p (rows ++ [r]) A' c' := by
  have hlen : (rows ++ [r]).length = rows.length + 1 := by simp
  have hv : vals (rows ++ [r]) = vals rows ++ [r.val] := by simp [vals]
  have hne : (3 : TypeId) ≠ 44 := by decide
  have hR1 : SlRows 3 1 rows w' := h.hR.keeps hK fun k q b hq hb hs => by
    rcases hs with hs | hs
    · exact h.far ⟨k, q, hq, hs ▸ hb⟩
    · obtain ⟨ys, hy⟩ := h.hR.own k q hq
      exact other_kind hy h.hO hne hb hs
  have hr1 : w'.ownsRow 0 3 1 r.val r.len xs := own_keepsS hr hK fun b hb hs => by
    rcases hs with hs | hs
    · exact (hd b hb).2 hs
    · exact other_kind hr h.hO hne hb hs
  have hget : ∀ (k : Nat) (q : Sl), (rows ++ [r])[k]? = some q → rows[k]? = some q ∨ (k = rows.length ∧ q = r) := fun k q hq => by
    rcases Nat.lt_or_ge k rows.length with hlt | hge
    · rw [List.getElem?_append_left hlt] at hq; exact .inl hq
    · rw [List.getElem?_append_right hge] at hq
      have h0 : k - rows.length = 0 := by
        rcases Nat.eq_zero_or_pos (k - rows.length) with h0 | h0
        · exact h0
        · rw [List.getElem?_eq_none (by simp; omega)] at hq; cases hq
      rw [h0] at hq
      injection hq with hq
      exact .inr ⟨by omega, hq.symm⟩
  refine ⟨?_, ?_, ⟨fun k q hq => ?_, fun j k q1 q2 b h1 h2 hb1 hb2 => ?_⟩, ?_, fun h => by simp at h, fun k q hq => ?_⟩
  · rw [hlen]; exact hW
  · rw [hlen, hv]; exact hO
  · rcases hget k q hq with h1 | ⟨_, rfl⟩
    · exact hR1.own k q h1
    · exact ⟨xs, hr1⟩
  · rcases hget j q1 h1 with h3 | ⟨h3, rfl⟩
    · rcases hget k q2 h2 with h4 | ⟨h4, rfl⟩
      · exact hR1.apart j k q1 q2 b h3 h4 hb1 hb2
      · exact ((hd b hb2).1 ⟨j, q1, h3, hb1⟩).elim
    · rcases hget k q2 h2 with h4 | ⟨h4, _⟩
      · exact ((hd b hb1).1 ⟨k, q2, h4, hb2⟩).elim
      · omega
  · rintro ⟨k, q, hq, hb⟩
    rcases hget k q hq with h1 | ⟨_, rfl⟩
    · exact h.far ⟨k, q, h1, hb⟩
    · exact (hd p hb).2 rfl
  · rcases hget k q hq with h1 | ⟨_, rfl⟩
    · exact h.ln k q h1
    · exact hl
theorem HeldIn.lt {w : World} {p c : Nat} {rows : List Sl} {A : Option Addr} (h : HeldIn w p rows A c) {b : Nat} (hb : HeldIn.foot p A rows b) : b < w.heap.size := by
  rcases hb with rfl | hb | hb
  · exact h.hW.inside
  · exact (h.hO.lt b (by rw [own_any A rows.length 0 c 0]; exact hb)).2
  · exact blks_lt h.hR hb
theorem PairS.lt {w : World} {sp rp : Nat} {A D U : Option Addr} {c cd cu : Nat} {l : List Int} {n : Nat} {most : Int} (h : PairS w sp rp A c l n most D cd U cu) {b : Nat} (hb : PairS.foot sp rp A D U b) : b < w.heap.size := by
  rcases hb with rfl | rfl | hb | hb | hb
  · exact h.st.box.inside
  · exact h.re.box.inside
  · exact (h.st.own.lt b (by rw [own_any A l.length 0 c 0]; exact hb)).2
  · exact (h.re.done.lt b (by rw [own_any D (l.take n).length 0 cd 0]; exact hb)).2
  · exact (h.re.undone.lt b (by rw [own_any U (l.drop n).reverse.length 0 cu 0]; exact hb)).2
/-- One list more is held: all of it. -/
theorem HeldIn.more {w w' : World} {p c c' : Nat} {rows : List Sl} {A A' : Option Addr} {w0 : World} {r : Sl} {xs : List Value} (h : HeldIn w p rows A c) (hr : w.ownsRow w0.heap.size 3 1 r.val r.len xs) (hl : r.len ≤ 1000000000) (hw0 : ∀ b, HeldIn.foot p A rows b → b < w0.heap.size)
    (hW : Whole w' p 63 ((#[.slice A rows.length c] : Array Value).setIfInBounds 0 (.slice A' (rows.length + 1) c'))) (hO : w'.ownsRow (p + 1) 44 1 (.slice A' (rows.length + 1) c') (rows.length + 1) (vals rows ++ [r.val]))
    (hK : Keeps (fun b => b = p ∨ (Value.slice A rows.length c).ownBlock = some b) w w') : HeldIn w' p (rows ++ [r]) A' c' :=
  h.add (own_base hr (fun _ _ => Nat.zero_le _)) hl (fun b hb => by
    have h1 := (hr.lt b hb).1
    refine ⟨fun h2 => ?_, fun h2 => ?_⟩
    · have := hw0 b (.inr (.inr h2)); omega
    · have := hw0 b (.inl h2); omega) hW hO hK
theorem blks_snoc {rows : List Sl} {r : Sl} {b : Nat} (h : blks (rows ++ [r]) b) : blks rows b ∨ r.blk = some b := by
  obtain ⟨k, q, hq, hb⟩ := h
  rcases Nat.lt_or_ge k rows.length with hlt | hge
  · rw [List.getElem?_append_left hlt] at hq; exact .inl ⟨k, q, hq, hb⟩
  · rw [List.getElem?_append_right hge] at hq
    have h0 : k - rows.length = 0 := by
      rcases Nat.eq_zero_or_pos (k - rows.length) with h0 | h0
      · exact h0
      · rw [List.getElem?_eq_none (by simp; omega)] at hq; cases hq
    rw [h0] at hq
    injection hq with hq
    exact .inr (by rw [hq]; exact hb)
end Go.Proofs.Ytbfhbekocgdceaa
