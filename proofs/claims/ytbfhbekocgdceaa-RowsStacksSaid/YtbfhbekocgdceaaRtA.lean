/-
  RowsStacks: the two stacks of one bound, side by side in memory. Conditions: none.
-/
import Derived.Test.YtbfhbekocgdceaaSkJ
import Derived.Test.YtbfhbekocgdceaaSmI
import Derived.Test.YtbfhbekocgdceaaSv
namespace Go.Proofs.Ytbfhbekocgdceaa
open Go.RowKit
/-- The program's stack and the reference's, of one content. -/
structure PairS (w : World) (sp rp : Nat) (A : Option Addr) (c : Nat) (l : List Int) (n : Nat) (most : Int) (D : Option Addr) (cd : Nat) (U : Option Addr) (cu : Nat) : Prop where
  st : StackI w sp A c l n most
  re : RefS w rp most D cd (l.take n) U cu (l.drop n).reverse
  ne : sp ≠ rp
  own : ∀ b, (Value.slice A l.length c).ownBlock = some b → ¬ b = rp ∧ ¬ (Value.slice D (l.take n).length cd).ownBlock = some b ∧ ¬ (Value.slice U (l.drop n).reverse.length cu).ownBlock = some b
  dn : ∀ b, (Value.slice D (l.take n).length cd).ownBlock = some b → ¬ b = sp
  un : ∀ b, (Value.slice U (l.drop n).reverse.length cu).ownBlock = some b → ¬ b = sp
/-- The blocks of the two. -/
def PairS.foot (sp rp : Nat) (A D U : Option Addr) (b : Nat) : Prop := b = sp ∨ b = rp ∨ (Value.slice A 0 0).ownBlock = some b ∨ (Value.slice D 0 0).ownBlock = some b ∨ (Value.slice U 0 0).ownBlock = some b
theorem own_any (A : Option Addr) (n n' c c' : Nat) : (Value.slice A n c).ownBlock = (Value.slice A n' c').ownBlock := by
  cases A <;> rfl
theorem PairS.calm {w w' : World} {sp rp : Nat} {A D U : Option Addr} {c cd cu : Nat} {l : List Int} {n : Nat} {most : Int} {S : Nat → Prop} (h : PairS w sp rp A c l n most D cd U cu) (hk : Keeps S w w') (hS : ∀ b, PairS.foot sp rp A D U b → ¬ S b) : PairS w' sp rp A c l n most D cd U cu :=
  ⟨h.st.calm hk (hS _ (.inl rfl)) (fun b hb => hS b (.inr (.inr (.inl (by rw [own_any A 0 l.length 0 c]; exact hb))))),
   h.re.calm hk (hS _ (.inr (.inl rfl))) (fun b hb => hS b (.inr (.inr (.inr (.inl (by rw [own_any D 0 (l.take n).length 0 cd]; exact hb)))))) (fun b hb => hS b (.inr (.inr (.inr (.inr (by rw [own_any U 0 (l.drop n).reverse.length 0 cu]; exact hb)))))),
   h.ne, h.own, h.dn, h.un⟩
/-- One more was done, by the two in turn. -/
theorem PairS.did {w w1 w2 : World} {sp rp : Nat} {A D U A1 D1 : Option Addr} {c cd cu c1 d1 : Nat} {l : List Int} {n : Nat} {most x : Int} (h : PairS w sp rp A c l n most D cd U cu)
    (h1 : StackI w1 sp A1 c1 (l.take n ++ [x]) (n + 1) most) (k1 : Keeps (fun b => b = sp ∨ (Value.slice A l.length c).ownBlock = some b) w w1) (loc : ∀ b, (Value.slice A1 (n + 1) c1).ownBlock = some b → (Value.slice A l.length c).ownBlock = some b ∨ w.heap.size ≤ b)
    (h2 : RefS w2 rp most D1 d1 (l.take n ++ [x]) none 0 []) (k2 : Keeps (fun b => b = rp) w1 w2) (new : ∀ b, (Value.slice D1 ((l.take n).length + 1) d1).ownBlock = some b → w1.heap.size ≤ b) :
    PairS w2 sp rp A1 c1 (l.take n ++ [x]) (n + 1) most D1 d1 none 0 := by
  have hle := h.st.le
  have hlen : (l.take n ++ [x]).length = n + 1 := by simp; omega
  have ht : (l.take n ++ [x]).take (n + 1) = l.take n ++ [x] := List.take_of_length_le (by omega)
  have hd : ((l.take n ++ [x]).drop (n + 1)).reverse = [] := by rw [List.drop_of_length_le (by omega)]; rfl
  have hsz := k1.size
  have hsp := h.st.box.inside
  have hrp := h.re.box.inside
  have hA1 : ∀ b, (Value.slice A1 (l.take n ++ [x]).length c1).ownBlock = some b → (¬ b = rp) ∧ b < w1.heap.size := fun b hb => by
    refine ⟨?_, (h1.own.lt b hb).2⟩
    rcases loc b (by rw [own_any A1 (n + 1) (l.take n ++ [x]).length c1 c1]; exact hb) with e | e
    · exact (h.own b e).1
    · omega
  have hD1 : ∀ b, (Value.slice D1 (l.take n ++ [x]).length d1).ownBlock = some b → w1.heap.size ≤ b := fun b hb => new b (by rw [own_any D1 _ (l.take n ++ [x]).length d1 d1]; exact hb)
  refine ⟨h1.calm k2 (fun e => h.ne e) (fun b hb => (hA1 b hb).1), by rw [ht, hd]; exact h2, h.ne, fun b hb => ⟨(hA1 b hb).1, fun e => ?_, fun e => ?_⟩, fun b hb => ?_, fun b hb => ?_⟩
  · rw [ht] at e
    have := hD1 b e
    have := (hA1 b hb).2
    omega
  · cases e
  · rw [ht] at hb
    have := hD1 b hb
    omega
  · cases hb
theorem take_snoc {l : List Int} {m : Nat} {x : Int} (hx : l[m]? = some x) : l.take (m + 1) = l.take m ++ [x] := by
  rw [List.take_add_one, hx]
  rfl
theorem drop_rev {l : List Int} {m : Nat} {x : Int} (hx : l[m]? = some x) : (l.drop m).reverse = (l.drop (m + 1)).reverse ++ [x] := by
  obtain ⟨h, rfl⟩ := List.getElem?_eq_some_iff.1 hx
  rw [List.drop_eq_getElem_cons h, List.reverse_cons]
/-- The place has moved, and the reference's two lists are new. -/
theorem PairS.moved {w w1 w2 : World} {sp rp : Nat} {A D U D1 U1 : Option Addr} {c cd cu d1 u1 : Nat} {l : List Int} {n n' : Nat} {most : Int} (h : PairS w sp rp A c l n most D cd U cu)
    (h1 : StackI w1 sp A c l n' most)
    (h2 : RefS w2 rp most D1 d1 (l.take n') U1 u1 (l.drop n').reverse) (k2 : Keeps (fun b => b = rp) w1 w2) (newD : ∀ b, (Value.slice D1 0 0).ownBlock = some b → w1.heap.size ≤ b) (newU : ∀ b, (Value.slice U1 0 0).ownBlock = some b → w1.heap.size ≤ b) :
    PairS w2 sp rp A c l n' most D1 d1 U1 u1 := by
  have hsp := h1.box.inside
  have hA : ∀ b, (Value.slice A l.length c).ownBlock = some b → b < w1.heap.size := fun b hb => (h1.own.lt b hb).2
  have hD1 : ∀ b, (Value.slice D1 (l.take n').length d1).ownBlock = some b → w1.heap.size ≤ b := fun b hb => newD b (by rw [own_any D1 _ (l.take n').length 0 d1]; exact hb)
  have hU1 : ∀ b, (Value.slice U1 (l.drop n').reverse.length u1).ownBlock = some b → w1.heap.size ≤ b := fun b hb => newU b (by rw [own_any U1 _ (l.drop n').reverse.length 0 u1]; exact hb)
  refine ⟨h1.calm k2 (fun e => h.ne e) (fun b hb => (h.own b hb).1), h2, h.ne, fun b hb => ⟨(h.own b hb).1, fun e => ?_, fun e => ?_⟩, fun b hb => ?_, fun b hb => ?_⟩
  · have := hD1 b e; have := hA b hb; omega
  · have := hU1 b e; have := hA b hb; omega
  · have := hD1 b hb; omega
  · have := hU1 b hb; omega
/-- The reference's stack stands as before, where the program's has moved on in its own blocks. -/
theorem PairS.ref {w w1 : World} {sp rp : Nat} {A D U : Option Addr} {c cd cu : Nat} {l : List Int} {n : Nat} {most : Int} (h : PairS w sp rp A c l n most D cd U cu) (k1 : Keeps (fun b => b = sp ∨ (Value.slice A l.length c).ownBlock = some b) w w1) : RefS w1 rp most D cd (l.take n) U cu (l.drop n).reverse :=
  h.re.calm k1 (fun e => by rcases e with e | e; exact h.ne e.symm; exact (h.own rp e).1 rfl) (fun b hb e => by rcases e with e | e; exact h.dn b hb e; exact (h.own b e).2.1 hb) (fun b hb e => by rcases e with e | e; exact h.un b hb e; exact (h.own b e).2.2 hb)
end Go.Proofs.Ytbfhbekocgdceaa
