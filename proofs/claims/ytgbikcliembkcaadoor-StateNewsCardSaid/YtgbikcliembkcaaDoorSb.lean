/-
  The law StateBegins: the walk. Conditions: lengths within 10 ^ 15.
-/
import Derived.Test.YtgbikcliembkcaaDoorBeginP
import Derived.Test.YtgbikcliembkcaaDoorStMc
import Derived.Test.YtgbikcliembkcaaDoorStMd
import Derived.Test.YtgbikcliembkcaaDoorWk
namespace Go.Proofs.YtgbikcliembkcaaDoor
open Go.RowKit
theorem info_deck : (Tryd.prog.info? 26).map (fun i => (i.zero, i.size, i.bytes)) = some (some (.slice none 0 0), 1, 24) := by kernel_rfl
theorem three {w : World} {g : Nat} {t : TypeId} {a b c : Value} (H : Whole w g t #[a, b, c]) : w.cell? ⟨g, 0, none⟩ = some a ∧ w.cell? ⟨g, 1, none⟩ = some b ∧ w.cell? ⟨g, 2, none⟩ = some c ∧ w.frozen? ⟨g, 0, none⟩ = false ∧ w.frozen? ⟨g, 1, none⟩ = false ∧ w.frozen? ⟨g, 2, none⟩ = false := ⟨H.cellAt 0, H.cellAt 1, H.cellAt 2, H.free 0, H.free 1, H.free 2⟩
/-- A deal that came in, in its box. -/
structure DealAt (w wr : World) (decks : List (List Cd)) (A : Option Addr) (cap : Nat) (life energy : Int) : Prop where
  keeps : Keeps (fun _ => False) w wr
  box : Whole wr w.heap.size 24 #[.slice A decks.length cap, .int .i32 life, .int .i32 energy]
  src : DecksLie wr w.heap.size A decks
theorem DealAt.calm {w wr w' : World} {decks : List (List Cd)} {A : Option Addr} {cap : Nat} {life energy : Int} (h : DealAt w wr decks A cap life energy) (hk : Keeps (fun _ => False) wr w') : DealAt w w' decks A cap life energy :=
  ⟨h.keeps.trans hk, h.box.keeps hk id, h.src.keeps hk (fun _ _ => id) h.keeps.size⟩
/-- And the answer of New in its box. -/
structure BegAt (w wr : World) (decks : List (List Cd)) (A : Option Addr) (cap : Nat) (life energy : Int) (Ap Ac Az : Option Addr) (cp cc cz gs n : Nat) : Prop where
  deal : DealAt w wr decks A cap life energy
  sbox : Whole wr gs 32 #[.slice Ap decks.length cp, .slice Ac n cc, .slice Az (4 * decks.length) cz, .int .i32 1, .int .i64 0, .int .i8 0, .int .i64 0]
  lies : StIn wr wr.heap.size (newS decks life energy) Ap Ac Az
theorem BegAt.calm {w wr w' : World} {decks : List (List Cd)} {A : Option Addr} {cap : Nat} {life energy : Int} {Ap Ac Az : Option Addr} {cp cc cz gs n : Nat} (h : BegAt w wr decks A cap life energy Ap Ac Az cp cc cz gs n) (hk : Keeps (fun _ => False) wr w') : BegAt w w' decks A cap life energy Ap Ac Az cp cc cz gs n :=
  ⟨h.deal.calm hk, h.sbox.keeps hk id, h.lies.past hk⟩
/-- Lengths that a machine bears. -/
structure DealBig (decks : List (List Cd)) : Prop where
  size : decks.length ≤ 1000000000000000
  rows : ∀ d ∈ decks, d.length ≤ 1000000000000000
theorem flat_sum (decks : List (List Cd)) : (decks.map List.length).sum = decks.flatten.length := by rw [List.length_flatten]
theorem new_small {decks : List (List Cd)} {life energy : Int} (h : newOk decks life energy = true) : StSmall (newS decks life energy) := by
  have hm := begins_may h
  have hh := (head_iff _).1 hm.head
  refine ⟨by omega, by omega, by omega, fun r hr => ?_⟩
  obtain ⟨z, hz⟩ := List.mem_iff_getElem?.1 hr
  have := hm.full
  have h2 : r.length ≤ (newS decks life energy).zones.flatten.length := by
    conv => rhs; rw [split_at hz]
    simp only [List.flatten_append, List.flatten_cons, List.length_append]; omega
  omega
end Go.Proofs.YtgbikcliembkcaaDoor
