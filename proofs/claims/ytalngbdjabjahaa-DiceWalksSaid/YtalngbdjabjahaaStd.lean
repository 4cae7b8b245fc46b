/-
  What stands while the law DiceWalks goes: its boxes and the two dice. Conditions: none.
-/
import Derived.Test.YtalngbdjabjahaaTurnA
namespace Go.Proofs.Ytalngbdjabjahaa
open Go.RowKit
theorem Keeps.putObj {S : Nat → Prop} {a w : World} (h : Keeps S a w) (l : Nat) (o : Obj) (hp : l < a.heap.size → S l) : Keeps S a (w.putObj l o) :=
  h.grown (grownBy_putObj' w l o) (fun k e => by cases e; exact hp)
structure Std (w : World) (fb sb rb db eb g h f1 f2 zg zh : Nat) (W : World) : Prop where
  order : w.heap.size ≤ fb ∧ fb < sb ∧ sb < rb ∧ rb < g ∧ g < db ∧ db < h ∧ h < eb
  first : Whole W fb 3 #[.int .i64 f1]
  second : Whole W sb 3 #[.int .i64 f2]
  result : Whole W rb 4 #[.bool false]
  dbox : Whole W db 39 #[.pointer (some ⟨g, 0, none⟩)]
  ebox : Whole W eb 39 #[.pointer (some ⟨h, 0, none⟩)]
  dice : DiceAt W g zg
  other : DiceAt W h zh
  below : Below w.heap.size w W
variable {w : World} {fb sb rb db eb g h f1 f2 zg zh : Nat} {W W' : World}
theorem Std.keeps {S : Nat → Prop} (s : Std w fb sb rb db eb g h f1 f2 zg zh W) (hk : Keeps S W W') (hS : ∀ k, S k → eb < k) : Std w fb sb rb db eb g h f1 f2 zg zh W' := by
  have ho := s.order
  exact ⟨ho, s.first.keeps hk (fun e => by have := hS _ e; omega), s.second.keeps hk (fun e => by have := hS _ e; omega), s.result.keeps hk (fun e => by have := hS _ e; omega),
    s.dbox.keeps hk (fun e => by have := hS _ e; omega), s.ebox.keeps hk (fun e => by have := hS _ e; omega),
    s.dice.keeps hk (fun e => by have := hS _ e; omega), s.other.keeps hk (fun e => by have := hS _ e; omega), s.below.trans (hk.below s.below.size (fun k e => by have := hS _ e; omega))⟩
theorem Std.nextg {z : Nat} (s : Std w fb sb rb db eb g h f1 f2 zg zh W) (hd : DiceAt W' g z) (hk : Keeps (fun b => b = g) W W') : Std w fb sb rb db eb g h f1 f2 z zh W' := by
  have ho := s.order
  exact ⟨ho, s.first.keeps hk (fun e => by omega), s.second.keeps hk (fun e => by omega), s.result.keeps hk (fun e => by omega), s.dbox.keeps hk (fun e => by omega), s.ebox.keeps hk (fun e => by omega),
    hd, s.other.keeps hk (fun e => by omega), s.below.trans (hk.below s.below.size (fun k e => by omega))⟩
theorem Std.nexth {z : Nat} (s : Std w fb sb rb db eb g h f1 f2 zg zh W) (hd : DiceAt W' h z) (hk : Keeps (fun b => b = h) W W') : Std w fb sb rb db eb g h f1 f2 zg z W' := by
  have ho := s.order
  exact ⟨ho, s.first.keeps hk (fun e => by omega), s.second.keeps hk (fun e => by omega), s.result.keeps hk (fun e => by omega), s.dbox.keeps hk (fun e => by omega), s.ebox.keeps hk (fun e => by omega),
    s.dice.keeps hk (fun e => by omega), hd, s.below.trans (hk.below s.below.size (fun k e => by omega))⟩
theorem Std.dcell (s : Std w fb sb rb db eb g h f1 f2 zg zh W) : W.cell? ⟨db, 0, none⟩ = some (.pointer (some ⟨g, 0, none⟩)) := s.dbox.cellAt 0
theorem Std.ecell (s : Std w fb sb rb db eb g h f1 f2 zg zh W) : W.cell? ⟨eb, 0, none⟩ = some (.pointer (some ⟨h, 0, none⟩)) := s.ebox.cellAt 0
theorem Std.fcell (s : Std w fb sb rb db eb g h f1 f2 zg zh W) : W.cell? ⟨fb, 0, none⟩ = some (.int .i64 f1) := s.first.cellAt 0
theorem Std.scell (s : Std w fb sb rb db eb g h f1 f2 zg zh W) : W.cell? ⟨sb, 0, none⟩ = some (.int .i64 f2) := s.second.cellAt 0
theorem Std.rcell (s : Std w fb sb rb db eb g h f1 f2 zg zh W) : W.cell? ⟨rb, 0, none⟩ = some (.bool false) := s.result.cellAt 0
theorem Std.rfree (s : Std w fb sb rb db eb g h f1 f2 zg zh W) : W.frozen? ⟨rb, 0, none⟩ = false := s.result.free 0
theorem Std.size (s : Std w fb sb rb db eb g h f1 f2 zg zh W) : eb < W.heap.size := s.ebox.inside
structure Book (w : World) (fb sb rb db eb g h f1 f2 cb kb D M L : Nat) (o : Obj) (k zg zh : Nat) (W : World) : Prop where
  std : Std w fb sb rb db eb g h f1 f2 zg zh W
  lie : eb < cb ∧ eb < kb ∧ eb < D ∧ eb < M ∧ cb < L ∧ kb < L ∧ D < L ∧ M < L ∧ cb ≠ kb ∧ D ≠ kb ∧ D ≠ cb ∧ M ≠ kb ∧ M ≠ cb
  cbox : Whole W cb 39 #[.pointer (some ⟨g, 0, none⟩)]
  kbox : Whole W kb 3 #[.int .i64 k]
  record : W.heap[L]? = some o
  later : W.heap[D]? = some (.deferred (some []))
  mark : W.heap[M]? = some (.deferred (some []))
variable {cb kb D M L k : Nat} {o : Obj}
theorem heap_in {W : World} {i : Nat} {o : Obj} (h : W.heap[i]? = some o) : i < W.heap.size := (Array.getElem?_eq_some_iff.1 h).1
theorem Book.size (s : Book w fb sb rb db eb g h f1 f2 cb kb D M L o k zg zh W) : L < W.heap.size := heap_in s.record
theorem Book.keeps {S : Nat → Prop} (s : Book w fb sb rb db eb g h f1 f2 cb kb D M L o k zg zh W) (hk : Keeps S W W') (hS : ∀ k, S k → L < k) : Book w fb sb rb db eb g h f1 f2 cb kb D M L o k zg zh W' := by
  have ho := s.lie
  exact ⟨s.std.keeps hk (fun k e => by have := hS k e; omega), ho, s.cbox.keeps hk (fun e => by have := hS _ e; omega), s.kbox.keeps hk (fun e => by have := hS _ e; omega),
    (hk.block L (heap_in s.record) (fun e => by have := hS _ e; omega)).trans s.record, (hk.block D (heap_in s.later) (fun e => by have := hS _ e; omega)).trans s.later, (hk.block M (heap_in s.mark) (fun e => by have := hS _ e; omega)).trans s.mark⟩
theorem Book.nextg {z : Nat} (s : Book w fb sb rb db eb g h f1 f2 cb kb D M L o k zg zh W) (hd : DiceAt W' g z) (hk : Keeps (fun b => b = g) W W') : Book w fb sb rb db eb g h f1 f2 cb kb D M L o k z zh W' := by
  have ho := s.lie
  have ho' := s.std.order
  exact ⟨s.std.nextg hd hk, ho, s.cbox.keeps hk (fun e => by omega), s.kbox.keeps hk (fun e => by omega),
    (hk.block L (heap_in s.record) (fun e => by omega)).trans s.record, (hk.block D (heap_in s.later) (fun e => by omega)).trans s.later, (hk.block M (heap_in s.mark) (fun e => by omega)).trans s.mark⟩
theorem Book.nexth {z : Nat} (s : Book w fb sb rb db eb g h f1 f2 cb kb D M L o k zg zh W) (hd : DiceAt W' h z) (hk : Keeps (fun b => b = h) W W') : Book w fb sb rb db eb g h f1 f2 cb kb D M L o k zg z W' := by
  have ho := s.lie
  have ho' := s.std.order
  exact ⟨s.std.nexth hd hk, ho, s.cbox.keeps hk (fun e => by omega), s.kbox.keeps hk (fun e => by omega),
    (hk.block L (heap_in s.record) (fun e => by omega)).trans s.record, (hk.block D (heap_in s.later) (fun e => by omega)).trans s.later, (hk.block M (heap_in s.mark) (fun e => by omega)).trans s.mark⟩
theorem Book.turn (s : Book w fb sb rb db eb g h f1 f2 cb kb D M L o k zg zh W) (o' : Obj) : Book w fb sb rb db eb g h f1 f2 cb kb D M L o' k zg zh (W.putObj L o') := by
  have ho := s.lie
  have hk : Keeps (fun b => b = L) W (W.putObj L o') := (Keeps.refl _ W).putObj L o' (fun _ => rfl)
  exact ⟨s.std.keeps hk (fun k e => by omega), ho, s.cbox.keeps hk (fun e => by omega), s.kbox.keeps hk (fun e => by omega),
    World.putObj_heap_same (heap_in s.record), (hk.block D (heap_in s.later) (fun e => by omega)).trans s.later, (hk.block M (heap_in s.mark) (fun e => by omega)).trans s.mark⟩
theorem Book.count (s : Book w fb sb rb db eb g h f1 f2 cb kb D M L o k zg zh W) (m : Nat) (i : Int) (hi : i = (m : Int)) : Book w fb sb rb db eb g h f1 f2 cb kb D M L o m zg zh (W.setCell ⟨kb, 0, none⟩ (.int .i64 i)) := by
  subst hi
  have ho := s.lie
  have hk : Keeps (fun b => b = kb) W (W.setCell ⟨kb, 0, none⟩ (.int .i64 m)) := (Keeps.refl (fun b => b = kb) W).setCell (fun _ => rfl) _
  exact ⟨s.std.keeps hk (fun k e => by omega), ho, s.cbox.keeps hk (fun e => by omega), s.kbox.put 0 _,
    (hk.block L (heap_in s.record) (fun e => by omega)).trans s.record, (hk.block D (heap_in s.later) (fun e => by omega)).trans s.later, (hk.block M (heap_in s.mark) (fun e => by omega)).trans s.mark⟩
theorem Book.kcell (s : Book w fb sb rb db eb g h f1 f2 cb kb D M L o k zg zh W) : W.cell? ⟨kb, 0, none⟩ = some (.int .i64 k) := s.kbox.cellAt 0
theorem Book.kfree (s : Book w fb sb rb db eb g h f1 f2 cb kb D M L o k zg zh W) : W.frozen? ⟨kb, 0, none⟩ = false := s.kbox.free 0
end Go.Proofs.Ytalngbdjabjahaa
