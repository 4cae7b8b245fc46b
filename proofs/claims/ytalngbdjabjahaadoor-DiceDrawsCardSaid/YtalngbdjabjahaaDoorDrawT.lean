/-
  DiceDraws: so many numbers out of All: the walk. Conditions: at most a thousand.
-/
import Derived.Test.YtalngbdjabjahaaDoorTurnB
import Derived.Test.YtalngbdjabjahaaDoorDrawB
namespace Go.Proofs.YtalngbdjabjahaaDoor
open Go.RowKit Go.Shelf
attribute [local go_sem] Oper.semAt_some
theorem all_any (p : Option Addr) (w : World) :
    Calls Tryd.prog 56 #[.pointer p] w fun e w' => e = .returned (.func (.func 58) #[] #[.pointer (some ⟨w.heap.size, 0, none⟩)]) ∧ w.alloc (.cells #[.pointer p] 63) = w' := by
  have hmf : ∀ (fn : Fn) (first cap : Array Value) (w : World), (Instr.makeFunc fn first cap).run Tryd.prog w = .ok (.func fn first cap) w := fun _ _ _ _ => rfl
  go_enter Tryd.func56, Tryd.ntmps56
  go_wp2_with fail
  go_ret
  exact ⟨rfl, rfl⟩
theorem all_not_nil (w : World) (v : Value) : (binOp .eql 137 (.func (.func 58) #[] #[v]) .nilFunc).run Tryd.prog w = .ok (.bool false) w := by kernel_rfl
theorem info_u64E : ∃ i, Tryd.prog.info? 61 = some i ∧ i.zero = some (.int .u64 0) ∧ i.size = 1 ∧ i.bytes = 8 := by
  obtain ⟨i, h1, h2⟩ := Option.map_eq_some_iff.1 info_u64
  simp only [Prod.mk.injEq] at h2
  exact ⟨i, h1, h2.1, h2.2.1, h2.2.2⟩
theorem heap_in {W : World} {i : Nat} {o : Obj} (h : W.heap[i]? = some o) : i < W.heap.size := (Array.getElem?_eq_some_iff.1 h).1
theorem Keeps.putObj {S : Nat → Prop} {a w : World} (h : Keeps S a w) (l : Nat) (o : Obj) (hp : l < a.heap.size → S l) : Keeps S a (w.putObj l o) :=
  h.grown (grownBy_putObj' w l o) (fun k e => by cases e; exact hp)
/-- What stands while the numbers are taken: k of them, the dice at the j-th place. -/
structure Tk (w : World) (nb lb cb D g n : Nat) (o : Obj) (z0 k j : Nat) (W : World) : Prop where
  order : w.heap.size ≤ nb ∧ nb < lb ∧ lb < cb ∧ cb < D ∧ g < w.heap.size ∧ D + 2 ≤ W.heap.size
  nbox : Whole W nb 3 #[.int .i64 n]
  lbox : ∃ A c, Whole W lb 88 #[.slice A k c] ∧ W.ownsRow (D + 2) 61 1 (.slice A k c) k ((drawsOf z0 k).map (Value.int .u64))
  cbox : Whole W cb 63 #[.pointer (some ⟨g, 0, none⟩)]
  dice : DiceAt W g (placeN j z0)
  record : W.heap[D + 1]? = some o
  mark : W.heap[D]? = some (.deferred (some []))
  keep : Keeps (fun b => b = g) w W
section
variable {w W W' : World} {nb lb cb D g n z0 k j : Nat} {o : Obj}
theorem Tk.next {z : Nat} (t : Tk w nb lb cb D g n o z0 k k W) (hz : z = placeN k z0) (hd : DiceAt W' g (adv z)) (hk : Keeps (fun b => b = g) W W') : Tk w nb lb cb D g n o z0 k (k + 1) W' := by
  have ho := t.order
  obtain ⟨A, c, h1, h2⟩ := t.lbox
  refine ⟨⟨by omega, by omega, by omega, by omega, by omega, Nat.le_trans ho.2.2.2.2.2 hk.size⟩, t.nbox.keeps hk (by omega), ⟨A, c, h1.keeps hk (by omega), own_keepsS h2 hk (fun b hb e => by have := (h2.lt b hb).1; omega)⟩, t.cbox.keeps hk (by omega), ?_, (hk.block _ (heap_in t.record) (by omega)).trans t.record, (hk.block _ (heap_in t.mark) (by omega)).trans t.mark, t.keep.trans hk⟩
  rw [placeN_succ, ← hz]; exact hd
theorem Tk.turn (t : Tk w nb lb cb D g n o z0 k j W) (o' : Obj) : Tk w nb lb cb D g n o' z0 k j (W.putObj (D + 1) o') := by
  have ho := t.order
  obtain ⟨A, c, h1, h2⟩ := t.lbox
  have hk : Keeps (fun b => b = D + 1) W (W.putObj (D + 1) o') := (Keeps.refl _ W).putObj _ o' (fun _ => rfl)
  refine ⟨⟨by omega, by omega, by omega, by omega, by omega, Nat.le_trans ho.2.2.2.2.2 hk.size⟩, t.nbox.keeps hk (by omega), ⟨A, c, h1.keeps hk (by omega), own_keepsS h2 hk (fun b hb e => by have := (h2.lt b hb).1; omega)⟩, t.cbox.keeps hk (by omega), t.dice.keeps hk (by omega), World.putObj_heap_same (heap_in t.record), (hk.block _ (heap_in t.mark) (by omega)).trans t.mark, t.keep.and hk (fun b hb e => by omega)⟩
theorem Tk.push {A' : Option Addr} {c' c : Nat} {A : Option Addr} {W1 : World} {ob : Obj} (t : Tk w nb lb cb D g n o z0 k (k + 1) W) (hO : W.ownsRow (D + 2) 61 1 (.slice A k c) k ((drawsOf z0 k).map (Value.int .u64))) (hown : W1.ownsRow (D + 2) 61 1 (.slice A' (k + 1) c') (k + 1) ((drawsOf z0 k).map (Value.int .u64) ++ [.int .u64 ((mix (adv (placeN k z0)) : Nat) : Int)]))
    (hgrow : (W.alloc ob).grownBy W1 (Value.slice A k c).ownBlock) : Tk w nb lb cb D g n o z0 (k + 1) (k + 1) (W1.setCell ⟨lb, 0, none⟩ (.slice A' (k + 1) c')) ∧ W1.cell? ⟨lb, 0, none⟩ = W.cell? ⟨lb, 0, none⟩ ∧ W1.frozen? ⟨lb, 0, none⟩ = false ∧ (W1.setCell ⟨lb, 0, none⟩ (.slice A' (k + 1) c')).cell? ⟨lb, 0, none⟩ = some (.slice A' (k + 1) c') ∧ (W1.setCell ⟨lb, 0, none⟩ (.slice A' (k + 1) c')).cell? ⟨nb, 0, none⟩ = some (.int .i64 n) := by
  have ho := t.order
  have hk1 : Keeps (fun b => D + 2 ≤ b) W W1 := ((Keeps.refl _ W).alloc _).grown hgrow (fun b hb _ => (hO.lt b hb).1)
  have hk2 : Keeps (fun b => b = lb) W1 (W1.setCell ⟨lb, 0, none⟩ (.slice A' (k + 1) c')) := (Keeps.refl (fun b => b = lb) W1).setCell (p := ⟨lb, 0, none⟩) (fun _ => rfl) _
  have hk : Keeps (fun b => b = lb ∨ D + 2 ≤ b) W (W1.setCell ⟨lb, 0, none⟩ (.slice A' (k + 1) c')) := (hk1.mono (T := fun b => b = lb ∨ D + 2 ≤ b) (fun b _ h => .inr h)).setCell (p := ⟨lb, 0, none⟩) (fun _ => .inl rfl) _
  obtain ⟨A0, c0, hw0, _⟩ := t.lbox
  have hw1 : Whole W1 lb 88 #[.slice A0 k c0] := hw0.keeps hk1 (by omega)
  rw [draws_map] at hown
  refine ⟨⟨⟨by omega, by omega, by omega, by omega, by omega, Nat.le_trans ho.2.2.2.2.2 hk.size⟩, t.nbox.keeps hk (by omega), ⟨A', c', hw1.put 0 _, own_keepsS hown hk2 (fun b hb e => by have := (hown.lt b hb).1; omega)⟩, t.cbox.keeps hk (by omega), t.dice.keeps hk (by omega), (hk.block _ (heap_in t.record) (by omega)).trans t.record, (hk.block _ (heap_in t.mark) (by omega)).trans t.mark, t.keep.and hk (fun b hb e => by omega)⟩, ?_, hw1.free 0, (hw1.put 0 _).cellAt 0, (t.nbox.keeps hk (by omega)).cellAt 0⟩
  exact hk1.cell (heap_in hw0) (by omega)
end
end Go.Proofs.YtalngbdjabjahaaDoor
