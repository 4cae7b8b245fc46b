/-
  The law DiceNil: the walks. Conditions: none.
-/
import Derived.Test.YtalngbdjabjahaaDiceN
import Derived.RangeFuncNested
import Derived.RangeFuncBound
import Derived.RangeFuncCalls
import Derived.RangeFuncLeaves
import Derived.RangeFuncFrom
import Derived.OwnWalkIn
import Derived.Shelf.Abstract
import Derived.Shelf.RegionOpen
import Derived.TacticsInMore
import Derived.LoopNIn
import Derived.LoopIn
namespace Go.Proofs.Ytalngbdjabjahaa
open Go.RowKit Go.Shelf
attribute [local go_sem] Oper.semAt_some

set_option maxHeartbeats 1000000 in
/-- All of dice that nobody made: no round. -/
theorem all1_no (n : Nat) (hn : 2 ≤ n) (c : Nat) (p : Option Addr) (w : World) (hc : Whole w c 39 #[.pointer p]) (h : NoDice w p) :
    SeqStopsK Fence.wide n Try.prog 28 #[.pointer (some ⟨c, 0, none⟩)] (fun x : Int => #[.int .u64 x]) (Below 0) (fun xs => xs = []) (fun _ => False) 0 w := by
  intro l J Jx W hW hJ hJx hY h0
  have hcW := (hc.past hW).cellAt 0
  have hnW := h.keeps (keepsAll (S := fun _ => False) hW) (fun _ _ h => h)
  have HJ := Lib.hid h0; have HN := Lib.hid hnW
  clear hY hJ hJx h0 hnW hW hc h
  have hcW' : W.cell? ⟨c, 0, none⟩ = some (.pointer p) := hcW
  clear hcW
  refine callsIn_of_wp Try.func28 rfl trivial ?_ rfl
  simp only [Try.ntmps28, List.size_toArray, List.length_cons, List.length_nil, Nat.reduceAdd, Nat.reduceSub, Array.replicate_succ, Array.replicate_zero, List.push_toArray, List.append_toArray, List.nil_append, List.cons_append]
  gi_wp2_with fail
  gi_loopw [4] (fun _ wr => wr = W) (fun _ _ => 0)
  case atStart => rfl
  case round =>
    subst hrel
    gi_wp2_with fail
    refine ⟨trivial, fun _ => by omega, (callsIn_wide.2 (none_no p _ HN.out)).mono ?_⟩
    rintro e w' ⟨rfl, rfl⟩
    gi_wp2_with fail
    refine ⟨trivial, ?_⟩
    gi_wp2_with fail
    refine ⟨fun _ h => (by cases h), ?_⟩
    gi_wp2_with fail
    go_end0
    exact ⟨⟨_, rfl⟩, .inl ⟨[], rfl, HJ.out⟩⟩
theorem all_not_nil (w : World) (v : Value) : (binOp .eql 53 (.func (.func 28) #[] #[v]) .nilFunc).run Try.prog w = .ok (.bool false) w := by kernel_rfl
set_option maxRecDepth 100000 in
set_option maxHeartbeats 400000 in
theorem silent_any (p : Option Addr) (m : Int) (w : World) (h : NoDice w p) :
    Calls Try.prog 23 #[.pointer p, .int .i64 m] w fun e w' => e = .returned (.bool true) ∧ Below w.heap.size w w' := by
  refine (callsIn_wide (n := 9)).1 ?_
  refine callsIn_of_wp_marks Try.func23 rfl trivial ?_ rfl
  simp only [Try.ntmps23, List.size_toArray, List.length_cons, List.length_nil, Nat.reduceAdd, Nat.reduceSub, Array.replicate_succ, Array.replicate_zero, List.push_toArray, List.append_toArray, List.nil_append, List.cons_append]
  have H := Lib.hid h; clear h
  have hq := all_not_nil
  gi_wp2_with fail
  refine ⟨trivial, (callsIn_wide.2 (all_any p _)).mono ?_⟩
  rintro e w' ⟨rfl, rfl⟩
  gi_wp2_with fail
  have HW : Hid (NoDice ((w.alloc (.cells #[.bool false] 4)).alloc (.cells #[.pointer p] 39)) p) := Lib.hid (H.out.keeps (((Keeps.refl (fun _ => False) w).alloc _).alloc _) (fun _ _ h => h))
  have hB0 : Below w.heap.size w ((w.alloc (.cells #[.bool false] 4)).alloc (.cells #[.pointer p] 39)) := ((Below.refl _ w).alloc (Nat.le_refl _) _).alloc (by simp) _
  have hb : Whole ((w.alloc (.cells #[.bool false] 4)).alloc (.cells #[.pointer p] 39)) (w.heap.size + 1) 39 #[.pointer p] := by
    have := Whole.made (w.alloc (.cells #[.bool false] 4)) 39 #[.pointer p]
    simpa using this
  have hr : Whole ((w.alloc (.cells #[.bool false] 4)).alloc (.cells #[.pointer p] 39)) w.heap.size 4 #[.bool false] := (Whole.made w _ _).alloc _
  refine wpIn_rangeFunc_ownF rfl (by omega) (gf := 28) (lb := #[.pointer (some ⟨w.heap.size + 1, 0, none⟩)]) rfl trivial (enters_of Try.func28 (by kernel_rfl) rfl)
    (all1_no 8 (by omega) (w.heap.size + 1) p _ hb HW.out) belowK_t (belowK_b (Nat.zero_le _)) (Below.refl _ _) (fun _ => rfl)
    (fun pre W => (W.cell? ⟨w.heap.size, 0, none⟩ = some (.bool false) ∧ W.frozen? ⟨w.heap.size, 0, none⟩ = false) ∧ Below w.heap.size w W)
    (fun _ _ _ => False)
    (OwnFrom.and (Own.from (fun s A B row hs hg hr => ⟨cell_kept hs.1 hg hr, (frozen_kept hs.1 hg hr).trans hs.2⟩) _) (ownFrom_below (Nat.le_refl _) (by simp; omega)))
    (fun _ _ _ _ _ hs _ _ => hs)
    ⟨⟨hr.cellAt 0, hr.free 0⟩, hB0⟩
    (fun x => { tmps := #[.pointer p, .int .i64 m, undef, undef, .pointer (some ⟨w.heap.size, 0, none⟩), .func (.func 28) #[] #[.pointer (some ⟨w.heap.size + 1, 0, none⟩)], .pointer p, .func (.func 28) #[] #[.pointer (some ⟨w.heap.size + 1, 0, none⟩)], .func (.func 28) #[] #[.pointer (some ⟨w.heap.size + 1, 0, none⟩)], .bool false, .func (.func 28) #[] #[.pointer (some ⟨w.heap.size + 1, 0, none⟩)], .int .u64 x, undef, undef, undef, undef, undef, undef, undef, undef, undef, undef, undef, undef, undef, undef, undef, undef, undef, undef, undef, undef, undef, undef, undef, undef, undef], defers := [] }) ?assign ?body ?done ?stop
  case assign =>
    intro l x W K hK
    gi_wp2
    with_reducible exact hK
  case body =>
    rintro l pre x W _ h
    exact absurd h (Nat.not_lt_zero _)
  case stop =>
    rintro D c pre W _ h
    exact h.elim
  case done =>
    rintro D ys W hD rfl ⟨⟨hc, hf⟩, hB⟩ hK
    have HN := Lib.hid (H.out.keeps (keepsAll (S := fun _ => False) hB) (fun _ _ h => h))
    have hDW := (Array.getElem?_eq_some_iff.1 hK).1
    have hin : w.heap.size < W.heap.size := by simp at hD; omega
    have HB := Lib.hid hB
    have HKD := Lib.hid hK
    have HC := Lib.hid hc
    have HF := Lib.hid hf
    have hD' : w.heap.size ≤ D := by simp at hD; omega
    have hfl : (FloatKind.f64.format.order 0 0 == some .eq) = true := by decide +kernel
    clear hB hK hb hr hB0 hc hf hD HW hq
    gi_wp2_with fail
    refine ⟨trivial, (callsIn_wide.2 (next_no p _ HN.out)).mono ?_⟩
    rintro e w' ⟨rfl, rfl⟩
    gi_wp2_with fail
    refine ⟨trivial, (callsIn_wide.2 (below_no p m _ HN.out)).mono ?_⟩
    rintro e w' ⟨rfl, rfl⟩
    gi_wp2_with fail
    refine ⟨trivial, (callsIn_wide.2 (share_no p _ HN.out)).mono ?_⟩
    rintro e w' ⟨rfl, rfl⟩
    gi_wp2_with fail
    refine ⟨trivial, (callsIn_wide.2 (order_no p 7 _ HN.out)).mono ?_⟩
    rintro e W5 ⟨rfl, hk⟩
    have HN5 := Lib.hid (HN.out.keeps hk (fun _ _ h => h))
    have hc5 : W5.cell? ⟨w.heap.size, 0, none⟩ = some (.bool false) := (hk.cell hin (fun h => h)).trans HC.out
    have hf5 : W5.frozen? ⟨w.heap.size, 0, none⟩ = false := (World.frozen?_of_block (a := ⟨w.heap.size, 0, none⟩) (hk.block _ hin (fun h => h))).trans HF.out
    have HK5 := Lib.hid ((hk.block D hDW (fun h => h)).trans HKD.out)
    have HB5 := Lib.hid (HB.out.trans (hk.below HB.out.size (fun _ h => h.elim)))
    clear hk HN HKD HB HC HF
    gi_wp2_with fail
    refine ⟨trivial, (callsIn_wide.2 (next_no p _ HN5.out)).mono ?_⟩
    rintro e w' ⟨rfl, rfl⟩
    gi_wp2_with fail
    have hK' := (KeepsOthers.setCell W5 ⟨w.heap.size, 0, none⟩ (.bool true)).same D _ HK5.out rfl
    refine ⟨by simp, .inl ⟨_, _, rfl, run_takeDeferred hK', ?_⟩⟩
    have hc6 := cell_kept (World.cell?_setCell_same' W5 ⟨w.heap.size, 0, none⟩ (.bool true) (by rw [hc5]; rfl)) (grownBy_putObj' _ D (.deferred none)) (fun r e => by cases e; exact ⟨_, hK', rfl⟩)
    refine ⟨.bool true, ?_, rfl, (HB5.out.setCell (p := ⟨w.heap.size, 0, none⟩) (Nat.le_refl _) _).trans (belowK_b (w := w) (Nat.le_refl _) _ D _ _ hD' hK' rfl rfl)⟩
    simp [results, Try.f23, go_sem, hc6]
end Go.Proofs.Ytalngbdjabjahaa
