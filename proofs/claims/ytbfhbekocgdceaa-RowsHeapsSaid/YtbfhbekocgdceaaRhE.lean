/-
  rows.Heap of Thing: New, Len; nil heaps and such as nobody made: the walks. Conditions: none.
-/
import Derived.Test.YtbfhbekocgdceaaRhC
namespace Go.Proofs.Ytbfhbekocgdceaa
open Go.RowKit
theorem newHeapT_any (w : World) :
    Calls Try.prog 11 #[.func (.func 12) #[] #[]] w fun e w' => e = .returned (.pointer (some ⟨w.heap.size, 0, none⟩)) ∧ HeapT w' w.heap.size none 0 [] 0 ∧ Keeps (fun _ => False) w w' := by
  go_enter Try.func11, Try.ntmps11
  go_wp2_with fail
  go_ret
  exact ⟨rfl, ⟨Whole.made w _ _, World.ownsRow_nil _ _ _ _⟩, (Keeps.refl _ w).alloc _⟩
theorem hlenT_any (p c : Nat) (came : Int) (A : Option Addr) (l : List EnT) (w : World) (h : HeapT w p A c l came) :
    Calls Try.prog 16 #[.pointer (some ⟨p, 0, none⟩)] w fun e w' => e = .returned (.int .i64 l.length) ∧ w' = w := by
  obtain ⟨a0, a1, a2, f0, f1, f2⟩ := three h.box
  clear h
  go_enter Try.func16, Try.ntmps16
  go_wp2_with (first | (go_at_call 65; refine (hnoneT_any p _ a0).mono ?_; rintro e w' ⟨rfl, rfl⟩))
  go_ret
  exact ⟨rfl, rfl⟩
theorem hnoneT_nil (w : World) :
    Calls Try.prog 65 #[.pointer none] w fun e w' => e = .returned (.bool true) ∧ w' = w := by
  go_enter Try.func65, Try.ntmps65
  go_wp2_with fail
  go_ret
  exact ⟨rfl, rfl⟩
theorem nilfT (w : World) : (binOp .eql 31 .nilFunc .nilFunc).run Try.prog w = .ok (.bool true) w := by kernel_rfl
theorem hnoneT_plain (p : Nat) (w : World) (h0 : w.cell? ⟨p, 0, none⟩ = some .nilFunc) :
    Calls Try.prog 65 #[.pointer (some ⟨p, 0, none⟩)] w fun e w' => e = .returned (.bool true) ∧ w' = w := by
  have hq := fun w => nilfT w
  go_enter Try.func65, Try.ntmps65
  go_wp2_with fail
  go_ret
  exact ⟨rfl, rfl⟩
/-- A pointer to no heap that somebody made. -/
def Bare (w : World) (v : Value) : Prop := ∀ W, Keeps (fun _ => False) w W → Calls Try.prog 65 #[v] W fun e w' => e = .returned (.bool true) ∧ w' = W
theorem Bare.nil (w : World) : Bare w (.pointer none) := fun W _ => hnoneT_nil W
theorem Bare.plain {w : World} {p : Nat} {t : TypeId} {cs : Array Value} (h : Whole w p t cs) (h0 : cs[0]? = some .nilFunc) : Bare w (.pointer (some ⟨p, 0, none⟩)) := fun W hk => hnoneT_plain p W (by rw [(h.keeps hk id).cellAt, h0])
theorem Bare.calm {w w' : World} {v : Value} (h : Bare w v) (hk : Keeps (fun _ => False) w w') : Bare w' v := fun W hW => h W (hk.trans hW)
theorem hlenT_bare (v : Value) (w : World) (h : Bare w v) :
    Calls Try.prog 16 #[v] w fun e w' => e = .returned (.int .i64 0) ∧ w' = w := by
  have H := Lib.hid (h w (Keeps.refl _ _))
  clear h
  go_enter Try.func16, Try.ntmps16
  go_wp2_with (first | (go_at_call 65; refine (H.out).mono ?_; rintro e w' ⟨rfl, rfl⟩))
  go_ret
  exact ⟨rfl, rfl⟩
theorem hputT_bare (v u : Value) (w : World) (h : Bare w v) :
    Calls Try.prog 13 #[v, u] w fun e w' => e = .returned (.bool false) ∧ w' = w := by
  have H := Lib.hid (h w (Keeps.refl _ _))
  clear h
  go_enter Try.func13, Try.ntmps13
  go_wp2_with (first | (go_at_call 65; refine (H.out).mono ?_; rintro e w' ⟨rfl, rfl⟩))
  go_ret
  exact ⟨rfl, rfl⟩
set_option maxRecDepth 100000 in
set_option maxHeartbeats 1000000 in
theorem htakeT_bare (v : Value) (w : World) (h : Bare w v) :
    Calls Try.prog 14 #[v] w fun e w' => e = .returned (.tuple #[.agg #[.int .i64 0, .int .i64 0], .bool false]) ∧ Keeps (fun _ => False) w w' := by
  have H := Lib.hid h
  clear h
  go_enter Try.func14, Try.ntmps14
  go_wp2_with fail
  obtain ⟨wA, hwA⟩ : ∃ z, z = (w.alloc (.cells #[.int .i64 0, .int .i64 0] 30)).alloc (.cells #[.int .i64 0, .int .i64 0] 30) := ⟨_, rfl⟩
  have KA : Hid (Keeps (fun _ => False) w wA) := Lib.hid (by rw [hwA]; exact ((Keeps.refl _ _).alloc _).alloc _)
  have WR : Whole wA w.heap.size 30 #[.int .i64 0, .int .i64 0] := by rw [hwA]; exact (Whole.made _ _ _).alloc _
  have WZ : Whole wA (w.heap.size + 1) 30 #[.int .i64 0, .int .i64 0] := by rw [hwA]; have := Whole.made (w.alloc (.cells #[.int .i64 0, .int .i64 0] 30)) 30 #[.int .i64 0, .int .i64 0]; simpa using this
  rw [← hwA]
  clear hwA
  have r0 := WR.cellAt 0
  have r1 := WR.cellAt 1
  have z0 := WZ.cellAt 0
  have z1 := WZ.cellAt 1
  have s0 := WR.free 0
  have s1 := WR.free 1
  simp at r0 r1 z0 z1
  have WRh := WR
  clear WR WZ
  obtain ⟨rb, hrb⟩ : ∃ z, z = w.heap.size := ⟨_, rfl⟩
  rw [← hrb] at WRh r0 r1 z0 z1 s0 s1 ⊢
  have HRB := Lib.hid hrb
  have HWR := Lib.hid WRh
  clear hrb WRh
  go_wp2_with (first | (go_at_call 65; refine (H.out _ KA.out).mono ?_; rintro e w' ⟨rfl, rfl⟩))
  have hq0 : (w'.setCell ⟨rb, 0, none⟩ (.int .i64 0)).cell? ⟨rb, 0, none⟩ = some (.int .i64 0) := by have := ((HWR.out).put 0 (.int .i64 0)).cellAt 0; simpa using this
  have hq1 : ((w'.setCell ⟨rb, 0, none⟩ (.int .i64 0)).setCell ⟨rb, 1, none⟩ (.int .i64 0)).cell? ⟨rb, 1, none⟩ = some (.int .i64 0) := by have := (((HWR.out).put 0 (.int .i64 0)).put 1 (.int .i64 0)).cellAt 1; simpa using this
  refine bodyPost_ret (v := .tuple #[.agg #[.int .i64 0, .int .i64 0], .bool false]) (by simp [results, Try.results14, go_sem, hq0, hq1]) rfl ⟨rfl, ?_⟩
  exact (KA.out.setCell (p := ⟨rb, 0, none⟩) (fun h => absurd h (by have := HRB.out; show ¬ rb < _; omega)) _).setCell (p := ⟨rb, 1, none⟩) (fun h => absurd h (by have := HRB.out; show ¬ rb < _; omega)) _
end Go.Proofs.Ytbfhbekocgdceaa
