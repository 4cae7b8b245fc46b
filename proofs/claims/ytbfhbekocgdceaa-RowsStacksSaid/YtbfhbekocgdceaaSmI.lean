/-
  rows.Stack of int: a stack that is full, Redo, Len, receivers that are nil: the walks. Conditions: lengths within 10 ^ 9.
-/
import Derived.Test.YtbfhbekocgdceaaSkI
import Derived.BigQuiet
namespace Go.Proofs.Ytbfhbekocgdceaa
open Go.RowKit
theorem newStackI_neg (most : Int) (w : World) (hm : most < 0) :
    Calls Try.prog 38 #[.int .i64 most] w fun e w' => e = .returned (.pointer none) ∧ w = w' := by
  go_enter Try.func38, Try.ntmps38
  go_wp2_with fail
  go_ret
  exact ⟨rfl, rfl⟩
theorem noneI_nil (w : World) :
    Calls Try.prog 73 #[.pointer none] w fun e w' => e = .returned (.bool true) ∧ w' = w := by
  go_enter Try.func73, Try.ntmps73
  go_wp2_with fail
  go_ret
  exact ⟨rfl, rfl⟩
set_option maxRecDepth 100000 in
theorem doI_nil (x : Int) (w : World) :
    Calls Try.prog 45 #[.pointer none, .int .i64 x] w fun e w' => e = .returned (.bool false) ∧ Keeps (fun _ => False) w w' := by
  have HN := fun w => noneI_nil w
  go_enter Try.func45, Try.ntmps45
  go_wp2_with fail
  go_quiet (first | (go_at_call 73; refine Calls.quiet_of_same (HN _)))
  go_wp2_with fail
  go_ret
  exact ⟨rfl, (Keeps.refl _ _).drewN _⟩
set_option maxRecDepth 100000 in
theorem undoI_nil (w : World) :
    Calls Try.prog 42 #[.pointer none] w fun e w' => e = .returned (.tuple #[.int .i64 0, .bool false]) ∧ w' = w := by
  go_enter Try.func42, Try.ntmps42
  go_wp2_with (first | (go_at_call 73; refine (noneI_nil _).mono ?_; rintro e w' ⟨rfl, rfl⟩))
  go_ret2
  exact ⟨rfl, rfl⟩
set_option maxRecDepth 100000 in
theorem redoI_nil (w : World) :
    Calls Try.prog 43 #[.pointer none] w fun e w' => e = .returned (.tuple #[.int .i64 0, .bool false]) ∧ Keeps (fun _ => False) w w' := by
  have HN := fun w => noneI_nil w
  go_enter Try.func43, Try.ntmps43
  go_wp2_with fail
  go_quiet (first | (go_at_call 73; refine Calls.quiet_of_same (HN _)))
  go_wp2_with fail
  go_ret2
  exact ⟨rfl, (Keeps.refl _ _).drewN _⟩
set_option maxRecDepth 100000 in
theorem lenI_nil (w : World) :
    Calls Try.prog 44 #[.pointer none] w fun e w' => e = .returned (.tuple #[.int .i64 0, .int .i64 0]) ∧ w' = w := by
  go_enter Try.func44, Try.ntmps44
  go_wp2_with (first | (go_at_call 73; refine (noneI_nil _).mono ?_; rintro e w' ⟨rfl, rfl⟩))
  go_ret2
  exact ⟨rfl, rfl⟩
set_option maxRecDepth 100000 in
theorem doneI_nil (w : World) :
    Calls Try.prog 41 #[.pointer none] w fun e w' => e = .returned (.slice none 0 0) ∧ w' = w := by
  go_enter Try.func41, Try.ntmps41
  go_wp2_with (first | (go_at_call 73; refine (noneI_nil _).mono ?_; rintro e w' ⟨rfl, rfl⟩))
  go_ret
  exact ⟨rfl, rfl⟩
set_option maxRecDepth 100000 in
theorem doI_full (p c done : Nat) (x : Int) (A : Option Addr) (l : List Int) (w : World) (h : StackI w p A c l done done) :
    Calls Try.prog 45 #[.pointer (some ⟨p, 0, none⟩), .int .i64 x] w fun e w' => e = .returned (.bool false) ∧ Keeps (fun _ => False) w w' := by
  obtain ⟨a0, a1, a2, a3, f0, f1, f2, f3⟩ := four h.box
  clear h
  have HN := fun w => noneI_any p true w
  go_enter Try.func45, Try.ntmps45
  go_wp2_with fail
  go_quiet (first | (go_at_call 73; refine Calls.quiet_of_same (HN _ a3)))
  go_wp2_with fail
  go_ret
  exact ⟨rfl, (Keeps.refl _ _).drewN _⟩
set_option maxRecDepth 100000 in
theorem redoI_none (p c done : Nat) (most : Int) (A : Option Addr) (l : List Int) (w : World) (h : StackI w p A c l done most) (hd : done = l.length) :
    Calls Try.prog 43 #[.pointer (some ⟨p, 0, none⟩)] w fun e w' => e = .returned (.tuple #[.int .i64 0, .bool false]) ∧ Keeps (fun _ => False) w w' := by
  obtain ⟨a0, a1, a2, a3, f0, f1, f2, f3⟩ := four h.box
  clear h
  subst hd
  have HN := fun w => noneI_any p true w
  go_enter Try.func43, Try.ntmps43
  go_wp2_with fail
  go_quiet (first | (go_at_call 73; refine Calls.quiet_of_same (HN _ a3)))
  go_wp2_with fail
  go_ret2
  exact ⟨rfl, (Keeps.refl _ _).drewN _⟩
set_option maxRecDepth 100000 in
set_option maxHeartbeats 2000000 in
theorem redoI_any (p c d : Nat) (most x : Int) (A : Option Addr) (l : List Int) (w : World) (h : StackI w p A c l d most) (hx : l[d]? = some x) (hd : d < 1000000000) :
    Calls Try.prog 43 #[.pointer (some ⟨p, 0, none⟩)] w fun e w' => e = .returned (.tuple #[.int .i64 x, .bool true]) ∧ StackI w' p A c l (d + 1) most ∧ Keeps (fun b => b = p) w w' := by
  have hdl := (List.getElem?_eq_some_iff.1 hx).1
  obtain ⟨a0, a1, a2, a3, f0, f1, f2, f3⟩ := four h.box
  have hp : p < w.heap.size := h.box.inside
  obtain ⟨g, cs, hA, hg, hW, _, _, _⟩ := own_whole h.own (by omega)
  subst hA
  have hxc : w.cell? ⟨g, d, none⟩ = some (.int .i64 x) := (own_cells h.own rfl (by omega)).trans (by rw [List.getElem?_map, hx]; rfl)
  have hxn : ∀ n, (w.drewN n).cell? ⟨g, d, none⟩ = some (.int .i64 x) := fun n => by simpa using hxc
  have hpg : p ≠ g := by omega
  have hgp : g ≠ p := by omega
  have HS := Lib.hid h
  have HN := fun w => noneI_any p true w
  have hdI : (d : Int) < (l.length : Int) := by omega
  have q0 : ((d : Int) == (l.length : Int)) = false := by rw [beq_eq_false_iff_ne]; omega
  have q1 : (d == l.length) = false := by rw [beq_eq_false_iff_ne]; omega
  have hw1 : IntKind.i64.wrap ((d : Int) + 1) = (d : Int) + 1 := by rw [IntKind.wrap_i64]; omega
  clear h hg hW hx
  go_enter Try.func43, Try.ntmps43
  go_wp2_with fail
  go_quiet (first | (go_at_call 73; refine Calls.quiet_of_same (HN _ a3)))
  clear HN
  go_wp2_with fail
  go_quiet (fail)
  go_wp2_with fail
  go_ret2
  refine ⟨rfl, ⟨?_, ?_, by omega⟩, ((((Keeps.refl (fun b => b = p) w).drewN _).setCell (S := fun b => b = p) (p := ⟨p, 1, none⟩) (fun _ => rfl) _).drewN _)⟩
  · exact ((HS.out.box.drewN _).put 1 _).drewN _
  · exact ownsRow_setCell_below HS.out.own (show p < p + 1 by omega) _
set_option maxRecDepth 100000 in
theorem lenI_stack (p c done : Nat) (most : Int) (A : Option Addr) (l : List Int) (w : World) (h : StackI w p A c l done most) (hl : l.length ≤ 1000000000) :
    Calls Try.prog 44 #[.pointer (some ⟨p, 0, none⟩)] w fun e w' => e = .returned (.tuple #[.int .i64 (done : Int), .int .i64 ((l.length : Int) - (done : Int))]) ∧ Keeps (fun _ => False) w w' := by
  have hle := h.le
  obtain ⟨a0, a1, a2, a3, f0, f1, f2, f3⟩ := four h.box
  have hw : IntKind.i64.wrap ((l.length : Int) - (done : Int)) = (l.length : Int) - (done : Int) := by rw [IntKind.wrap_i64]; omega
  clear h
  go_enter Try.func44, Try.ntmps44
  go_wp2_with (first | (go_at_call 73; refine (noneI_any p true _ a3).mono ?_; rintro e w' ⟨rfl, rfl⟩))
  go_quiet (fail)
  go_wp2_with fail
  go_ret2
  exact ⟨rfl, (Keeps.refl _ _).drewN _⟩
end Go.Proofs.Ytbfhbekocgdceaa
