/-
  RowsStacks: does at stacks that are nil (but for Done): the walks. Conditions: none.
-/
import Derived.Test.YtbfhbekocgdceaaRtA
namespace Go.Proofs.Ytbfhbekocgdceaa
open Go.RowKit
set_option maxRecDepth 100000 in
set_option maxHeartbeats 2000000 in
theorem does_do_nil (on y : Int) (v : Value) (w : World) :
    Calls Try.prog 40 #[.pointer none, .pointer none, .agg #[.int .i64 0, .int .i64 on, .int .i64 y], v] w fun e w' => e = .returned (.bool true) ∧ Keeps (fun _ => False) w w' := by
  go_enter Try.func40, Try.ntmps40
  go_wp2_with fail
  have K1 : Hid (Keeps (fun _ => False) w (w.alloc (.cells #[.int .i64 0, .int .i64 on, .int .i64 y] 76))) := Lib.hid ((Keeps.refl _ _).alloc _)
  have W0 : Hid (Whole (w.alloc (.cells #[.int .i64 0, .int .i64 on, .int .i64 y] 76)) w.heap.size 76 #[.int .i64 0, .int .i64 on, .int .i64 y]) := Lib.hid (Whole.made w _ _)
  refine (doI_nil y _).mono ?_
  rintro e w1 ⟨rfl, k1⟩
  have x2 : w1.cell? ⟨w.heap.size, 2, none⟩ = some (.int .i64 y) := (W0.out.keeps k1 id).cellAt 2
  have K2 := Lib.hid (K1.out.trans k1)
  clear k1
  go_wp2_with fail
  refine (refDo_nil y _).mono ?_
  rintro e w2 ⟨rfl, k2⟩
  have K9 := K2.out.trans k2
  clear k2
  go_wp2_with fail
  go_ret
  exact ⟨rfl, K9⟩
set_option maxRecDepth 100000 in
set_option maxHeartbeats 2000000 in
theorem does_undo_nil (on y : Int) (v : Value) (w : World) :
    Calls Try.prog 40 #[.pointer none, .pointer none, .agg #[.int .i64 1, .int .i64 on, .int .i64 y], v] w fun e w' => e = .returned (.bool true) ∧ Keeps (fun _ => False) w w' := by
  go_enter Try.func40, Try.ntmps40
  go_wp2_with fail
  have K1 : Hid (Keeps (fun _ => False) w (w.alloc (.cells #[.int .i64 1, .int .i64 on, .int .i64 y] 76))) := Lib.hid ((Keeps.refl _ _).alloc _)
  refine (undoI_nil _).mono ?_
  rintro e w1 ⟨rfl, rfl⟩
  go_wp2_with fail
  refine (refUndo_nil _).mono ?_
  rintro e w2 ⟨rfl, rfl⟩
  have K9 := K1.out
  go_wp2_with fail
  go_ret
  exact ⟨rfl, K9⟩
set_option maxRecDepth 100000 in
set_option maxHeartbeats 2000000 in
theorem does_redo_nil (on y : Int) (v : Value) (w : World) :
    Calls Try.prog 40 #[.pointer none, .pointer none, .agg #[.int .i64 2, .int .i64 on, .int .i64 y], v] w fun e w' => e = .returned (.bool true) ∧ Keeps (fun _ => False) w w' := by
  go_enter Try.func40, Try.ntmps40
  go_wp2_with fail
  have K1 : Hid (Keeps (fun _ => False) w (w.alloc (.cells #[.int .i64 2, .int .i64 on, .int .i64 y] 76))) := Lib.hid ((Keeps.refl _ _).alloc _)
  refine (redoI_nil _).mono ?_
  rintro e w1 ⟨rfl, k1⟩
  have K2 := Lib.hid (K1.out.trans k1)
  clear k1
  go_wp2_with fail
  refine (refRedo_nil _).mono ?_
  rintro e w2 ⟨rfl, rfl⟩
  have K9 := K2.out
  go_wp2_with fail
  go_ret
  exact ⟨rfl, K9⟩
set_option maxRecDepth 100000 in
set_option maxHeartbeats 2000000 in
theorem does_len_nil (k on y : Int) (v : Value) (w : World) (h0 : ¬ k = 0) (h1 : ¬ k = 1) (h2 : ¬ k = 2) (h3 : ¬ k = 3) :
    Calls Try.prog 40 #[.pointer none, .pointer none, .agg #[.int .i64 k, .int .i64 on, .int .i64 y], v] w fun e w' => e = .returned (.bool true) ∧ Keeps (fun _ => False) w w' := by
  have e0 : decide (k = 0) = false := decide_eq_false h0
  have e1 : decide (k = 1) = false := decide_eq_false h1
  have e2 : decide (k = 2) = false := decide_eq_false h2
  have e3 : decide (k = 3) = false := decide_eq_false h3
  go_enter Try.func40, Try.ntmps40
  go_wp2_with fail
  have K1 : Hid (Keeps (fun _ => False) w (w.alloc (.cells #[.int .i64 k, .int .i64 on, .int .i64 y] 76))) := Lib.hid ((Keeps.refl _ _).alloc _)
  refine (lenI_nil _).mono ?_
  rintro e w1 ⟨rfl, rfl⟩
  go_wp2_with fail
  have K9 := K1.out
  go_ret
  exact ⟨rfl, K9⟩
set_option maxRecDepth 100000 in
set_option maxHeartbeats 2000000 in
theorem does_len (k : Int) (sp rp : Nat) (A : Option Addr) (c : Nat) (l : List Int) (n : Nat) (most : Int) (D : Option Addr) (cd : Nat) (U : Option Addr) (cu : Nat) (on y : Int) (v : Value) (w : World) (h0 : ¬ k = 0) (h1 : ¬ k = 1) (h2 : ¬ k = 2) (h3 : ¬ k = 3) (h : PairS w sp rp A c l n most D cd U cu) (hl : l.length < 900000000) :
    Calls Try.prog 40 #[.pointer (some ⟨sp, 0, none⟩), .pointer (some ⟨rp, 0, none⟩), .agg #[.int .i64 k, .int .i64 on, .int .i64 y], v] w fun e w' => e = .returned (.bool true) ∧ Keeps (fun _ => False) w w' := by
  have HP := Lib.hid h
  have hle := h.st.le
  have e0 : decide (k = 0) = false := decide_eq_false h0
  have e1 : decide (k = 1) = false := decide_eq_false h1
  have e2 : decide (k = 2) = false := decide_eq_false h2
  have e3 : decide (k = 3) = false := decide_eq_false h3
  have hd : (l.take n).length = n := by rw [List.length_take]; omega
  have hu : (l.drop n).reverse.length = l.length - n := by simp
  have hue : ((l.length : Int) - (n : Int)) = ((l.length - n : Nat) : Int) := by omega
  have HD := Lib.hid hd
  have HU := Lib.hid hu
  have HUE := Lib.hid hue
  clear h hd hu hue
  go_enter Try.func40, Try.ntmps40
  go_wp2_with fail
  have K1 : Hid (Keeps (fun _ => False) w (w.alloc (.cells #[.int .i64 k, .int .i64 on, .int .i64 y] 76))) := Lib.hid ((Keeps.refl _ _).alloc _)
  have HP1 := Lib.hid (HP.out.calm K1.out (fun _ _ h => h))
  refine (lenI_stack sp c n most A l _ HP1.out.st (by omega)).mono ?_
  rintro e w1 ⟨rfl, k1⟩
  have K2 := Lib.hid (K1.out.trans k1)
  have HP2 := Lib.hid (HP1.out.calm k1 (fun _ _ h => h))
  obtain ⟨m, hm⟩ : ∃ z, z = l.length - n := ⟨_, rfl⟩
  have b1 : w1.cell? ⟨rp, 1, none⟩ = some (.slice D n cd) := by have h : w1.cell? ⟨rp, 1, none⟩ = some (.slice D (l.take n).length cd) := HP2.out.re.box.cellAt 1; rw [HD.out] at h; exact h
  have b2 : w1.cell? ⟨rp, 2, none⟩ = some (.slice U m cu) := by have h : w1.cell? ⟨rp, 2, none⟩ = some (.slice U (l.drop n).reverse.length cu) := HP2.out.re.box.cellAt 2; rw [HU.out, ← hm] at h; exact h
  rw [HUE.out, ← hm]
  clear k1 hm
  go_wp2_with fail
  go_ret
  exact ⟨rfl, K2.out⟩
end Go.Proofs.Ytbfhbekocgdceaa
