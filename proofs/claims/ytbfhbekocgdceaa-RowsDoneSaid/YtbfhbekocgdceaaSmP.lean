/-
  rows.Stack of pairs: Undo, Redo, Done, Len: the walks. Conditions: lengths within 10 ^ 9.
-/
import Derived.Test.YtbfhbekocgdceaaSp
import Derived.Test.YtbfhbekocgdceaaCuP
namespace Go.Proofs.Ytbfhbekocgdceaa
open Go.RowKit
set_option maxRecDepth 100000 in
set_option maxHeartbeats 2000000 in
theorem undoP_none (p c done : Nat) (most : Int) (A : Option Addr) (l : List (Int × ByteArray)) (w : World) (h : StackP w p A c l done most) (hd : done = 0) :
    Calls Try.prog 48 #[.pointer (some ⟨p, 0, none⟩)] w fun e w' => e = .returned (.tuple #[.agg #[.int .i8 0, .string ⟨#[]⟩], .bool false]) ∧ Keeps (fun _ => False) w w' := by
  have HB0 := Lib.hid h.box
  have HD := Lib.hid hd
  have hp : p < w.heap.size := h.box.inside
  clear h hd
  go_enter Try.func48, Try.ntmps48
  go_wp2_with fail
  obtain ⟨w1, hw1⟩ : ∃ z, z = (w.alloc (.cells #[.int .i8 0, .string ⟨#[]⟩] 49)).alloc (.cells #[.int .i8 0, .string ⟨#[]⟩] 49) := ⟨_, rfl⟩
  have KX : Hid (Keeps (fun _ => False) w w1) := Lib.hid (by rw [hw1]; exact ((Keeps.refl _ _).alloc _).alloc _)
  have WR0 : Whole w1 w.heap.size 49 #[.int .i8 0, .string ⟨#[]⟩] := by rw [hw1]; exact (Whole.made _ _ _).alloc _
  have WZ0 : Whole w1 (w.heap.size + 1) 49 #[.int .i8 0, .string ⟨#[]⟩] := by rw [hw1]; have := Whole.made (w.alloc (.cells #[.int .i8 0, .string ⟨#[]⟩] 49)) 49 #[.int .i8 0, .string ⟨#[]⟩]; simpa using this
  rw [← hw1]
  clear hw1
  obtain ⟨rb, hrb⟩ : ∃ z, z = w.heap.size := ⟨_, rfl⟩
  rw [← hrb] at WR0 WZ0 ⊢
  have HRB := Lib.hid hrb
  have WR := Lib.hid WR0
  have WZ := Lib.hid WZ0
  clear WR0 WZ0
  obtain ⟨a0, a1, a2, a3, f0, f1, f2, f3⟩ := four (HB0.out.keeps KX.out id)
  have r0 : w1.cell? ⟨rb, 0, none⟩ = some (.int .i8 0) := WR.out.cellAt 0
  have r1 : w1.cell? ⟨rb, 1, none⟩ = some (.string ⟨#[]⟩) := WR.out.cellAt 1
  have z0 : w1.cell? ⟨rb + 1, 0, none⟩ = some (.int .i8 0) := WZ.out.cellAt 0
  have z1 : w1.cell? ⟨rb + 1, 1, none⟩ = some (.string ⟨#[]⟩) := WZ.out.cellAt 1
  have s0 := WR.out.free 0
  have s1 := WR.out.free 1
  clear hrb
  have HN := fun w => noneSP_any p true w
  have hd := HD.out
  subst hd
  go_wp2_with (first | (go_at_call 75; refine (noneSP_any p true _ a3).mono ?_; rintro e w' ⟨rfl, rfl⟩))
  have hq0 : (w'.setCell ⟨rb, 0, none⟩ (.int .i8 0)).cell? ⟨rb, 0, none⟩ = some (.int .i8 0) := by have := ((WR.out).put 0 (.int .i8 0)).cellAt 0; simpa using this
  have hq1 : ((w'.setCell ⟨rb, 0, none⟩ (.int .i8 0)).setCell ⟨rb, 1, none⟩ (.string ⟨#[]⟩)).cell? ⟨rb, 1, none⟩ = some (.string ⟨#[]⟩) := by have := (((WR.out).put 0 (.int .i8 0)).put 1 (.string ⟨#[]⟩)).cellAt 1; simpa using this
  refine bodyPost_ret (v := .tuple #[.agg #[.int .i8 0, .string ⟨#[]⟩], .bool false]) (by simp [results, Try.results48, go_sem, hq0, hq1]) rfl ⟨rfl, ?_⟩
  exact (KX.out.setCell (p := ⟨rb, 0, none⟩) (fun h => absurd h (by have := HRB.out; show ¬ rb < _; omega)) _).setCell (p := ⟨rb, 1, none⟩) (fun h => absurd h (by have := HRB.out; show ¬ rb < _; omega)) _
set_option maxRecDepth 100000 in
set_option maxHeartbeats 2000000 in
theorem redoP_none (p c done : Nat) (most : Int) (A : Option Addr) (l : List (Int × ByteArray)) (w : World) (h : StackP w p A c l done most) (hd : done = l.length) :
    Calls Try.prog 49 #[.pointer (some ⟨p, 0, none⟩)] w fun e w' => e = .returned (.tuple #[.agg #[.int .i8 0, .string ⟨#[]⟩], .bool false]) ∧ Keeps (fun _ => False) w w' := by
  have HB0 := Lib.hid h.box
  have HD := Lib.hid hd
  have hp : p < w.heap.size := h.box.inside
  clear h hd
  go_enter Try.func49, Try.ntmps49
  go_wp2_with fail
  obtain ⟨w1, hw1⟩ : ∃ z, z = (w.alloc (.cells #[.int .i8 0, .string ⟨#[]⟩] 49)).alloc (.cells #[.int .i8 0, .string ⟨#[]⟩] 49) := ⟨_, rfl⟩
  have KX : Hid (Keeps (fun _ => False) w w1) := Lib.hid (by rw [hw1]; exact ((Keeps.refl _ _).alloc _).alloc _)
  have WR0 : Whole w1 w.heap.size 49 #[.int .i8 0, .string ⟨#[]⟩] := by rw [hw1]; exact (Whole.made _ _ _).alloc _
  have WZ0 : Whole w1 (w.heap.size + 1) 49 #[.int .i8 0, .string ⟨#[]⟩] := by rw [hw1]; have := Whole.made (w.alloc (.cells #[.int .i8 0, .string ⟨#[]⟩] 49)) 49 #[.int .i8 0, .string ⟨#[]⟩]; simpa using this
  rw [← hw1]
  clear hw1
  obtain ⟨rb, hrb⟩ : ∃ z, z = w.heap.size := ⟨_, rfl⟩
  rw [← hrb] at WR0 WZ0 ⊢
  have HRB := Lib.hid hrb
  have WR := Lib.hid WR0
  have WZ := Lib.hid WZ0
  clear WR0 WZ0
  obtain ⟨a0, a1, a2, a3, f0, f1, f2, f3⟩ := four (HB0.out.keeps KX.out id)
  have r0 : w1.cell? ⟨rb, 0, none⟩ = some (.int .i8 0) := WR.out.cellAt 0
  have r1 : w1.cell? ⟨rb, 1, none⟩ = some (.string ⟨#[]⟩) := WR.out.cellAt 1
  have z0 : w1.cell? ⟨rb + 1, 0, none⟩ = some (.int .i8 0) := WZ.out.cellAt 0
  have z1 : w1.cell? ⟨rb + 1, 1, none⟩ = some (.string ⟨#[]⟩) := WZ.out.cellAt 1
  have s0 := WR.out.free 0
  have s1 := WR.out.free 1
  clear hrb
  have HN := fun w => noneSP_any p true w
  have hd := HD.out
  subst hd
  go_wp2_with fail
  go_quiet (first | (go_at_call 75; refine Calls.quiet_of_same (HN _ a3)))
  clear HN
  go_wp2_with fail
  have hq0 : ((w1.drewN nq).setCell ⟨rb, 0, none⟩ (.int .i8 0)).cell? ⟨rb, 0, none⟩ = some (.int .i8 0) := by have := (((WR.out.drewN nq)).put 0 (.int .i8 0)).cellAt 0; simpa using this
  have hq1 : (((w1.drewN nq).setCell ⟨rb, 0, none⟩ (.int .i8 0)).setCell ⟨rb, 1, none⟩ (.string ⟨#[]⟩)).cell? ⟨rb, 1, none⟩ = some (.string ⟨#[]⟩) := by have := ((((WR.out.drewN nq)).put 0 (.int .i8 0)).put 1 (.string ⟨#[]⟩)).cellAt 1; simpa using this
  refine bodyPost_ret (v := .tuple #[.agg #[.int .i8 0, .string ⟨#[]⟩], .bool false]) (by simp [results, Try.results49, go_sem, hq0, hq1]) rfl ⟨rfl, ?_⟩
  exact ((KX.out.drewN _).setCell (p := ⟨rb, 0, none⟩) (fun h => absurd h (by have := HRB.out; show ¬ rb < _; omega)) _).setCell (p := ⟨rb, 1, none⟩) (fun h => absurd h (by have := HRB.out; show ¬ rb < _; omega)) _
set_option maxRecDepth 100000 in
set_option maxHeartbeats 4000000 in
theorem undoP_any (p c d : Nat) (most : Int) (x : Int × ByteArray) (A : Option Addr) (l : List (Int × ByteArray)) (w : World) (h : StackP w p A c l (d + 1) most) (hx : l[d]? = some x) (hd : d < 1000000000) :
    Calls Try.prog 48 #[.pointer (some ⟨p, 0, none⟩)] w fun e w' => e = .returned (.tuple #[.agg #[.int .i8 x.1, .string x.2], .bool true]) ∧ StackP w' p A c l (d) most ∧ Keeps (fun b => b = p) w w' := by
  have HS := Lib.hid h
  have hdl := (List.getElem?_eq_some_iff.1 hx).1
  have hp : p < w.heap.size := h.box.inside
  obtain ⟨g, off, hA, hg, hx0, hx1⟩ := PrLies.of (own_flat_lies h.own) d x hx
  subst hA
  have HPG : Hid (off = 0 ∧ p < g) := Lib.hid (by
    rcases h.own.2 with ⟨hv, _⟩ | ⟨g', cap, cur, hv, hb, _⟩
    · injection hv with h1; cases h1
    · injection hv with h1
      injection h1 with h1
      injection h1 with h1 h2
      exact ⟨h2, by omega⟩)
  obtain ⟨rfl, hpg⟩ := HPG.out
  have HXC := Lib.hid (And.intro hx0 hx1)
  have q0 : (((d : Int) + 1) == 0) = false := by rw [beq_eq_false_iff_ne]; omega
  have hdI : (d : Int) < (l.length : Int) := by omega
  clear h hx hx0 hx1 HPG
  go_enter Try.func48, Try.ntmps48
  go_wp2_with fail
  obtain ⟨w1, hw1⟩ : ∃ z, z = (w.alloc (.cells #[.int .i8 0, .string ⟨#[]⟩] 49)).alloc (.cells #[.int .i8 0, .string ⟨#[]⟩] 49) := ⟨_, rfl⟩
  have KX : Hid (Keeps (fun _ => False) w w1) := Lib.hid (by rw [hw1]; exact ((Keeps.refl _ _).alloc _).alloc _)
  have WR0 : Whole w1 w.heap.size 49 #[.int .i8 0, .string ⟨#[]⟩] := by rw [hw1]; exact (Whole.made _ _ _).alloc _
  have WZ0 : Whole w1 (w.heap.size + 1) 49 #[.int .i8 0, .string ⟨#[]⟩] := by rw [hw1]; have := Whole.made (w.alloc (.cells #[.int .i8 0, .string ⟨#[]⟩] 49)) 49 #[.int .i8 0, .string ⟨#[]⟩]; simpa using this
  rw [← hw1]
  clear hw1
  obtain ⟨rb, hrb⟩ : ∃ z, z = w.heap.size := ⟨_, rfl⟩
  rw [← hrb] at WR0 WZ0 ⊢
  have HRB := Lib.hid hrb
  have WR := Lib.hid WR0
  have WZ := Lib.hid WZ0
  clear WR0 WZ0
  have HB1 := Lib.hid (HS.out.box.keeps KX.out id)
  obtain ⟨a0, a1, a2, a3, f0, f1, f2, f3⟩ := four HB1.out
  have HN := fun w => noneSP_any p true w
  have hpr : p < rb := by omega
  have hgr : g < rb := by omega
  clear hrb
  go_wp2_with (first | (go_at_call 75; refine (noneSP_any p true _ a3).mono ?_; rintro e w' ⟨rfl, rfl⟩))
  obtain ⟨w2, hw2⟩ : ∃ z, z = w'.setCell ⟨p, 1, none⟩ (.int .i64 (d : Int)) := ⟨_, rfl⟩
  have HB2 : Hid (Whole w2 p 125 #[.slice (some ⟨g, 0, none⟩) l.length c, .int .i64 (d : Int), .int .i64 most, .bool true]) := Lib.hid (by rw [hw2]; exact HB1.out.put 1 _)
  have K2 : Hid (Keeps (fun b => b = p) w w2) := Lib.hid (by rw [hw2]; exact Keeps.setCell (S := fun b => b = p) (p := ⟨p, 1, none⟩) (KX.out.mono (fun _ _ h => h.elim)) (fun _ => rfl) _)
  have WR2 : Hid (Whole w2 rb 49 #[.int .i8 0, .string ⟨#[]⟩]) := Lib.hid (by rw [hw2]; exact WR.out.putFar (p := ⟨p, 1, none⟩) (by show rb ≠ p; omega) _)
  rw [← hw2]
  clear hw2
  have hgp : ¬ g = p := by omega
  have HF : ∀ W, Keeps (fun b => b = rb) w2 W → W.cell? ⟨p, 0, none⟩ = some (.slice (some ⟨g, 0, none⟩) l.length c) ∧ W.cell? ⟨p, 1, none⟩ = some (.int .i64 (d : Int)) ∧ W.cell? ⟨g, d * 2, none⟩ = some (.int .i8 x.1) ∧ W.cell? ⟨g, d * 2 + 1, none⟩ = some (.string x.2) := fun W hW => by
    have h1 := HB2.out.keeps hW (by omega)
    have hs := K2.out.size
    refine ⟨h1.cellAt 0, h1.cellAt 1, ?_, ?_⟩
    · rw [hW.cell (by omega) (by omega), K2.out.cell (by omega) hgp, ← HXC.out.1]; congr 2; omega
    · rw [hW.cell (by omega) (by omega), K2.out.cell (by omega) hgp, ← HXC.out.2]; congr 2; omega
  clear a0 a1 a2 a3 f0 f1 f2 f3 HN
  have hw1 : IntKind.i64.wrap (d : Int) = (d : Int) := by rw [IntKind.wrap_i64]; omega
  have hd0 : (0 : Int) ≤ (d : Int) := by omega
  refine wp_region_held_drew (S := fun W => Keeps (fun b => b = rb) w2 W) (by kernel_rfl) ((Keeps.refl _ w2).drew) ?_
  intro hSn
  refine wpAnyH_take (i := 0) (v := ?v1) rfl (by kernel_rfl) (by kernel_rfl) (by kernel_rfl) (fun _ _ _ h => by first | exact h | exact absurd h.1 (fun e => by cases e)) (Or.inl ⟨by rfl, ?hy1⟩) (by assumption) ?rest1
  case hy1 =>
    intro w hSw
    obtain ⟨b0, b1, x0, x1⟩ := HF w hSw
    go_simp
    try with_reducible rfl
  go_simp
  refine wpAnyH_take (i := 1) (v := ?v2) rfl (by kernel_rfl) (by kernel_rfl) (by kernel_rfl) (fun _ _ _ h => by first | exact h | exact absurd h.1 (fun e => by cases e)) (Or.inl ⟨by rfl, ?hy2⟩) (by assumption) ?rest2
  case hy2 =>
    intro w hSw
    obtain ⟨b0, b1, x0, x1⟩ := HF w hSw
    go_simp
    try with_reducible rfl
  go_simp
  refine wpAnyH_take (i := 2) (v := ?v3) rfl (by kernel_rfl) (by kernel_rfl) (by kernel_rfl) (fun _ _ _ h => by first | exact h | exact absurd h.1 (fun e => by cases e)) (Or.inl ⟨by rfl, ?hy3⟩) (by assumption) ?rest3
  case hy3 =>
    intro w hSw
    obtain ⟨b0, b1, x0, x1⟩ := HF w hSw
    go_simp
    try with_reducible rfl
  go_simp
  refine wpAnyH_take (i := 3) (v := ?v4) rfl (by kernel_rfl) (by kernel_rfl) (by kernel_rfl) (fun _ _ _ h => by first | exact h | exact absurd h.1 (fun e => by cases e)) (Or.inl ⟨by rfl, ?hy4⟩) (by assumption) ?rest4
  case hy4 =>
    intro w hSw
    obtain ⟨b0, b1, x0, x1⟩ := HF w hSw
    go_simp
    try with_reducible rfl
  go_simp
  refine wpAnyH_take (i := 4) (v := ?v5) rfl (by kernel_rfl) (by kernel_rfl) (by kernel_rfl) (fun _ _ _ h => by first | exact h | exact absurd h.1 (fun e => by cases e)) (Or.inl ⟨by rfl, ?hy5⟩) (by assumption) ?rest5
  case hy5 =>
    intro w hSw
    obtain ⟨b0, b1, x0, x1⟩ := HF w hSw
    go_simp
    try with_reducible rfl
  go_simp
  refine wpAnyH_take (i := 5) (v := ?v6) rfl (by kernel_rfl) (by kernel_rfl) (by kernel_rfl) (fun _ _ _ h => by first | exact h | exact absurd h.1 (fun e => by cases e)) (Or.inl ⟨by rfl, ?hy6⟩) (by assumption) ?rest6
  case hy6 =>
    intro w hSw
    obtain ⟨b0, b1, x0, x1⟩ := HF w hSw
    go_simp
    try with_reducible rfl
  go_simp
  refine wpAnyH_take (i := 6) (v := ?v7) rfl (by kernel_rfl) (by kernel_rfl) (by kernel_rfl) (fun _ _ _ h => by first | exact h | exact absurd h.1 (fun e => by cases e)) (Or.inl ⟨by rfl, ?hy7⟩) (by assumption) ?rest7
  case hy7 =>
    intro w hSw
    obtain ⟨b0, b1, x0, x1⟩ := HF w hSw
    go_simp
    try with_reducible rfl
  go_simp
  refine wpAnyH_take (i := 7) (v := ?v8) rfl (by kernel_rfl) (by kernel_rfl) (by kernel_rfl) (fun _ _ _ h => by first | exact h | exact absurd h.1 (fun e => by cases e)) (Or.inl ⟨by rfl, ?hy8⟩) (by assumption) ?rest8
  case hy8 =>
    intro w hSw
    obtain ⟨b0, b1, x0, x1⟩ := HF w hSw
    go_simp
    try with_reducible rfl
  go_simp
  refine wpAnyH_take (i := 8) (v := ?v9) rfl (by kernel_rfl) (by kernel_rfl) (by kernel_rfl) (fun _ _ _ h => by first | exact h | exact absurd h.1 (fun e => by cases e)) (Or.inl ⟨by rfl, ?hy9⟩) (by assumption) ?rest9
  case hy9 =>
    intro w hSw
    obtain ⟨b0, b1, x0, x1⟩ := HF w hSw
    go_simp
    try with_reducible rfl
  go_simp
  refine wpAnyH_take (i := 9) (v := ?v10) rfl (by kernel_rfl) (by kernel_rfl) (by kernel_rfl) (fun _ _ _ h => by first | exact h | exact absurd h.1 (fun e => by cases e)) (Or.inl ⟨by rfl, ?hy10⟩) (by assumption) ?rest10
  case hy10 =>
    intro w hSw
    obtain ⟨b0, b1, x0, x1⟩ := HF w hSw
    go_simp
    try with_reducible rfl
  go_simp
  refine wpAnyH_ready (rs := [10]) (by kernel_rfl) (by simp) ?_
  refine AllReadyH.cons rfl (fun K hK => ?_) AllReadyH.nil
  have r0 := WR2.out.cellAt 0
  have r1 := WR2.out.cellAt 1
  have s0 := WR2.out.free 0
  have s1 := WR2.out.free 1
  simp at r0 r1
  go_simp
  refine hK.out _ _ (((Keeps.refl (fun b => b = rb) w2).drew.setCell (p := ⟨rb, 0, none⟩) (fun _ => rfl) _).setCell (p := ⟨rb, 1, none⟩) (fun _ => rfl) _) (fun hSn => ?_)
  clear hK K
  go_simp
  refine wpAnyH_take (i := 11) (v := ?v11) rfl (by kernel_rfl) (by kernel_rfl) (by kernel_rfl) (fun _ _ _ h => by first | exact h | exact absurd h.1 (fun e => by cases e)) (Or.inl ⟨by rfl, ?hy11⟩) (by assumption) ?rest11
  case hy11 =>
    intro w hSw
    obtain ⟨b0, b1, x0, x1⟩ := HF w hSw
    go_simp
    try with_reducible rfl
  go_simp
  refine wpAnyH_done (by kernel_rfl) ?_ _
  go_simp
  have hq0 : (w2.setCell ⟨rb, 0, none⟩ (.int .i8 x.1)).cell? ⟨rb, 0, none⟩ = some (.int .i8 x.1) := by have := ((WR2.out).put 0 (.int .i8 x.1)).cellAt 0; simpa using this
  have hq1 : ((w2.setCell ⟨rb, 0, none⟩ (.int .i8 x.1)).setCell ⟨rb, 1, none⟩ (.string x.2)).cell? ⟨rb, 1, none⟩ = some (.string x.2) := by have := (((WR2.out).put 0 (.int .i8 x.1)).put 1 (.string x.2)).cellAt 1; simpa using this
  go_wp2_with fail
  refine bodyPost_ret (v := .tuple #[.agg #[.int .i8 x.1, .string x.2], .bool true]) (by simp [results, Try.results48, go_sem, hq0, hq1]) rfl ⟨rfl, ⟨?_, ?_, ?_⟩, ?_⟩
  · exact ((HB2.out.putFar (p := ⟨rb, 0, none⟩) (by show p ≠ rb; omega) _).putFar (p := ⟨rb, 1, none⟩) (by show p ≠ rb; omega) _).drew
  · refine own_keepsS (own_keepsS HS.out.own K2.out (fun b hb e => ?_)) ((Keeps.setCell (S := fun b => b = rb) (p := ⟨rb, 1, none⟩) (Keeps.setCell (S := fun b => b = rb) (p := ⟨rb, 0, none⟩) (Keeps.refl _ _) (fun _ => rfl) _) (fun _ => rfl) _).drew) (fun b hb e => ?_)
    · have h1 : g = b := by injection hb
      omega
    · have h1 : g = b := by injection hb
      omega
  · have := HS.out.le; omega
  · exact ((K2.out.setCell (p := ⟨rb, 0, none⟩) (fun h => absurd h (by have := HRB.out; show ¬ rb < _; omega)) _).setCell (p := ⟨rb, 1, none⟩) (fun h => absurd h (by have := HRB.out; show ¬ rb < _; omega)) _).drew
set_option maxRecDepth 100000 in
set_option maxHeartbeats 4000000 in
theorem redoP_any (p c d : Nat) (most : Int) (x : Int × ByteArray) (A : Option Addr) (l : List (Int × ByteArray)) (w : World) (h : StackP w p A c l (d) most) (hx : l[d]? = some x) (hd : d < 1000000000) :
    Calls Try.prog 49 #[.pointer (some ⟨p, 0, none⟩)] w fun e w' => e = .returned (.tuple #[.agg #[.int .i8 x.1, .string x.2], .bool true]) ∧ StackP w' p A c l (d + 1) most ∧ Keeps (fun b => b = p) w w' := by
  have HS := Lib.hid h
  have hdl := (List.getElem?_eq_some_iff.1 hx).1
  have hp : p < w.heap.size := h.box.inside
  obtain ⟨g, off, hA, hg, hx0, hx1⟩ := PrLies.of (own_flat_lies h.own) d x hx
  subst hA
  have HPG : Hid (off = 0 ∧ p < g) := Lib.hid (by
    rcases h.own.2 with ⟨hv, _⟩ | ⟨g', cap, cur, hv, hb, _⟩
    · injection hv with h1; cases h1
    · injection hv with h1
      injection h1 with h1
      injection h1 with h1 h2
      exact ⟨h2, by omega⟩)
  obtain ⟨rfl, hpg⟩ := HPG.out
  have HXC := Lib.hid (And.intro hx0 hx1)
  have q0 : ((d : Int) == (l.length : Int)) = false := by rw [beq_eq_false_iff_ne]; omega
  have hdI : (d : Int) < (l.length : Int) := by omega
  clear h hx hx0 hx1 HPG
  go_enter Try.func49, Try.ntmps49
  go_wp2_with fail
  obtain ⟨w1, hw1⟩ : ∃ z, z = (w.alloc (.cells #[.int .i8 0, .string ⟨#[]⟩] 49)).alloc (.cells #[.int .i8 0, .string ⟨#[]⟩] 49) := ⟨_, rfl⟩
  have KX : Hid (Keeps (fun _ => False) w w1) := Lib.hid (by rw [hw1]; exact ((Keeps.refl _ _).alloc _).alloc _)
  have WR0 : Whole w1 w.heap.size 49 #[.int .i8 0, .string ⟨#[]⟩] := by rw [hw1]; exact (Whole.made _ _ _).alloc _
  have WZ0 : Whole w1 (w.heap.size + 1) 49 #[.int .i8 0, .string ⟨#[]⟩] := by rw [hw1]; have := Whole.made (w.alloc (.cells #[.int .i8 0, .string ⟨#[]⟩] 49)) 49 #[.int .i8 0, .string ⟨#[]⟩]; simpa using this
  rw [← hw1]
  clear hw1
  obtain ⟨rb, hrb⟩ : ∃ z, z = w.heap.size := ⟨_, rfl⟩
  rw [← hrb] at WR0 WZ0 ⊢
  have HRB := Lib.hid hrb
  have WR := Lib.hid WR0
  have WZ := Lib.hid WZ0
  clear WR0 WZ0
  have HB1 := Lib.hid (HS.out.box.keeps KX.out id)
  obtain ⟨a0, a1, a2, a3, f0, f1, f2, f3⟩ := four HB1.out
  have HN := fun w => noneSP_any p true w
  have hpr : p < rb := by omega
  have hgr : g < rb := by omega
  clear hrb
  go_wp2_with fail
  go_quiet (first | (go_at_call 75; refine Calls.quiet_of_same (HN _ a3)))
  go_wp2_with fail
  obtain ⟨w2, hw2⟩ : ∃ z, z = (w1.drewN nq).setCell ⟨p, 1, none⟩ (.int .i64 ((d : Int) + 1)) := ⟨_, rfl⟩
  have HB2 : Hid (Whole w2 p 125 #[.slice (some ⟨g, 0, none⟩) l.length c, .int .i64 ((d : Int) + 1), .int .i64 most, .bool true]) := Lib.hid (by rw [hw2]; exact (HB1.out.drewN _).put 1 _)
  have K2 : Hid (Keeps (fun b => b = p) w w2) := Lib.hid (by rw [hw2]; exact Keeps.setCell (S := fun b => b = p) (p := ⟨p, 1, none⟩) ((KX.out.mono (fun _ _ h => h.elim)).drewN _) (fun _ => rfl) _)
  have WR2 : Hid (Whole w2 rb 49 #[.int .i8 0, .string ⟨#[]⟩]) := Lib.hid (by rw [hw2]; exact (WR.out.drewN _).putFar (p := ⟨p, 1, none⟩) (by show rb ≠ p; omega) _)
  rw [← hw2]
  clear hw2
  have hgp : ¬ g = p := by omega
  have HF : ∀ W, Keeps (fun b => b = rb) w2 W → W.cell? ⟨p, 0, none⟩ = some (.slice (some ⟨g, 0, none⟩) l.length c) ∧ W.cell? ⟨p, 1, none⟩ = some (.int .i64 ((d : Int) + 1)) ∧ W.cell? ⟨g, d * 2, none⟩ = some (.int .i8 x.1) ∧ W.cell? ⟨g, d * 2 + 1, none⟩ = some (.string x.2) := fun W hW => by
    have h1 := HB2.out.keeps hW (by omega)
    have hs := K2.out.size
    refine ⟨h1.cellAt 0, h1.cellAt 1, ?_, ?_⟩
    · rw [hW.cell (by omega) (by omega), K2.out.cell (by omega) hgp, ← HXC.out.1]; congr 2; omega
    · rw [hW.cell (by omega) (by omega), K2.out.cell (by omega) hgp, ← HXC.out.2]; congr 2; omega
  clear a0 a1 a2 a3 f0 f1 f2 f3 HN
  have hw1 : IntKind.i64.wrap (d : Int) = (d : Int) := by rw [IntKind.wrap_i64]; omega
  have hd0 : (0 : Int) ≤ (d : Int) := by omega
  refine wp_region_held_drew (S := fun W => Keeps (fun b => b = rb) w2 W) (by kernel_rfl) ((Keeps.refl _ w2).drew) ?_
  intro hSn
  refine wpAnyH_take (i := 0) (v := ?v12) rfl (by kernel_rfl) (by kernel_rfl) (by kernel_rfl) (fun _ _ _ h => by first | exact h | exact absurd h.1 (fun e => by cases e)) (Or.inl ⟨by rfl, ?hy12⟩) (by assumption) ?rest12
  case hy12 =>
    intro w hSw
    obtain ⟨b0, b1, x0, x1⟩ := HF w hSw
    go_simp
    try with_reducible rfl
  go_simp
  refine wpAnyH_take (i := 1) (v := ?v13) rfl (by kernel_rfl) (by kernel_rfl) (by kernel_rfl) (fun _ _ _ h => by first | exact h | exact absurd h.1 (fun e => by cases e)) (Or.inl ⟨by rfl, ?hy13⟩) (by assumption) ?rest13
  case hy13 =>
    intro w hSw
    obtain ⟨b0, b1, x0, x1⟩ := HF w hSw
    go_simp
    try with_reducible rfl
  go_simp
  refine wpAnyH_take (i := 2) (v := ?v14) rfl (by kernel_rfl) (by kernel_rfl) (by kernel_rfl) (fun _ _ _ h => by first | exact h | exact absurd h.1 (fun e => by cases e)) (Or.inl ⟨by rfl, ?hy14⟩) (by assumption) ?rest14
  case hy14 =>
    intro w hSw
    obtain ⟨b0, b1, x0, x1⟩ := HF w hSw
    go_simp
    try with_reducible rfl
  go_simp
  refine wpAnyH_take (i := 3) (v := ?v15) rfl (by kernel_rfl) (by kernel_rfl) (by kernel_rfl) (fun _ _ _ h => by first | exact h | exact absurd h.1 (fun e => by cases e)) (Or.inl ⟨by rfl, ?hy15⟩) (by assumption) ?rest15
  case hy15 =>
    intro w hSw
    obtain ⟨b0, b1, x0, x1⟩ := HF w hSw
    go_simp
    try with_reducible rfl
  go_simp
  refine wpAnyH_take (i := 4) (v := ?v16) rfl (by kernel_rfl) (by kernel_rfl) (by kernel_rfl) (fun _ _ _ h => by first | exact h | exact absurd h.1 (fun e => by cases e)) (Or.inl ⟨by rfl, ?hy16⟩) (by assumption) ?rest16
  case hy16 =>
    intro w hSw
    obtain ⟨b0, b1, x0, x1⟩ := HF w hSw
    go_simp
    try with_reducible rfl
  go_simp
  refine wpAnyH_take (i := 5) (v := ?v17) rfl (by kernel_rfl) (by kernel_rfl) (by kernel_rfl) (fun _ _ _ h => by first | exact h | exact absurd h.1 (fun e => by cases e)) (Or.inl ⟨by rfl, ?hy17⟩) (by assumption) ?rest17
  case hy17 =>
    intro w hSw
    obtain ⟨b0, b1, x0, x1⟩ := HF w hSw
    go_simp
    try with_reducible rfl
  go_simp
  refine wpAnyH_take (i := 6) (v := ?v18) rfl (by kernel_rfl) (by kernel_rfl) (by kernel_rfl) (fun _ _ _ h => by first | exact h | exact absurd h.1 (fun e => by cases e)) (Or.inl ⟨by rfl, ?hy18⟩) (by assumption) ?rest18
  case hy18 =>
    intro w hSw
    obtain ⟨b0, b1, x0, x1⟩ := HF w hSw
    go_simp
    try with_reducible rfl
  go_simp
  refine wpAnyH_take (i := 7) (v := ?v19) rfl (by kernel_rfl) (by kernel_rfl) (by kernel_rfl) (fun _ _ _ h => by first | exact h | exact absurd h.1 (fun e => by cases e)) (Or.inl ⟨by rfl, ?hy19⟩) (by assumption) ?rest19
  case hy19 =>
    intro w hSw
    obtain ⟨b0, b1, x0, x1⟩ := HF w hSw
    go_simp
    try with_reducible rfl
  go_simp
  refine wpAnyH_take (i := 8) (v := ?v20) rfl (by kernel_rfl) (by kernel_rfl) (by kernel_rfl) (fun _ _ _ h => by first | exact h | exact absurd h.1 (fun e => by cases e)) (Or.inl ⟨by rfl, ?hy20⟩) (by assumption) ?rest20
  case hy20 =>
    intro w hSw
    obtain ⟨b0, b1, x0, x1⟩ := HF w hSw
    go_simp
    try with_reducible rfl
  go_simp
  refine wpAnyH_take (i := 9) (v := ?v21) rfl (by kernel_rfl) (by kernel_rfl) (by kernel_rfl) (fun _ _ _ h => by first | exact h | exact absurd h.1 (fun e => by cases e)) (Or.inl ⟨by rfl, ?hy21⟩) (by assumption) ?rest21
  case hy21 =>
    intro w hSw
    obtain ⟨b0, b1, x0, x1⟩ := HF w hSw
    go_simp
    try with_reducible rfl
  go_simp
  refine wpAnyH_take (i := 10) (v := ?v22) rfl (by kernel_rfl) (by kernel_rfl) (by kernel_rfl) (fun _ _ _ h => by first | exact h | exact absurd h.1 (fun e => by cases e)) (Or.inl ⟨by rfl, ?hy22⟩) (by assumption) ?rest22
  case hy22 =>
    intro w hSw
    obtain ⟨b0, b1, x0, x1⟩ := HF w hSw
    go_simp
    try with_reducible rfl
  go_simp
  refine wpAnyH_ready (rs := [11]) (by kernel_rfl) (by simp) ?_
  refine AllReadyH.cons rfl (fun K hK => ?_) AllReadyH.nil
  have r0 := WR2.out.cellAt 0
  have r1 := WR2.out.cellAt 1
  have s0 := WR2.out.free 0
  have s1 := WR2.out.free 1
  simp at r0 r1
  go_simp
  refine hK.out _ _ (((Keeps.refl (fun b => b = rb) w2).drew.setCell (p := ⟨rb, 0, none⟩) (fun _ => rfl) _).setCell (p := ⟨rb, 1, none⟩) (fun _ => rfl) _) (fun hSn => ?_)
  clear hK K
  go_simp
  refine wpAnyH_take (i := 12) (v := ?v23) rfl (by kernel_rfl) (by kernel_rfl) (by kernel_rfl) (fun _ _ _ h => by first | exact h | exact absurd h.1 (fun e => by cases e)) (Or.inl ⟨by rfl, ?hy23⟩) (by assumption) ?rest23
  case hy23 =>
    intro w hSw
    obtain ⟨b0, b1, x0, x1⟩ := HF w hSw
    go_simp
    try with_reducible rfl
  go_simp
  refine wpAnyH_done (by kernel_rfl) ?_ _
  go_simp
  have hq0 : (w2.setCell ⟨rb, 0, none⟩ (.int .i8 x.1)).cell? ⟨rb, 0, none⟩ = some (.int .i8 x.1) := by have := ((WR2.out).put 0 (.int .i8 x.1)).cellAt 0; simpa using this
  have hq1 : ((w2.setCell ⟨rb, 0, none⟩ (.int .i8 x.1)).setCell ⟨rb, 1, none⟩ (.string x.2)).cell? ⟨rb, 1, none⟩ = some (.string x.2) := by have := (((WR2.out).put 0 (.int .i8 x.1)).put 1 (.string x.2)).cellAt 1; simpa using this
  go_wp2_with fail
  refine bodyPost_ret (v := .tuple #[.agg #[.int .i8 x.1, .string x.2], .bool true]) (by simp [results, Try.results49, go_sem, hq0, hq1]) rfl ⟨rfl, ⟨?_, ?_, ?_⟩, ?_⟩
  · exact ((HB2.out.putFar (p := ⟨rb, 0, none⟩) (by show p ≠ rb; omega) _).putFar (p := ⟨rb, 1, none⟩) (by show p ≠ rb; omega) _).drew
  · refine own_keepsS (own_keepsS HS.out.own K2.out (fun b hb e => ?_)) ((Keeps.setCell (S := fun b => b = rb) (p := ⟨rb, 1, none⟩) (Keeps.setCell (S := fun b => b = rb) (p := ⟨rb, 0, none⟩) (Keeps.refl _ _) (fun _ => rfl) _) (fun _ => rfl) _).drew) (fun b hb e => ?_)
    · have h1 : g = b := by injection hb
      omega
    · have h1 : g = b := by injection hb
      omega
  · have := HS.out.le; omega
  · exact ((K2.out.setCell (p := ⟨rb, 0, none⟩) (fun h => absurd h (by have := HRB.out; show ¬ rb < _; omega)) _).setCell (p := ⟨rb, 1, none⟩) (fun h => absurd h (by have := HRB.out; show ¬ rb < _; omega)) _).drew
end Go.Proofs.Ytbfhbekocgdceaa
