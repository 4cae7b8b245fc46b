/-
  RowsStacks: does at a call of Undo and of Redo: the walks. Conditions: lengths within 9 * 10 ^ 8.
-/
import Derived.Test.YtbfhbekocgdceaaRtA
namespace Go.Proofs.Ytbfhbekocgdceaa
open Go.RowKit
set_option maxRecDepth 100000 in
set_option maxHeartbeats 2000000 in
theorem does_undo_none (sp rp : Nat) (A : Option Addr) (c : Nat) (l : List Int) (n : Nat) (most : Int) (D : Option Addr) (cd : Nat) (U : Option Addr) (cu : Nat) (on y : Int) (v : Value) (w : World) (h : PairS w sp rp A c l n most D cd U cu) (hn : n = 0) :
    Calls Try.prog 40 #[.pointer (some ⟨sp, 0, none⟩), .pointer (some ⟨rp, 0, none⟩), .agg #[.int .i64 1, .int .i64 on, .int .i64 y], v] w fun e w' => e = .returned (.bool true) ∧ Keeps (fun _ => False) w w' := by
  have HP := Lib.hid h
  have HN := Lib.hid hn
  clear h hn
  go_enter Try.func40, Try.ntmps40
  go_wp2_with fail
  have K1 : Hid (Keeps (fun _ => False) w (w.alloc (.cells #[.int .i64 1, .int .i64 on, .int .i64 y] 76))) := Lib.hid ((Keeps.refl _ _).alloc _)
  have HP1 := Lib.hid (HP.out.calm K1.out (fun _ _ h => h))
  obtain rfl := HN.out
  refine (undoI_none sp c most A l _ HP1.out.st).mono ?_
  rintro e w1 ⟨rfl, hw1⟩
  have k1 : Keeps (fun _ => False) (w.alloc (.cells #[.int .i64 1, .int .i64 on, .int .i64 y] 76)) w1 := by rw [hw1]; exact Keeps.refl _ _
  clear hw1
  have K2 := Lib.hid (K1.out.trans k1)
  have HP2 := Lib.hid (HP1.out.calm k1 (fun _ _ h => h))
  clear k1
  go_wp2_with fail
  refine (refUndo_none rp most D cd U cu (l.drop 0).reverse w1 HP2.out.re).mono ?_
  rintro e w2 ⟨rfl, rfl⟩
  go_wp2_with fail
  go_ret
  exact ⟨rfl, K2.out⟩
set_option maxRecDepth 100000 in
set_option maxHeartbeats 2000000 in
theorem does_undo_any (sp rp : Nat) (A : Option Addr) (c : Nat) (l : List Int) (n : Nat) (most : Int) (D : Option Addr) (cd : Nat) (U : Option Addr) (cu : Nat) (on y : Int) (v : Value) (w : World) (x : Int) (h : PairS w sp rp A c l (n + 1) most D cd U cu) (hx : l[n]? = some x) (hl : l.length < 900000000) :
    Calls Try.prog 40 #[.pointer (some ⟨sp, 0, none⟩), .pointer (some ⟨rp, 0, none⟩), .agg #[.int .i64 1, .int .i64 on, .int .i64 y], v] w fun e w' => e = .returned (.bool true) ∧ ∃ D' d' U' u', PairS w' sp rp A c l n most D' d' U' u' ∧ Keeps (PairS.foot sp rp A D U) w w' ∧ (∀ b, (Value.slice D' 0 0).ownBlock = some b → w.heap.size ≤ b) ∧ ∀ b, (Value.slice U' 0 0).ownBlock = some b → w.heap.size ≤ b := by
  have HP := Lib.hid h
  have HX := Lib.hid hx
  have hlt := (List.getElem?_eq_some_iff.1 hx).1
  clear h hx
  go_enter Try.func40, Try.ntmps40
  go_wp2_with fail
  have K1 : Hid (Keeps (fun _ => False) w (w.alloc (.cells #[.int .i64 1, .int .i64 on, .int .i64 y] 76))) := Lib.hid ((Keeps.refl _ _).alloc _)
  have HP1 := Lib.hid (HP.out.calm K1.out (fun _ _ h => h))
  refine (undoI_any sp c n most x A l _ HP1.out.st HX.out (by omega)).mono ?_
  rintro e w1 ⟨rfl, hs1, k1⟩
  have HS1 := Lib.hid hs1
  have HK1 := Lib.hid k1
  have HR := Lib.hid (HP1.out.ref (k1.mono (fun _ _ h => .inl h)))
  clear hs1 k1
  go_wp2_with fail
  refine (refUndo_any x rp most D cd (l.take n) U cu (l.drop (n + 1)).reverse w1 (by rw [← take_snoc HX.out]; exact HR.out) (by simp; omega) (by simp; omega)).mono ?_
  rintro e w2 ⟨rfl, D1, d1, U1, u1, hr2, k2, new1, new2⟩
  have HP2 := Lib.hid (HP1.out.moved HS1.out (by rw [drop_rev HX.out]; exact hr2) k2 (fun b hb => new1 b (by rw [own_any D1 _ 0 d1 0]; exact hb)) (fun b hb => new2 b (by rw [own_any U1 _ 0 u1 0]; exact hb)))
  have HK2 : Hid (Keeps (PairS.foot sp rp A D U) w w2) := Lib.hid (((K1.out.mono (T := PairS.foot sp rp A D U) (fun _ _ h => h.elim)).trans (HK1.out.mono (T := PairS.foot sp rp A D U) (fun b _ h => .inl h))).trans (k2.mono (T := PairS.foot sp rp A D U) (fun b _ h => .inr (.inl h))))
  have hsz : w.heap.size ≤ w1.heap.size := by have h2 := K1.out.size; have h3 := HK1.out.size; omega
  have ND : Hid (∀ b, (Value.slice D1 0 0).ownBlock = some b → w.heap.size ≤ b) := Lib.hid (fun b hb => Nat.le_trans hsz (new1 b (by rw [own_any D1 _ 0 d1 0]; exact hb)))
  have NU : Hid (∀ b, (Value.slice U1 0 0).ownBlock = some b → w.heap.size ≤ b) := Lib.hid (fun b hb => Nat.le_trans hsz (new2 b (by rw [own_any U1 _ 0 u1 0]; exact hb)))
  clear hr2 k2 new1 new2
  go_wp2_with fail
  go_ret
  exact ⟨rfl, D1, d1, U1, u1, HP2.out, HK2.out, ND.out, NU.out⟩
set_option maxRecDepth 100000 in
set_option maxHeartbeats 2000000 in
theorem does_redo_none (sp rp : Nat) (A : Option Addr) (c : Nat) (l : List Int) (n : Nat) (most : Int) (D : Option Addr) (cd : Nat) (U : Option Addr) (cu : Nat) (on y : Int) (v : Value) (w : World) (h : PairS w sp rp A c l n most D cd U cu) (hn : n = l.length) :
    Calls Try.prog 40 #[.pointer (some ⟨sp, 0, none⟩), .pointer (some ⟨rp, 0, none⟩), .agg #[.int .i64 2, .int .i64 on, .int .i64 y], v] w fun e w' => e = .returned (.bool true) ∧ Keeps (fun _ => False) w w' := by
  have HP := Lib.hid h
  have HN := Lib.hid hn
  clear h hn
  go_enter Try.func40, Try.ntmps40
  go_wp2_with fail
  have K1 : Hid (Keeps (fun _ => False) w (w.alloc (.cells #[.int .i64 2, .int .i64 on, .int .i64 y] 76))) := Lib.hid ((Keeps.refl _ _).alloc _)
  have HP1 := Lib.hid (HP.out.calm K1.out (fun _ _ h => h))
  refine (redoI_none sp c n most A l _ HP1.out.st HN.out).mono ?_
  rintro e w1 ⟨rfl, k1⟩
  have K2 := Lib.hid (K1.out.trans k1)
  have HP2 := Lib.hid (HP1.out.calm k1 (fun _ _ h => h))
  clear k1
  go_wp2_with fail
  refine (refRedo_none rp most U cu D cd (l.take n) w1 (by have h := HP2.out.re; rw [List.drop_of_length_le (Nat.le_of_eq HN.out.symm)] at h; exact h)).mono ?_
  rintro e w2 ⟨rfl, rfl⟩
  go_wp2_with fail
  go_ret
  exact ⟨rfl, K2.out⟩
set_option maxRecDepth 100000 in
set_option maxHeartbeats 2000000 in
theorem does_redo_any (sp rp : Nat) (A : Option Addr) (c : Nat) (l : List Int) (n : Nat) (most : Int) (D : Option Addr) (cd : Nat) (U : Option Addr) (cu : Nat) (on y : Int) (v : Value) (w : World) (x : Int) (h : PairS w sp rp A c l n most D cd U cu) (hx : l[n]? = some x) (hl : l.length < 900000000) :
    Calls Try.prog 40 #[.pointer (some ⟨sp, 0, none⟩), .pointer (some ⟨rp, 0, none⟩), .agg #[.int .i64 2, .int .i64 on, .int .i64 y], v] w fun e w' => e = .returned (.bool true) ∧ ∃ D' d' U' u', PairS w' sp rp A c l (n + 1) most D' d' U' u' ∧ Keeps (PairS.foot sp rp A D U) w w' ∧ (∀ b, (Value.slice D' 0 0).ownBlock = some b → w.heap.size ≤ b) ∧ ∀ b, (Value.slice U' 0 0).ownBlock = some b → w.heap.size ≤ b := by
  have HP := Lib.hid h
  have HX := Lib.hid hx
  have hlt := (List.getElem?_eq_some_iff.1 hx).1
  clear h hx
  go_enter Try.func40, Try.ntmps40
  go_wp2_with fail
  have K1 : Hid (Keeps (fun _ => False) w (w.alloc (.cells #[.int .i64 2, .int .i64 on, .int .i64 y] 76))) := Lib.hid ((Keeps.refl _ _).alloc _)
  have HP1 := Lib.hid (HP.out.calm K1.out (fun _ _ h => h))
  refine (redoI_any sp c n most x A l _ HP1.out.st HX.out (by omega)).mono ?_
  rintro e w1 ⟨rfl, hs1, k1⟩
  have HS1 := Lib.hid hs1
  have HK1 := Lib.hid k1
  have HR := Lib.hid (HP1.out.ref (k1.mono (fun _ _ h => .inl h)))
  clear hs1 k1
  go_wp2_with fail
  refine (refRedo_any x rp most U cu (l.drop (n + 1)).reverse D cd (l.take n) w1 (by rw [← drop_rev HX.out]; exact HR.out) (by simp; omega) (by simp; omega)).mono ?_
  rintro e w2 ⟨rfl, U1, u1, D1, d1, hr2, k2, new1, new2⟩
  have HP2 := Lib.hid (HP1.out.moved HS1.out (by rw [take_snoc HX.out]; exact hr2) k2 (fun b hb => new2 b (by rw [own_any D1 _ 0 d1 0]; exact hb)) (fun b hb => new1 b (by rw [own_any U1 _ 0 u1 0]; exact hb)))
  have HK2 : Hid (Keeps (PairS.foot sp rp A D U) w w2) := Lib.hid (((K1.out.mono (T := PairS.foot sp rp A D U) (fun _ _ h => h.elim)).trans (HK1.out.mono (T := PairS.foot sp rp A D U) (fun b _ h => .inl h))).trans (k2.mono (T := PairS.foot sp rp A D U) (fun b _ h => .inr (.inl h))))
  have hsz : w.heap.size ≤ w1.heap.size := by have h2 := K1.out.size; have h3 := HK1.out.size; omega
  have ND : Hid (∀ b, (Value.slice D1 0 0).ownBlock = some b → w.heap.size ≤ b) := Lib.hid (fun b hb => Nat.le_trans hsz (new2 b (by rw [own_any D1 _ 0 d1 0]; exact hb)))
  have NU : Hid (∀ b, (Value.slice U1 0 0).ownBlock = some b → w.heap.size ≤ b) := Lib.hid (fun b hb => Nat.le_trans hsz (new1 b (by rw [own_any U1 _ 0 u1 0]; exact hb)))
  clear hr2 k2 new1 new2
  go_wp2_with fail
  go_ret
  exact ⟨rfl, D1, d1, U1, u1, HP2.out, HK2.out, ND.out, NU.out⟩
end Go.Proofs.Ytbfhbekocgdceaa
