/-
  RowsStacks: does at a call of Do: the walk. Conditions: lengths within 10 ^ 8.
-/
import Derived.Test.YtbfhbekocgdceaaRtA
namespace Go.Proofs.Ytbfhbekocgdceaa
open Go.RowKit
set_option maxRecDepth 100000 in
set_option maxHeartbeats 2000000 in
theorem does_full (sp rp : Nat) (A : Option Addr) (c : Nat) (l : List Int) (n : Nat) (D : Option Addr) (cd : Nat) (U : Option Addr) (cu : Nat) (on x : Int) (v : Value) (w : World) (h : PairS w sp rp A c l n n D cd U cu) :
    Calls Try.prog 40 #[.pointer (some ⟨sp, 0, none⟩), .pointer (some ⟨rp, 0, none⟩), .agg #[.int .i64 0, .int .i64 on, .int .i64 x], v] w fun e w' => e = .returned (.bool true) ∧ Keeps (fun _ => False) w w' := by
  have HP := Lib.hid h
  have hle := h.st.le
  have hln : (l.take n).length = n := by rw [List.length_take]; omega
  have hN : (n : Int) ≤ ((l.take n).length : Int) := by omega
  have HLN := Lib.hid hN
  clear h hle hln hN
  go_enter Try.func40, Try.ntmps40
  go_wp2_with fail
  have K1 : Hid (Keeps (fun _ => False) w (w.alloc (.cells #[.int .i64 0, .int .i64 on, .int .i64 x] 76))) := Lib.hid ((Keeps.refl _ _).alloc _)
  have HP1 := Lib.hid (HP.out.calm K1.out (fun _ _ h => h))
  refine (doI_full sp c n x A l _ HP1.out.st).mono ?_
  rintro e w1 ⟨rfl, k1⟩
  have K2 := Lib.hid (K1.out.trans k1)
  have W1 : Hid (Whole w1 w.heap.size 76 #[.int .i64 0, .int .i64 on, .int .i64 x]) := Lib.hid ((Whole.made w _ _).keeps k1 id)
  have HP2 := Lib.hid (HP1.out.calm k1 (fun _ _ h => h))
  have x2 : w1.cell? ⟨w.heap.size, 2, none⟩ = some (.int .i64 x) := W1.out.cellAt 2
  clear k1
  go_wp2_with fail
  refine (refDo_full x rp n D cd (l.take n) U cu (l.drop n).reverse w1 HP2.out.re HLN.out).mono ?_
  rintro e w2 ⟨rfl, k2⟩
  go_wp2_with fail
  go_ret
  exact ⟨rfl, K2.out.trans k2⟩
set_option maxRecDepth 100000 in
set_option maxHeartbeats 2000000 in
theorem does_do (sp rp : Nat) (A : Option Addr) (c : Nat) (l : List Int) (n : Nat) (most : Int) (D : Option Addr) (cd : Nat) (U : Option Addr) (cu : Nat) (on x : Int) (v : Value) (w : World) (h : PairS w sp rp A c l n most D cd U cu) (hn : (n : Int) < most) (hl : n < 900000000) :
    Calls Try.prog 40 #[.pointer (some ⟨sp, 0, none⟩), .pointer (some ⟨rp, 0, none⟩), .agg #[.int .i64 0, .int .i64 on, .int .i64 x], v] w fun e w' => e = .returned (.bool true) ∧ ∃ A' c' D' d', PairS w' sp rp A' c' (l.take n ++ [x]) (n + 1) most D' d' none 0 ∧ Keeps (PairS.foot sp rp A D U) w w' ∧ (∀ b, (Value.slice A' 0 0).ownBlock = some b → (Value.slice A 0 0).ownBlock = some b ∨ w.heap.size ≤ b) ∧ ∀ b, (Value.slice D' 0 0).ownBlock = some b → w.heap.size ≤ b := by
  have HP := Lib.hid h
  have hle := h.st.le
  have hln : (l.take n).length = n := by rw [List.length_take]; omega
  have HLN := Lib.hid hln
  have HN := Lib.hid hn
  clear h hle hln hn
  go_enter Try.func40, Try.ntmps40
  go_wp2_with fail
  have K1 : Hid (Keeps (fun _ => False) w (w.alloc (.cells #[.int .i64 0, .int .i64 on, .int .i64 x] 76))) := Lib.hid ((Keeps.refl _ _).alloc _)
  have W0 : Hid (Whole (w.alloc (.cells #[.int .i64 0, .int .i64 on, .int .i64 x] 76)) w.heap.size 76 #[.int .i64 0, .int .i64 on, .int .i64 x]) := Lib.hid (Whole.made w _ _)
  have HP1 := Lib.hid (HP.out.calm K1.out (fun _ _ h => h))
  refine (doI_at sp c n most x A l _ HP1.out.st (by omega) (by have := HN.out; omega)).mono ?_
  rintro e w1 ⟨rfl, A1, c1, hs1, k1, loc⟩
  have NW : Hid (¬ (w.heap.size = sp ∨ (Value.slice A l.length c).ownBlock = some w.heap.size)) := Lib.hid (fun e => by
    rcases e with e | e
    · have := HP.out.st.box.inside; omega
    · have := (HP.out.st.own.lt _ e).2; omega)
  have W1 : Hid (Whole w1 w.heap.size 76 #[.int .i64 0, .int .i64 on, .int .i64 x]) := Lib.hid (W0.out.keeps k1 NW.out)
  have x2 : w1.cell? ⟨w.heap.size, 2, none⟩ = some (.int .i64 x) := W1.out.cellAt 2
  have HS1 := Lib.hid hs1
  have HK1 := Lib.hid k1
  have HL1 := Lib.hid loc
  clear hs1 k1 loc
  go_wp2_with fail
  refine (refDo_any x rp most D cd (l.take n) U cu (l.drop n).reverse w1 (HP1.out.ref HK1.out) (by have := HN.out; have := HLN.out; omega) (by have := HLN.out; omega)).mono ?_
  rintro e w2 ⟨rfl, D1, d1, hr2, k2, new⟩
  have HP2 := Lib.hid (HP1.out.did HS1.out HK1.out HL1.out hr2 k2 new)
  have HK2 : Hid (Keeps (PairS.foot sp rp A D U) w w2) := Lib.hid (((K1.out.mono (T := PairS.foot sp rp A D U) (fun _ _ h => h.elim)).trans (HK1.out.mono (T := PairS.foot sp rp A D U) (fun b _ h => by rcases h with h | h; exact .inl h; exact .inr (.inr (.inl (by rw [own_any A 0 l.length 0 c]; exact h)))))).trans (k2.mono (T := PairS.foot sp rp A D U) (fun b _ h => .inr (.inl h))))
  have HNEW : Hid (∀ b, (Value.slice D1 0 0).ownBlock = some b → w.heap.size ≤ b) := Lib.hid (fun b hb => by
    have h1 := new b (by rw [own_any D1 _ 0 d1 0]; exact hb)
    have h2 := (K1.out.mono (T := fun _ => True) (fun _ _ h => h.elim)).size
    have h3 := HK1.out.size
    omega)
  have HLOC : Hid (∀ b, (Value.slice A1 0 0).ownBlock = some b → (Value.slice A 0 0).ownBlock = some b ∨ w.heap.size ≤ b) := Lib.hid (fun b hb => by
    rcases HL1.out b (by rw [own_any A1 _ 0 c1 0]; exact hb) with h | h
    · exact .inl (by rw [own_any A 0 l.length 0 c]; exact h)
    · have h2 := K1.out.size
      exact .inr (by omega))
  clear hr2 k2 new
  go_wp2_with fail
  go_ret
  exact ⟨rfl, A1, c1, D1, d1, HP2.out, HK2.out, HLOC.out, HNEW.out⟩
end Go.Proofs.Ytbfhbekocgdceaa
