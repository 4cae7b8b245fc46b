/-
  The law's 'works': a game begins: the walk. Conditions: none.
-/
import Derived.Test.YtgbikcliembkcaaDoorNwB
namespace Go.Proofs.YtgbikcliembkcaaDoor
open Go.RowKit
def wkDecks : List (List Cd) := [[⟨1, 7, 0, 0, 0, 0⟩], [⟨2, 0, 0, 0, 0, 0⟩, ⟨2, 0, 0, 0, 0, 0⟩]]
theorem wk_ok : newOk wkDecks 20 0 = true := by decide
theorem wk_check : checkP (newS wkDecks 20 0) = (0, 0) := by decide
theorem wk_where : whereO (newS wkDecks 20 0) 2 = some (4, 1) := by decide
theorem wk_val (Ap Ac Az : Option Addr) (cp cc cz : Nat) : stV (newS wkDecks 20 0) Ap Ac Az cp cc cz = .agg #[.slice Ap 2 cp, .slice Ac 3 cc, .slice Az 8 cz, .int .i32 1, .int .i64 0, .int .i8 0, .int .i64 0] := rfl
theorem wk_small : StSmall (newS wkDecks 20 0) := ⟨by decide, by decide, by decide, by decide⟩
theorem wk_decks (w : World) : DecksLie (((w.alloc (.cells #[.int .i64 1, .int .i64 7, .int .i32 0, .int .i32 0, .int .i32 0, .int .i32 0] 68)).alloc (.cells #[.int .i64 2, .int .i64 0, .int .i32 0, .int .i32 0, .int .i32 0, .int .i32 0, .int .i64 2, .int .i64 0, .int .i32 0, .int .i32 0, .int .i32 0, .int .i32 0] 68)).alloc (.cells #[.slice (some ⟨w.heap.size, 0, none⟩) 1 1, .slice (some ⟨w.heap.size + 1, 0, none⟩) 2 2] 26)) (((w.alloc (.cells #[.int .i64 1, .int .i64 7, .int .i32 0, .int .i32 0, .int .i32 0, .int .i32 0] 68)).alloc (.cells #[.int .i64 2, .int .i64 0, .int .i32 0, .int .i32 0, .int .i32 0, .int .i32 0, .int .i64 2, .int .i64 0, .int .i32 0, .int .i32 0, .int .i32 0, .int .i32 0] 68)).alloc (.cells #[.slice (some ⟨w.heap.size, 0, none⟩) 1 1, .slice (some ⟨w.heap.size + 1, 0, none⟩) 2 2] 26)).heap.size (some ⟨w.heap.size + 1 + 1, 0, none⟩) wkDecks := by
  have W0 : Whole (((w.alloc (.cells #[.int .i64 1, .int .i64 7, .int .i32 0, .int .i32 0, .int .i32 0, .int .i32 0] 68)).alloc (.cells #[.int .i64 2, .int .i64 0, .int .i32 0, .int .i32 0, .int .i32 0, .int .i32 0, .int .i64 2, .int .i64 0, .int .i32 0, .int .i32 0, .int .i32 0, .int .i32 0] 68)).alloc (.cells #[.slice (some ⟨w.heap.size, 0, none⟩) 1 1, .slice (some ⟨w.heap.size + 1, 0, none⟩) 2 2] 26)) w.heap.size 68 (flat Cd.cells [⟨1, 7, 0, 0, 0, 0⟩]).toArray := ((Whole.made w _ _).alloc _).alloc _
  have W1 : Whole (((w.alloc (.cells #[.int .i64 1, .int .i64 7, .int .i32 0, .int .i32 0, .int .i32 0, .int .i32 0] 68)).alloc (.cells #[.int .i64 2, .int .i64 0, .int .i32 0, .int .i32 0, .int .i32 0, .int .i32 0, .int .i64 2, .int .i64 0, .int .i32 0, .int .i32 0, .int .i32 0, .int .i32 0] 68)).alloc (.cells #[.slice (some ⟨w.heap.size, 0, none⟩) 1 1, .slice (some ⟨w.heap.size + 1, 0, none⟩) 2 2] 26)) (w.heap.size + 1) 68 (flat Cd.cells [⟨2, 0, 0, 0, 0, 0⟩, ⟨2, 0, 0, 0, 0, 0⟩]).toArray := by
    have h := (Whole.made (w.alloc (.cells #[.int .i64 1, .int .i64 7, .int .i32 0, .int .i32 0, .int .i32 0, .int .i32 0] 68)) 68 (flat Cd.cells [⟨2, 0, 0, 0, 0, 0⟩, ⟨2, 0, 0, 0, 0, 0⟩]).toArray).alloc (.cells #[.slice (some ⟨w.heap.size, 0, none⟩) 1 1, .slice (some ⟨w.heap.size + 1, 0, none⟩) 2 2] 26)
    rwa [show (w.alloc (.cells #[.int .i64 1, .int .i64 7, .int .i32 0, .int .i32 0, .int .i32 0, .int .i32 0] 68)).heap.size = w.heap.size + 1 by simp] at h
  have W2 : Whole (((w.alloc (.cells #[.int .i64 1, .int .i64 7, .int .i32 0, .int .i32 0, .int .i32 0, .int .i32 0] 68)).alloc (.cells #[.int .i64 2, .int .i64 0, .int .i32 0, .int .i32 0, .int .i32 0, .int .i32 0, .int .i64 2, .int .i64 0, .int .i32 0, .int .i32 0, .int .i32 0, .int .i32 0] 68)).alloc (.cells #[.slice (some ⟨w.heap.size, 0, none⟩) 1 1, .slice (some ⟨w.heap.size + 1, 0, none⟩) 2 2] 26)) (w.heap.size + 1 + 1) 26 #[.slice (some ⟨w.heap.size, 0, none⟩) 1 1, .slice (some ⟨w.heap.size + 1, 0, none⟩) 2 2] := by
    have h := Whole.made ((w.alloc (.cells #[.int .i64 1, .int .i64 7, .int .i32 0, .int .i32 0, .int .i32 0, .int .i32 0] 68)).alloc (.cells #[.int .i64 2, .int .i64 0, .int .i32 0, .int .i32 0, .int .i32 0, .int .i32 0, .int .i64 2, .int .i64 0, .int .i32 0, .int .i32 0, .int .i32 0, .int .i32 0] 68)) 26 #[.slice (some ⟨w.heap.size, 0, none⟩) 1 1, .slice (some ⟨w.heap.size + 1, 0, none⟩) 2 2]
    rwa [show ((w.alloc (.cells #[.int .i64 1, .int .i64 7, .int .i32 0, .int .i32 0, .int .i32 0, .int .i32 0] 68)).alloc (.cells #[.int .i64 2, .int .i64 0, .int .i32 0, .int .i32 0, .int .i32 0, .int .i32 0, .int .i64 2, .int .i64 0, .int .i32 0, .int .i32 0, .int .i32 0, .int .i32 0] 68)).heap.size = w.heap.size + 1 + 1 by simp] at h
  intro i d hi
  match i, hi with
  | 0, hi =>
    injection hi with hi
    subst hi
    exact ⟨w.heap.size + 1 + 1, 0, some ⟨w.heap.size, 0, none⟩, 1, rfl, W2.inside, W2.cellAt 0, FLies.whole (f := Cd.cells) (k := 6) (fun _ => rfl) W0 (fun _ _ h => h) W0.inside⟩
  | 1, hi =>
    injection hi with hi
    subst hi
    exact ⟨w.heap.size + 1 + 1, 0, some ⟨w.heap.size + 1, 0, none⟩, 2, rfl, W2.inside, W2.cellAt 1, FLies.whole (f := Cd.cells) (k := 6) (fun _ => rfl) W1 (fun _ _ h => h) W1.inside⟩
set_option maxRecDepth 100000 in
set_option maxHeartbeats 4000000 in
theorem works_any (w : World) : Calls Tryd.prog 15 #[] w fun e w' => e = .returned (.bool true) ∧ Keeps (fun _ => False) w w' := by
  have HD := Lib.hid (wk_decks w)
  have K0 := Lib.hid ((((Keeps.refl (fun _ => False) w).alloc (.cells #[.int .i64 1, .int .i64 7, .int .i32 0, .int .i32 0, .int .i32 0, .int .i32 0] 68)).alloc (.cells #[.int .i64 2, .int .i64 0, .int .i32 0, .int .i32 0, .int .i32 0, .int .i32 0, .int .i64 2, .int .i64 0, .int .i32 0, .int .i32 0, .int .i32 0, .int .i32 0] 68)).alloc (.cells #[.slice (some ⟨w.heap.size, 0, none⟩) 1 1, .slice (some ⟨w.heap.size + 1, 0, none⟩) 2 2] 26))
  go_enter Tryd.func15, Tryd.ntmps15
  go_wp2_with fail
  generalize ((w.alloc (.cells #[.int .i64 1, .int .i64 7, .int .i32 0, .int .i32 0, .int .i32 0, .int .i32 0] 68)).alloc (.cells #[.int .i64 2, .int .i64 0, .int .i32 0, .int .i32 0, .int .i32 0, .int .i32 0, .int .i64 2, .int .i64 0, .int .i32 0, .int .i32 0, .int .i32 0, .int .i32 0] 68)).alloc (.cells #[.slice (some ⟨w.heap.size, 0, none⟩) 1 1, .slice (some ⟨w.heap.size + 1, 0, none⟩) 2 2] 26) = w0 at *
  refine (new_any wkDecks 20 0 (some ⟨w.heap.size + 1 + 1, 0, none⟩) w0.heap.size 2 w0 HD.out (Nat.le_refl _) (by decide) (by decide)).mono ?_
  rintro e w1 ⟨_, hyes, hk⟩
  obtain ⟨Ap, Ac, Az, cp, cc, cz, cells, rfl, hcopy, _⟩ := hyes wk_ok
  rw [wk_val]
  have HL := Lib.hid hcopy.lies
  have K1 := Lib.hid (K0.out.trans hk)
  clear hcopy hk hyes K0 HD
  have hb : w1.heap.size < (w1.alloc (.cells #[.slice Ap 2 cp, .slice Ac 3 cc, .slice Az 8 cz, .int .i32 1, .int .i64 0, .int .i8 0, .int .i64 0] 32)).heap.size := by simp
  have HM := Lib.hid (Whole.made w1 32 #[.slice Ap 2 cp, .slice Ac 3 cc, .slice Az 8 cz, .int .i32 1, .int .i64 0, .int .i8 0, .int .i64 0])
  have HL2 := Lib.hid (HL.out.past ((Keeps.refl (fun _ => False) w1).alloc (.cells #[.slice Ap 2 cp, .slice Ac 3 cc, .slice Az 8 cz, .int .i32 1, .int .i64 0, .int .i8 0, .int .i64 0] 32)))
  have K2 := Lib.hid (K1.out.alloc (.cells #[.slice Ap 2 cp, .slice Ac 3 cc, .slice Az 8 cz, .int .i32 1, .int .i64 0, .int .i8 0, .int .i64 0] 32))
  clear HL K1
  go_wp2_with fail
  generalize w1.alloc (.cells #[.slice Ap 2 cp, .slice Ac 3 cc, .slice Az 8 cz, .int .i32 1, .int .i64 0, .int .i8 0, .int .i64 0] 32) = v1 at *
  refine (check_any (newS wkDecks 20 0) Ap Ac Az v1.heap.size cp cc cz v1 HL2.out (Nat.le_refl _) wk_small).mono ?_
  rintro e w2 ⟨rfl, k2⟩
  rw [wk_check]
  have HM2 := Lib.hid (HM.out.keeps k2 id)
  have HL3 := Lib.hid (HL2.out.past k2)
  have K3 := Lib.hid (K2.out.trans k2)
  clear HM HL2 K2 k2 hb
  generalize w1.heap.size = gb at *
  obtain ⟨a0, a1, a2, a3, a4, a5, a6, f0, f1, f2, f3, f4, f5, f6⟩ := seven HM2.out
  go_wp2_with fail
  clear a0 a1 a2 a3 a4 a5 a6 f0 f1 f2 f3 f4 f5 f6
  refine (where_any (newS wkDecks 20 0) 2 Ap Ac Az w2.heap.size cp cc cz w2 HL3.out (Nat.le_refl _) wk_small).mono ?_
  rintro e w3 ⟨rfl, k3⟩
  rw [wk_where]
  have HM3 := Lib.hid (HM2.out.keeps k3 id)
  have HL4 := Lib.hid (HL3.out.past k3)
  have K4 := Lib.hid (K3.out.trans k3)
  clear HM2 HL3 K3 k3
  obtain ⟨a0, a1, a2, a3, a4, a5, a6, f0, f1, f2, f3, f4, f5, f6⟩ := seven HM3.out
  obtain ⟨gc, oc, rfl, _, d0, d1, d2, d3, d4, d5⟩ := CdLies.cells HL4.out.cards 0 ⟨1, 0, 0, 0, 0, 0⟩ rfl
  simp only [Nat.zero_mul, Nat.add_zero] at d0 d1 d2 d3 d4 d5
  simp only [whereV]
  go_wp2_with fail
  go_ret
  exact ⟨rfl, K4.out⟩
end Go.Proofs.YtgbikcliembkcaaDoor
