/-
  tableaulaw04.works: true, whatever the world. No condition.
-/
import Derived.Test.YtbfhbekocgdceaaCuT
import Derived.Test.YtbfhbekocgdceaaSkB
import Derived.Test.YtbfhbekocgdceaaHeI
namespace Go.Proofs.Ytbfhbekocgdceaa
open Go.RowKit
set_option maxHeartbeats 1000000 in
theorem newHeapI_any (w : World) :
    Calls Try.prog 61 #[.func (.func 62) #[] #[]] w fun e w' => e = .returned (.pointer (some ⟨w.heap.size, 0, none⟩)) ∧ HeapI w' w.heap.size none 0 [] 0 ∧ Keeps (fun _ => False) w w' := by
  go_enter Try.func61, Try.ntmps61
  go_wp2_with fail
  go_ret
  exact ⟨rfl, ⟨Whole.made w _ _, World.ownsRow_nil _ _ _ _⟩, (Keeps.refl _ w).alloc _⟩
theorem puts312 : putsI [] 0 [3, 1, 2] = [⟨1, 1⟩, ⟨3, 0⟩, ⟨2, 2⟩] := by
  simp [putsI, putOneI, upI, ahI, ltI, swapLI]
set_option maxRecDepth 100000 in
set_option maxHeartbeats 4000000 in
theorem rworks_any (w : World) : Calls Try.prog 10 #[] w fun e w' => e = .returned (.bool true) ∧ Keeps (fun _ => False) w w' := by
  go_enter Try.func10, Try.ntmps10
  go_wp2_with fail
  obtain ⟨w0, hw0⟩ : ∃ x, x = w.alloc (.cells #[.string ⟨#[97]⟩, .string ⟨#[98]⟩, .string ⟨#[99]⟩] 9) := ⟨_, rfl⟩
  have HL : Lies w0 w0.heap.size (some ⟨w.heap.size, 0, none⟩) [.string ⟨#[97]⟩, .string ⟨#[98]⟩, .string ⟨#[99]⟩] := by
    have e : w0.heap.size = w.heap.size + 1 := by rw [hw0]; simp
    rw [e, hw0]
    exact Lies.row (t := 9) (fr := (0, 0)) (heap_alloc_new _ _) (Nat.lt_succ_self _)
  have K0 : Hid (Keeps (fun _ => False) w w0) := Lib.hid (by rw [hw0]; exact (Keeps.refl _ w).alloc _)
  have H0 := Lib.hid (cutT_in [.string ⟨#[97]⟩, .string ⟨#[98]⟩, .string ⟨#[99]⟩] w.heap.size 0 3 1 w0 HL (by decide) (by decide) (by simp [Value.oneCell']) (by decide))
  rw [← hw0]
  clear HL hw0
  refine H0.out.mono ?_
  rintro e w1 ⟨A1, c1, rfl, hO1, k1⟩
  have K1 := Lib.hid (K0.out.and k1 (fun _ _ h => h.elim))
  have O1 : Hid (∃ g, A1 = some ⟨g, 0, none⟩ ∧ g < w1.heap.size ∧ w1.cell? ⟨g, 1, none⟩ = some (.string ⟨#[99]⟩) ∧ w0.heap.size ≤ g) := Lib.hid (by
    obtain ⟨g, cs, hA, hg, hW, hc, _, ht⟩ := own_whole hO1 (by decide)
    subst hA
    refine ⟨g, rfl, hW.inside, ?_, hg⟩
    rw [own_cells hO1 rfl (by decide)]; rfl)
  clear K0 H0 hO1 k1
  go_wp2_with fail
  refine (newStackB_any 3 w1 (by decide)).mono ?_
  rintro e w2 ⟨rfl, hS2, k2⟩
  obtain ⟨sp, hsp⟩ : ∃ sp, sp = w1.heap.size := ⟨_, rfl⟩
  rw [← hsp] at hS2
  rw [← hsp]
  have HSP := Lib.hid hsp
  clear hsp
  have S2 := Lib.hid (doB_any sp 0 0 3 5 none [] w2 hS2 (by decide) (by decide))
  have K2 := Lib.hid k2
  clear hS2 k2
  go_wp2_with fail
  refine S2.out.mono ?_
  rintro e w3 ⟨rfl, A3, c3, hS3, k3⟩
  have S3 := Lib.hid (doB_any sp c3 1 3 6 A3 [5] w3 hS3 (by decide) (by decide))
  have K3 := Lib.hid k3
  have S3i := Lib.hid hS3.own.lt
  clear hS3 k3 S2
  go_wp2_with fail
  refine S3.out.mono ?_
  rintro e w4 ⟨rfl, A4, c4, hS4, k4⟩
  have S4 := Lib.hid (undoB_any sp c4 1 3 6 A4 [5, 6] w4 hS4 rfl (by decide))
  have K4 := Lib.hid k4
  clear hS4 k4 S3
  go_wp2_with fail
  refine S4.out.mono ?_
  rintro e w5 ⟨rfl, -, k5⟩
  have K5 : Hid (Keeps (fun b => w1.heap.size ≤ b) w1 w5) := Lib.hid (((K2.out.mono (T := fun b => w1.heap.size ≤ b) (fun _ _ h => h.elim)).and K3.out (fun b hb h => by
      rcases h with h | h
      · rw [h, HSP.out]; exact Nat.le_refl _
      · cases h)).and K4.out (fun b hb h => by
      rcases h with h | h
      · rw [h, HSP.out]; exact Nat.le_refl _
      · have := (S3i.out b h).1
        have := HSP.out
        omega) |>.and k5 (fun b hb h => by
        have h : b = sp := h
        rw [h, HSP.out]; exact Nat.le_refl _))
  clear k5 S4 K2 K3 K4 S3i
  go_wp2_with fail
  refine (newHeapI_any w5).mono ?_
  rintro e w6 ⟨rfl, hH6, k6⟩
  obtain ⟨hp, hhp⟩ : ∃ hp, hp = w5.heap.size := ⟨_, rfl⟩
  rw [← hhp] at hH6
  rw [← hhp]
  have HHP := Lib.hid hhp
  have H6 := Lib.hid hH6
  have K6 := Lib.hid k6
  clear hhp hH6 k6
  go_wp2_with fail
  obtain ⟨w7, hw7⟩ : ∃ x, x = w6.alloc (.cells #[.int .i64 3, .int .i64 1, .int .i64 2] 3) := ⟨_, rfl⟩
  have K7 : Hid (Keeps (fun _ => False) w6 w7) := Lib.hid (by rw [hw7]; exact (Keeps.refl _ w6).alloc _)
  have W7 : Hid (Whole w7 w6.heap.size 3 #[.int .i64 3, .int .i64 1, .int .i64 2]) := Lib.hid (by rw [hw7]; exact Whole.made _ _ _)
  rw [← hw7]
  clear hw7
  have hph : hp < w6.heap.size := H6.out.box.inside
  have P7 := Lib.hid (hputI_any hp 0 3 0 none (some ⟨w6.heap.size, 0, none⟩) [] [3, 1, 2] w7 (H6.out.calm K7.out id (fun _ _ => id)) (by decide) (by decide) (fun W hW j x hj => by
    refine ⟨w6.heap.size, 0, rfl, ?_⟩
    rw [(W7.out.keeps hW (by rintro (h | h); omega; cases h)).cellAt]
    match j, hj with
    | 0, hj => exact congrArg (fun o => o.map (Value.int .i64)) hj
    | 1, hj => exact congrArg (fun o => o.map (Value.int .i64)) hj
    | 2, hj => exact congrArg (fun o => o.map (Value.int .i64)) hj))
  refine P7.out.mono ?_
  rintro e w8 ⟨rfl, A8, c8, hH8, k8, ho8⟩
  have K8 := Lib.hid k8
  have O8 := Lib.hid ho8
  have T8 := Lib.hid (htakeI_any hp c8 3 A8 _ ⟨1, 1⟩ w8 hH8 (by rw [puts312]; rfl) (by rw [puts312]; decide))
  clear P7 hH8 k8 ho8 W7
  go_wp2_with fail
  refine T8.out.mono ?_
  rintro e w9 ⟨rfl, -, k9⟩
  obtain ⟨g, rfl, hg, hgc, _⟩ := O1.out
  have KK : Hid (Keeps (fun b => w1.heap.size ≤ b) w1 w9) := Lib.hid (by
    have h5 := K5.out.size
    have h6 := K6.out.size
    have h7 := K7.out.size
    have hp5 := HHP.out
    refine (((K5.out.and K6.out (fun _ _ h => h.elim)).and K7.out (fun _ _ h => h.elim)).and K8.out (fun b hb h => ?_)).and k9 (fun b hb h => ?_)
    · rcases h with h | h
      · show w1.heap.size ≤ b; omega
      · cases h
    · rcases h with h | h
      · show w1.heap.size ≤ b; omega
      · rcases O8.out b h with h2 | h2
        · cases h2
        · show w1.heap.size ≤ b; omega)
  have hc9 : w9.cell? ⟨g, 1, none⟩ = some (.string ⟨#[99]⟩) := by rw [KK.out.cell hg (by omega)]; exact hgc
  have KF : Hid (Keeps (fun _ => False) w w9) := Lib.hid ⟨KK.out.os.trans K1.out.os, KK.out.tape.trans K1.out.tape, KK.out.output.trans K1.out.output, Nat.le_trans K1.out.size KK.out.size, fun k hk hn => (KK.out.block k (Nat.lt_of_lt_of_le hk K1.out.size) (by have := K1.out.size; omega)).trans (K1.out.block k hk hn)⟩
  clear k9 KK O1 T8 K8 O8 K7 K6 K5 hgc
  go_wp2_with fail
  go_ret
  exact ⟨rfl, KF.out⟩
end Go.Proofs.Ytbfhbekocgdceaa
