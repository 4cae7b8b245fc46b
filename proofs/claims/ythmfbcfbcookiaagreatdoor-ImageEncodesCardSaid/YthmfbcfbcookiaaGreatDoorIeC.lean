/-
  What both Encode and both Sum answer: the reference's walks. Conditions: lengths within 10 ^ 9.
-/
import Derived.Test.YthmfbcfbcookiaaGreatDoorIeM
import Derived.Test.YthmfbcfbcookiaaGreatDoorWMf
import Derived.Test.YthmfbcfbcookiaaGreatDoorImS
namespace Go.Proofs.YthmfbcfbcookiaaGreatDoor
open Go.RowKit
def eL (s : St) : List Byte := if (checkP s).1 = 0 then img s else []
def eE (s : St) : Int := if (checkP s).1 = 0 then 0 else 10
def eN (s : St) : Int := if (checkP s).1 = 0 then wn (Crc.crc (img s)) else 0
theorem img_len {s : St} (hc : (checkP s).1 = 0) : (img s).length ≤ 20000 := ((mayI hc).few).img
theorem eL_len (s : St) : (eL s).length ≤ 20000 := by
  unfold eL
  split
  · rename_i h; exact img_len h
  · simp
theorem byt_nil (w : World) (b : Nat) : Byt w b none 0 [] := World.ownsRow_nil _ _ _ _
theorem encodeAll_any (s : St) (Ap Ac Az : Option Addr) (cp cc cz : Nat) (w : World) (hx : StIn w w.heap.size s Ap Ac Az) (hs : StSmall s) (ht : in32 s.turn) :
    Calls Tryz.prog 7 #[.agg (stC s Ap Ac Az cp cc cz)] w fun e w' => ∃ A cap, e = .returned (.tuple #[.slice A (eL s).length cap, .int .i64 (eE s)]) ∧ Byt w' w.heap.size A cap (eL s) ∧ Keeps (fun _ => False) w w' := by
  unfold eL eE
  by_cases hc : (checkP s).1 = 0
  · rw [if_pos hc, if_pos hc]
    exact encode_yes s Ap Ac Az w.heap.size cp cc cz w hx (Nat.le_refl _) hs hc ht
  · rw [if_neg hc, if_neg hc]
    refine (encode_no s Ap Ac Az w.heap.size cp cc cz w hx (Nat.le_refl _) hs ((checkP_fst s).resolve_left hc)).mono ?_
    rintro e w' ⟨rfl, hk⟩
    exact ⟨none, 0, rfl, byt_nil _ _, hk⟩
theorem sumAll_any (s : St) (Ap Ac Az : Option Addr) (cp cc cz : Nat) (w : World) (hx : StIn w w.heap.size s Ap Ac Az) (hs : StSmall s) (ht : in32 s.turn) :
    Calls Tryz.prog 8 #[.agg (stC s Ap Ac Az cp cc cz)] w fun e w' => e = .returned (.tuple #[.int .u32 (eN s), .int .i64 (eE s)]) ∧ Keeps (fun _ => False) w w' := by
  unfold eN eE
  by_cases hc : (checkP s).1 = 0
  · rw [if_pos hc, if_pos hc]
    exact imSum_yes s Ap Ac Az w.heap.size cp cc cz w hx (Nat.le_refl _) hs hc ht
  · rw [if_neg hc, if_neg hc]
    exact imSum_no s Ap Ac Az w.heap.size cp cc cz w hx (Nat.le_refl _) hs ((checkP_fst s).resolve_left hc)
set_option maxRecDepth 100000 in
set_option maxHeartbeats 4000000 in
theorem refEncodeAll_any (s : St) (Ap Ac Az : Option Addr) (cp cc cz : Nat) (w : World) (hx : StIn w w.heap.size s Ap Ac Az) (hs : StSmall s) (ht : in32 s.turn) (hf : s.zones.flatten.length ≤ 1000000000) :
    Calls Tryz.prog 9 #[.agg (stC s Ap Ac Az cp cc cz)] w fun e w' => ∃ A cap, e = .returned (.tuple #[.slice A (eL s).length cap, .int .i64 (eE s)]) ∧ Byt w' w.heap.size A cap (eL s) ∧ Keeps (fun _ => False) w w' := by
  obtain ⟨w0, hw0⟩ : ∃ z, z = w.alloc (.cells (stC s Ap Ac Az cp cc cz) 27) := ⟨_, rfl⟩
  have k0 : Keeps (fun _ => False) w w0 := by rw [hw0]; exact (Keeps.refl _ _).alloc _
  have B0 : Hid (Whole w0 w.heap.size 27 (stC s Ap Ac Az cp cc cz)) := Lib.hid (by rw [hw0]; exact Whole.made w _ _)
  have X0 := Lib.hid (hx.past k0)
  have K0 := Lib.hid k0
  have HM := fun W (h : StIn W W.heap.size s Ap Ac Az) => may_any s Ap Ac Az W.heap.size cp cc cz W h (Nat.le_refl _) hs hf
  unfold stV at HM
  have HMM := Lib.hid HM
  have HT := Lib.hid ht
  clear hx k0 HM hs ht hf
  unfold stC at hw0
  unfold stC
  obtain ⟨a0, a1, a2, a3, a4, a5, a6, f0, f1, f2, f3, f4, f5, f6⟩ := seven B0.out
  clear f0 f1 f2 f3 f4 f5 f6
  rw [hw0] at a0 a1 a2 a3 a4 a5 a6
  go_enter Tryz.func9, Tryz.ntmps9
  go_wp2_with fail
  rw [← hw0]
  clear hw0 a0 a1 a2 a3 a4 a5 a6
  refine (HMM.out w0 X0.out).mono ?_
  rintro e w1 ⟨rfl, k1⟩
  have B1 := Lib.hid (B0.out.keeps k1 id)
  have X1 := Lib.hid (X0.out.past k1)
  have K1 := Lib.hid (K0.out.trans k1)
  clear k1 B0 X0 K0 HMM
  by_cases hc : (checkP s).1 = 0
  · have HE : Hid (eL s = img s ∧ eE s = 0) := Lib.hid ⟨if_pos hc, if_pos hc⟩
    rw [decide_eq_true hc]
    have HC := Lib.hid hc
    clear hc
    obtain ⟨a0, a1, a2, a3, a4, a5, a6, f0, f1, f2, f3, f4, f5, f6⟩ := seven B1.out
    clear f0 f1 f2 f3 f4 f5 f6
    have HI := refImage_any s Ap Ac Az cp cc cz w1 X1.out HC.out HT.out
    unfold stC at HI
    go_wp2_with fail
    refine HI.mono ?_
    rintro e w2 ⟨A, c, rfl, hb, hk⟩
    have hb2 := own_base hb (base' := w.heap.size) (fun k h => by have := (hb.lt k h).1; have := K1.out.size; omega)
    have HB := Lib.hid hb2
    have K2 := Lib.hid (K1.out.trans hk)
    clear hb hk HI a0 a1 a2 a3 a4 a5 a6 hb2
    go_wp2_with fail
    go_ret2
    refine ⟨A, c, ?_, ?_, K2.out⟩
    · rw [HE.out.1, HE.out.2]; rfl
    · rw [HE.out.1]; exact HB.out
  · have HE : Hid (eL s = [] ∧ eE s = 10) := Lib.hid ⟨if_neg hc, if_neg hc⟩
    rw [decide_eq_false hc]
    clear hc
    go_wp2_with fail
    go_ret2
    refine ⟨none, 0, ?_, ?_, K1.out⟩
    · rw [HE.out.1, HE.out.2]; rfl
    · rw [HE.out.1]; exact byt_nil _ _
set_option maxRecDepth 100000 in
set_option maxHeartbeats 4000000 in
theorem refSumAll_any (s : St) (Ap Ac Az : Option Addr) (cp cc cz : Nat) (w : World) (hx : StIn w w.heap.size s Ap Ac Az) (hs : StSmall s) (ht : in32 s.turn) (hf : s.zones.flatten.length ≤ 1000000000) :
    Calls Tryz.prog 10 #[.agg (stC s Ap Ac Az cp cc cz)] w fun e w' => e = .returned (.tuple #[.int .u32 (eN s), .int .i64 (eE s)]) ∧ Keeps (fun _ => False) w w' := by
  obtain ⟨w0, hw0⟩ : ∃ z, z = w.alloc (.cells (stC s Ap Ac Az cp cc cz) 27) := ⟨_, rfl⟩
  have k0 : Keeps (fun _ => False) w w0 := by rw [hw0]; exact (Keeps.refl _ _).alloc _
  have B0 : Hid (Whole w0 w.heap.size 27 (stC s Ap Ac Az cp cc cz)) := Lib.hid (by rw [hw0]; exact Whole.made w _ _)
  have K0 := Lib.hid k0
  have HE := refEncodeAll_any s Ap Ac Az cp cc cz w0 (hx.past k0) hs ht hf
  clear hx k0 hs ht hf
  have hl := eL_len s
  unfold stC at hw0 HE
  unfold stC
  obtain ⟨a0, a1, a2, a3, a4, a5, a6, f0, f1, f2, f3, f4, f5, f6⟩ := seven B0.out
  clear f0 f1 f2 f3 f4 f5 f6
  rw [hw0] at a0 a1 a2 a3 a4 a5 a6
  go_enter Tryz.func10, Tryz.ntmps10
  go_wp2_with fail
  rw [← hw0]
  clear hw0 a0 a1 a2 a3 a4 a5 a6
  refine HE.mono ?_
  rintro e w1 ⟨A, c, rfl, hb, hk⟩
  have HB := Lib.hid (own_lies hb)
  have K1 := Lib.hid (K0.out.trans hk)
  clear hb hk HE K0 B0
  have HC := fun (l : List Byte) (hl : l.length ≤ 20000) (h : Lies w1 w1.heap.size A (bytesV l)) => refCrc_any l A w1.heap.size c w1 h (by omega)
  have HCC := Lib.hid HC
  clear HC
  by_cases hc : (checkP s).1 = 0
  · have hE : eE s = 0 := if_pos hc
    have HN : Hid (eN s = wn (Crc.crc (img s)) ∧ eE s = 0) := Lib.hid ⟨if_pos hc, hE⟩
    have hL : eL s = img s := if_pos hc
    rw [hL] at HB hl ⊢
    rw [hE]
    clear hc hE hL
    go_wp2_with fail
    refine (HCC.out _ hl HB.out).mono ?_
    rintro e w2 ⟨rfl, rfl⟩
    go_wp2_with fail
    go_ret2
    refine ⟨?_, K1.out⟩
    rw [HN.out.1, HN.out.2]
    rfl
  · have hE : eE s = 10 := if_neg hc
    have HN : Hid (eN s = 0 ∧ eE s = 10) := Lib.hid ⟨if_neg hc, hE⟩
    rw [hE]
    clear hc hl HB hE
    go_wp2_with fail
    go_ret2
    refine ⟨?_, K1.out⟩
    rw [HN.out.1, HN.out.2]
    rfl
end Go.Proofs.YthmfbcfbcookiaaGreatDoor
