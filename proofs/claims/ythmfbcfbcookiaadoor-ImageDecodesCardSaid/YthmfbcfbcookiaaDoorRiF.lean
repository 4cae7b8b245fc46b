/-
  The law ImageDecodes: the walk. Conditions: none but what an argument brings.
-/
import Derived.Test.YthmfbcfbcookiaaDoorRiMb
import Derived.Test.YthmfbcfbcookiaaDoorImMh
namespace Go.Proofs.YthmfbcfbcookiaaDoor
open Go.RowKit
set_option maxRecDepth 100000 in
set_option maxHeartbeats 8000000 in
theorem imageDecodes_any (A : Option Addr) (cap : Nat) (b : List Byte) (w : World) (hm : Lies w w.heap.size A (bytesV b)) (hcap : b.length ≤ cap) :
    Calls Tryd.prog 6 #[.slice A b.length cap] w fun e w' => e = .returned (.bool true) ∧ Keeps (fun _ => False) w w' := by
  have HM := Lib.hid hm
  clear hm
  go_enter Tryd.func6, Tryd.ntmps6
  go_wp2_with fail
  refine (works07_any w).mono ?_
  rintro e w1 ⟨rfl, k1⟩
  have K1 := Lib.hid k1
  have M1 := Lib.hid (HM.out.keep (fun _ _ hb => k1.cell hb id))
  have hs1 : w.heap.size ≤ w1.heap.size := k1.size
  clear k1 HM
  by_cases hb : b.length ≤ 4194304
  rotate_left
  · have hd : decide ((4194304 : Int) < (b.length : Int)) = true := decide_eq_true (by omega)
    have hd2 : decide (4194304 < b.length) = true := decide_eq_true (by omega)
    go_wp2_with fail
    go_ret
    exact ⟨rfl, K1.out⟩
  go_wp2_with fail
  refine (wideBytes_any b A w.heap.size cap w1 M1.out hs1 (by omega)).mono ?_
  rintro e w2 ⟨rfl, hw2⟩
  have ka : Keeps (fun _ => False) w1 w2 := by rw [← hw2]; exact (Keeps.refl _ _).alloc _
  have K2 := Lib.hid (K1.out.trans ka)
  have M2 := Lib.hid (M1.out.keep (fun _ _ hb => ka.cell (by omega) id))
  have W2 : Hid (Whole w2 w1.heap.size 5 (wideB b)) := Lib.hid (by rw [← hw2]; exact Whole.made w1 _ _)
  clear ka hw2 K1 M1
  obtain ⟨gi, hgi⟩ : ∃ z, z = w1.heap.size := ⟨_, rfl⟩
  rw [← hgi] at hs1 W2 ⊢
  clear hgi
  have HD : Hid (∀ W, Whole W gi 5 (wideB b) → Calls Tryd.prog 12 #[.slice (some ⟨gi, 0, none⟩) b.length (b.length + 64)] W fun e w' => ∃ (Ap Ac Az : Option Addr) (cp cc cz : Nat) (cells : List Value), e = .returned (.tuple #[.agg (stC (dS b) Ap Ac Az cp cc cz), .int .i64 (dE b), .int .i64 (dP b)]) ∧ CopyIn w' W.heap.size (dS b) Ap Ac Az cp cc cz cells ∧ Apt cells ∧ Keeps (fun _ => False) W w') := Lib.hid (fun W hW => decodeAll_any (some ⟨gi, 0, none⟩) W.heap.size (b.length + 64) b W (wideB_lies b hW hW.inside) (Nat.le_refl _) (Nat.le_add_right _ _) (by omega))
  have HRD : Hid (∀ W, w.heap.size ≤ W.heap.size → Lies W w.heap.size A (bytesV b) → Calls Tryd.prog 19 #[.slice A b.length cap] W fun e w' => ∃ (Ap Ac Az : Option Addr) (cp cc cz : Nat) (cells : List Value), e = .returned (.tuple #[.agg (stC (dS b) Ap Ac Az cp cc cz), .int .i64 (dE b), .int .i64 (dP b)]) ∧ CopyIn w' W.heap.size (dS b) Ap Ac Az cp cc cz cells ∧ Keeps (fun _ => False) W w') := Lib.hid (fun W hW hl => refDecodeAll_any A w.heap.size cap b W hl hW hcap (by omega))
  have SM := Lib.hid (dS_small b)
  generalize dS b = s at *
  generalize dE b = er at *
  generalize dP b = pl at *
  unfold stC at HD HRD
  go_wp2_with fail
  refine (HD.out w2 W2.out).mono ?_
  rintro e w3 ⟨A1, D1, Z1, c1, d1, z1, cells1, rfl, hc1, hap1, k1⟩
  have kb := k1.trans ((Keeps.refl _ w3).alloc (.cells #[.slice A1 s.players.length c1, .slice D1 s.cards.length d1, .slice Z1 s.zones.length z1, .int .i32 s.turn, .int .i64 s.whose, .int .i8 s.fin, .int .i64 s.winner] 27))
  have K3 := Lib.hid (K2.out.trans kb)
  have M3 := Lib.hid (M2.out.keep (fun _ _ hb => kb.cell (by have := K2.out.size; omega) id))
  have W3 := Lib.hid (W2.out.keeps kb id)
  have hin2 : gi < w2.heap.size := W2.out.inside
  have hs3 : w2.heap.size ≤ w3.heap.size := k1.size
  have D3 := Lib.hid (Dc.made hc1 hap1 SM.out)
  unfold stC at D3
  clear hc1 hap1 k1 kb K2 M2 W2
  go_wp2_with fail
  have hs4 : w3.heap.size < (w3.alloc (.cells #[.slice A1 s.players.length c1, .slice D1 s.cards.length d1, .slice Z1 s.zones.length z1, .int .i32 s.turn, .int .i64 s.whose, .int .i8 s.fin, .int .i64 s.winner] 27)).heap.size := D3.out.box.inside
  generalize w3.alloc (.cells #[.slice A1 s.players.length c1, .slice D1 s.cards.length d1, .slice Z1 s.zones.length z1, .int .i32 s.turn, .int .i64 s.whose, .int .i8 s.fin, .int .i64 s.winner] 27) = w4 at *
  refine (HD.out w4 W3.out).mono ?_
  rintro e w5 ⟨A2, D2, Z2, c2, d2, z2, cells2, rfl, hc1, hap1, k1⟩
  have kb := k1.trans ((Keeps.refl _ w5).alloc (.cells #[.slice A2 s.players.length c2, .slice D2 s.cards.length d2, .slice Z2 s.zones.length z2, .int .i32 s.turn, .int .i64 s.whose, .int .i8 s.fin, .int .i64 s.winner] 27))
  have K5 := Lib.hid (K3.out.trans kb)
  have M5 := Lib.hid (M3.out.keep (fun _ _ hb => kb.cell (by have := K3.out.size; omega) id))
  have W5 := Lib.hid (W3.out.keeps kb id)
  have hs5 : w4.heap.size ≤ w5.heap.size := k1.size
  have D5 := Lib.hid (D3.out.calm kb)
  have E5 := Lib.hid (Dc.made hc1 hap1 SM.out)
  unfold stC at E5
  clear hc1 hap1 k1 kb K3 M3 W3 D3 HD
  go_wp2_with fail
  have hs6 : w5.heap.size < (w5.alloc (.cells #[.slice A2 s.players.length c2, .slice D2 s.cards.length d2, .slice Z2 s.zones.length z2, .int .i32 s.turn, .int .i64 s.whose, .int .i8 s.fin, .int .i64 s.winner] 27)).heap.size := E5.out.box.inside
  generalize w5.alloc (.cells #[.slice A2 s.players.length c2, .slice D2 s.cards.length d2, .slice Z2 s.zones.length z2, .int .i32 s.turn, .int .i64 s.whose, .int .i8 s.fin, .int .i64 s.winner] 27) = w6 at *
  refine (HRD.out w6 (by have := K5.out.size; omega) M5.out).mono ?_
  rintro e w7 ⟨A3, D3, Z3, c3, d3, z3, cells3, rfl, hc1, k1⟩
  have kb := k1.trans ((Keeps.refl _ w7).alloc (.cells #[.slice A3 s.players.length c3, .slice D3 s.cards.length d3, .slice Z3 s.zones.length z3, .int .i32 s.turn, .int .i64 s.whose, .int .i8 s.fin, .int .i64 s.winner] 27))
  have K7 := Lib.hid (K5.out.trans kb)
  have M7 := Lib.hid (M5.out.keep (fun _ _ hb => kb.cell (by have := K5.out.size; omega) id))
  have W7 := Lib.hid (W5.out.keeps kb id)
  have hs7 : w6.heap.size ≤ w7.heap.size := k1.size
  have D7 := Lib.hid (D5.out.calm kb)
  have E7 := Lib.hid (E5.out.calm kb)
  have F7 := Lib.hid (Dw.made hc1)
  unfold stC at F7
  clear hc1 k1 kb K5 M5 W5 D5 E5 HRD
  go_wp2_with fail
  have hs8 : w7.heap.size < (w7.alloc (.cells #[.slice A3 s.players.length c3, .slice D3 s.cards.length d3, .slice Z3 s.zones.length z3, .int .i32 s.turn, .int .i64 s.whose, .int .i8 s.fin, .int .i64 s.winner] 27)).heap.size := F7.out.box.inside
  generalize w7.alloc (.cells #[.slice A3 s.players.length c3, .slice D3 s.cards.length d3, .slice Z3 s.zones.length z3, .int .i32 s.turn, .int .i64 s.whose, .int .i8 s.fin, .int .i64 s.winner] 27) = w8 at *
  have HEB := eqBytes_any b b (some ⟨gi, 0, none⟩) A w8.heap.size w.heap.size (b.length + 64) cap w8 (wideB_lies b W7.out W7.out.inside) M7.out (by omega)
  simp only [decide_true] at HEB
  refine HEB.mono ?_
  clear HEB
  rintro e w9 ⟨rfl, hbl⟩
  have kb : Keeps (fun _ => False) w8 w9 := keepsAll hbl
  have K9 := Lib.hid (K7.out.trans kb)
  have W9 := Lib.hid (W7.out.keeps kb id)
  have D9 := Lib.hid (D7.out.calm kb)
  have E9 := Lib.hid (E7.out.calm kb)
  have F9 := Lib.hid (F7.out.calm kb)
  have hs9 : w8.heap.size ≤ w9.heap.size := kb.size
  clear hbl kb K7 W7 D7 E7 F7 M7
  go_wp2_with fail
  refine (spareBytes_any b gi w9 W9.out (by omega)).mono ?_
  rintro e wa ⟨rfl, rfl⟩
  have hq1 : (er != er) = false := by simp
  have hq2 : (pl != pl) = false := by simp
  go_wp2_with fail
  clear hq1 hq2
  have hgi2 : w.heap.size ≤ gi := hs1
  go_loopw [15] (fun vi wr => ∃ (i : Nat) (cs : Array Value), i ≤ b.length ∧ vi = .int .i64 i ∧ cs.size = b.length + 64 ∧ Hid (Whole wr gi 5 cs) ∧ Hid (Keeps (fun _ => False) w wr) ∧ Hid (Dc wr w3.heap.size w2.heap.size w3.heap.size s A1 D1 Z1 c1 d1 z1 cells1) ∧ Hid (Dc wr w5.heap.size w4.heap.size w5.heap.size s A2 D2 Z2 c2 d2 z2 cells2) ∧ Hid (Dw wr w7.heap.size w6.heap.size s A3 D3 Z3 c3 d3 z3 cells3)) (fun vi _ => b.length - (intOf vi).toNat)
  case atStart => exact ⟨0, _, by omega, rfl, wideB_size b, W9, K9, D9, E9, F9⟩
  case round =>
    clear W9 K9 D9 E9 F9
    obtain ⟨i, cs, hi, rfl, hcs, HW, HK, HD, HE, HF⟩ := hrel
    by_cases hlt : i < b.length
    · obtain ⟨u, hu⟩ : ∃ u, wr.cell? ⟨gi, i, none⟩ = some u := ⟨_, (HW.out.cellAt i).trans (Array.getElem?_eq_getElem (by omega))⟩
      have hf := HW.out.free i
      have hks : Keeps (fun x => x = gi) wr (wr.setCell ⟨gi, i, none⟩ (.int .u8 7)) := Keeps.setCell (S := fun x => x = gi) (Keeps.refl _ _) (fun _ => rfl) _
      have hT := ofKind_one HW.out
      have HW2 := Lib.hid (HW.out.put i (.int .u8 7))
      have HK2 := Lib.hid (HK.out.and hks (fun k hk e => by omega))
      have HD2 := Lib.hid (HD.out.over hks hT)
      have HE2 := Lib.hid (HE.out.over hks hT)
      have HF2 := Lib.hid (HF.out.over hks hT)
      have hcs2 : (cs.setIfInBounds i (.int .u8 7)).size = b.length + 64 := by rw [Array.size_setIfInBounds]; exact hcs
      have HCS := Lib.hid hcs2
      clear hks hT HW HK HD HE HF hcs2 hcs
      go_wp2_with fail
      go_roundw
      case rel => exact ⟨i + 1, _, by omega, by go_num, HCS.out, HW2, HK2, HD2, HE2, HF2⟩
      case measure => simp [intOf]; omega
    · obtain rfl : i = b.length := by omega
      clear hlt hi hcs HW
      have HEQ : Hid (∀ W (A D Z : Option Addr) (c d z : Nat), StIn W W.heap.size s A D Z → StIn W W.heap.size s A3 D3 Z3 → Calls Tryd.prog 13 #[.agg #[.slice A s.players.length c, .slice D s.cards.length d, .slice Z s.zones.length z, .int .i32 s.turn, .int .i64 s.whose, .int .i8 s.fin, .int .i64 s.winner], .agg #[.slice A3 s.players.length c3, .slice D3 s.cards.length d3, .slice Z3 s.zones.length z3, .int .i32 s.turn, .int .i64 s.whose, .int .i8 s.fin, .int .i64 s.winner]] W fun e w' => e = .returned (.bool true) ∧ Keeps (fun _ => False) W w') := Lib.hid (fun W A D Z c d z h1 h2 => by
        have h := eqState_any s s A D Z A3 D3 Z3 W.heap.size c d z c3 d3 z3 W h1 h2 (Nat.le_refl _) SM.out
        unfold stV at h
        simpa using h)
      obtain ⟨a0, a1, a2, a3, a4, a5, a6, f0, f1, f2, f3, f4, f5, f6⟩ := seven HD.out.box
      obtain ⟨b0, b1, b2, b3, b4, b5, b6, e0, e1, e2, e3, e4, e5, e6⟩ := seven HF.out.box
      clear f0 f1 f2 f3 f4 f5 f6 e0 e1 e2 e3 e4 e5 e6
      go_wp2_with fail
      clear a0 a1 a2 a3 a4 a5 a6 b0 b1 b2 b3 b4 b5 b6
      refine (HEQ.out wr _ _ _ _ _ _ HD.out.copy.lies HF.out.copy.lies).mono ?_
      rintro e wb ⟨rfl, kb⟩
      have KB := Lib.hid (HK.out.trans kb)
      have DB := Lib.hid (HD.out.calm kb)
      have EB := Lib.hid (HE.out.calm kb)
      have FB := Lib.hid (HF.out.calm kb)
      clear kb HK HD HE HF
      obtain ⟨a0, a1, a2, a3, a4, a5, a6, f0, f1, f2, f3, f4, f5, f6⟩ := seven EB.out.box
      obtain ⟨b0, b1, b2, b3, b4, b5, b6, e0, e1, e2, e3, e4, e5, e6⟩ := seven FB.out.box
      clear f0 f1 f2 f3 f4 f5 f6 e0 e1 e2 e3 e4 e5 e6
      go_wp2_with fail
      clear a0 a1 a2 a3 a4 a5 a6 b0 b1 b2 b3 b4 b5 b6
      refine (HEQ.out wb _ _ _ _ _ _ EB.out.copy.lies FB.out.copy.lies).mono ?_
      rintro e wc ⟨rfl, kb⟩
      have KC := Lib.hid (KB.out.trans kb)
      have DC := Lib.hid (DB.out.calm kb)
      have EC := Lib.hid (EB.out.calm kb)
      clear kb KB DB EB FB HEQ
      obtain ⟨wB, hwB⟩ : ∃ z, z = wc.alloc (.cells (bag4 (.slice none 0 0) (.slice none 0 0) (.slice none 0 0) (.slice none 0 0)) 70) := ⟨_, rfl⟩
      have kB : Keeps (fun _ => False) wc wB := by rw [hwB]; exact (Keeps.refl _ _).alloc _
      have hpB : wc.heap.size ≤ wB.heap.size := kB.size
      have hw0 : w.heap.size ≤ wc.heap.size := KC.out.size
      have HB := Lib.hid (Bag4.start2 (ins := []) (lc := w2.heap.size) (hc := w2.heap.size) DC.out.lists EC.out.lists (SlRows.none _ _ _) blks_none (fun k r h => by simp at h) (Nat.le_refl _) (by omega) (by omega) EC.out.inside DC.out.inside (by have := DC.out.inside; omega))
      rw [← hwB] at HB
      have LSA := Lib.hid DC.out.lists
      have LSB := Lib.hid EC.out.lists
      have hz1 := DC.out.lists.len
      have hz2 := EC.out.lists.len
      have LA := Lib.hid ((DC.out.calm kB).lists.lies.up DC.out.inside)
      have LB := Lib.hid ((EC.out.calm kB).lists.lies.up EC.out.inside)
      have BXa := Lib.hid (DC.out.calm kB).box
      have BXb := Lib.hid (EC.out.calm kB).box
      have KK := Lib.hid (KC.out.trans kB)
      obtain ⟨a0, a1, a2, a3, a4, a5, a6, f0, f1, f2, f3, f4, f5, f6⟩ := seven BXa.out
      clear f0 f1 f2 f3 f4 f5 f6 DC EC KC kB
      rw [hwB] at a0 a1 a2 a3 a4 a5 a6
      unfold bag4 at a0 a1 a2 a3 a4 a5 a6 hwB
      have HZ := Lib.hid (And.intro hz1 hz2)
      have HN : Hid (w.heap.size ≤ w2.heap.size ∧ wc.heap.size ≤ wB.heap.size ∧ w.heap.size ≤ wc.heap.size ∧ w2.heap.size ≤ w4.heap.size) := Lib.hid ⟨by omega, hpB, hw0, by omega⟩
      clear hz1 hz2 hpB hw0 hs1 hs3 hs4 hs5 hs6 hs7 hs8 hs9 hin2 hgi2
      go_wp2_with fail
      rw [← hwB]
      clear hwB a0 a1 a2 a3 a4 a5 a6
      generalize wc.heap.size = p at *
      have HA := addState4 (lsD s A1 D1 Z1 c1 d1 z1 cells1) s.turn s.whose s.fin s.winner HB.out (by decide) (by decide) (by decide) rfl rfl rfl HZ.out.1 LA.out (fun i q hq _ => next_a hq)
      simp only [lsD] at HA
      refine HA.mono ?_
      clear HA
      rintro e wx1 ⟨rfl, ri1, rp1, rc1, rr1, Ai1, Ap1, Ac1, Ar1, ci1, cp1, cc1, cr1, hb1, l1, l2, l3, l4, kx⟩
      have HB1 := Lib.hid hb1
      have KK1 := Lib.hid (KK.out.and kx (fun b hb hs => by have := hs.1; have := HN.out.2.2.1; omega))
      have LB1 := Lib.hid (LB.out.bagS kx HN.out.2.1)
      have BXb1 := Lib.hid (BagS.box kx BXb.out)
      have HQ1 : Hid (rp1.length = 1 ∧ rc1.length = 1 ∧ rr1.length = 1) := Lib.hid ⟨l1, l2, l3⟩
      have HR1 := Lib.hid l4
      clear hb1 kx l1 l2 l3 l4 HB KK LA LB BXa BXb
      obtain ⟨a0, a1, a2, a3, a4, a5, a6, f0, f1, f2, f3, f4, f5, f6⟩ := seven BXb1.out
      clear f0 f1 f2 f3 f4 f5 f6
      go_wp2_with fail
      clear a0 a1 a2 a3 a4 a5 a6
      have HA := addState4 (lsD s A2 D2 Z2 c2 d2 z2 cells2) s.turn s.whose s.fin s.winner HB1.out (by have h1 := HQ1.out.1; omega) (by have h1 := HQ1.out.2.1; omega) (by have h1 := HQ1.out.2.2; omega) (by rw [HQ1.out.1]; rfl) (by rw [HQ1.out.2.1]; rfl) (by rw [HQ1.out.2.2]; rfl) HZ.out.2 LB1.out (fun i q hq hl => next_b HR1.out hl hq)
      simp only [lsD] at HA
      refine HA.mono ?_
      clear HA
      rintro e wx2 ⟨rfl, ri2, rp2, rc2, rr2, Ai2, Ap2, Ac2, Ar2, ci2, cp2, cc2, cr2, hb2, l1, l2, l3, l4, kx⟩
      have HB2 := Lib.hid hb2
      have KK2 := Lib.hid (KK1.out.and kx (fun b hb hs => by have := hs.1; have := HN.out.2.2.1; omega))
      clear hb2 kx l1 l2 l3 l4 HB1 KK1 HQ1 LB1 BXb1 HR1
      go_wp2_with fail
      refine (apart4 HB2.out).mono ?_
      rintro e wx4 ⟨rfl, kx⟩
      have KK4 := Lib.hid (HB2.out.keep2 (lc := w2.heap.size) (hc := w2.heap.size) LSA.out LSB.out blks_none (n := w2.heap.size) (Nat.le_refl _) HN.out.2.2.2 (Nat.le_refl _) KK2.out kx HN.out.1)
      clear kx HB2 KK2 HN HZ LSA LSB
      go_wp2_with fail
      go_ret
      exact ⟨rfl, KK4.out⟩
end Go.Proofs.YthmfbcfbcookiaaDoor
