/-
  RowsOrders: the law's function is true at every list and every numbers: the walk. Conditions: the lists within what memory holds.
-/
import Derived.Test.YtbfhbekocgdceaaRoC
import Derived.Test.YtbfhbekocgdceaaRcM
namespace Go.Proofs.Ytbfhbekocgdceaa
open Go.RowKit
theorem orderI_length (l o : List Int) : (orderI l o).length ≤ o.length := by unfold orderI; split <;> simp
theorem backL_length (o : List Int) : (backL o).length ≤ o.length := by
  unfold backL; split
  · rw [backTo_length]; exact Nat.le_refl _
  · simp
theorem wide_lies {w : World} {g B : Nat} {l : List Int} (h : Whole w g 3 (ints (wideR l))) (hB : g < B) : Lies w B (some ⟨g, 0, none⟩) (l.map (Value.int .i64)) :=
  Lies.whole h (fun k u hu => by
    have hk := (List.getElem?_eq_some_iff.1 hu).1
    rw [List.length_map] at hk
    rw [Nat.zero_add, wideR_low l k hk, ← hu]; simp [hk]) hB
set_option maxRecDepth 100000 in
set_option maxHeartbeats 2000000 in
theorem rowsOrders_any (l o : List Int) (A C : Option Addr) (cap cc : Nat) (w : World) (hx : Lies w w.heap.size A (l.map (Value.int .i64))) (hc : Lies w w.heap.size C (o.map (Value.int .i64))) (hll : l.length ≤ 1000000000000000) (hol : o.length ≤ 1000000000000000) :
    Calls Try.prog 6 #[.slice A l.length cap, .slice C o.length cc] w fun e w' => e = .returned (.bool true) ∧ Below w.heap.size w w' := by
  have HX := Lib.hid hx
  have HC := Lib.hid hc
  clear hx hc
  go_enter Try.func6, Try.ntmps6
  go_wp2_with fail
  refine (rworks_any w).mono ?_
  rintro e w1 ⟨rfl, k1⟩
  have K1 := Lib.hid k1
  clear k1
  by_cases hbig : 4096 < l.length + o.length
  · have hb : (4096 : Int) < (l.length : Int) + (o.length : Int) := by omega
    go_wp2_with fail
    go_ret
    exact ⟨rfl, K1.out.below (Nat.le_refl _) (fun _ h => h.elim)⟩
  · have hlb : l.length ≤ 4096 := by omega
    have hob : o.length ≤ 4096 := by omega
    have hb : ¬ (4096 : Int) < (l.length : Int) + (o.length : Int) := by omega
    have X1 : Hid (Lies w1 w1.heap.size A (l.map (Value.int .i64))) := Lib.hid ((HX.out.keep (fun b o h => K1.out.cell h id)).more K1.out.size)
    have C1 : Hid (Lies w1 w1.heap.size C (o.map (Value.int .i64))) := Lib.hid ((HC.out.keep (fun b o h => K1.out.cell h id)).more K1.out.size)
    clear hbig hll hol
    go_wp2_with fail
    refine (wide_any l A cap w1 X1.out (by omega)).mono ?_
    rintro e w2 ⟨rfl, hW, k2⟩
    obtain ⟨gi, hgi⟩ : ∃ g, g = w1.heap.size := ⟨_, rfl⟩
    rw [← hgi] at hW ⊢
    have hil : gi < w2.heap.size := hW.inside
    have W2 := Lib.hid hW
    have K2 := Lib.hid k2
    have C2 : Hid (Lies w2 w2.heap.size C (o.map (Value.int .i64))) := Lib.hid ((C1.out.keep (fun b o h => K2.out.cell h id)).more K2.out.size)
    clear hW k2 hgi
    go_wp2_with fail
    refine (wide_any o C cc w2 C2.out (by omega)).mono ?_
    rintro e w3 ⟨rfl, hV, k3⟩
    obtain ⟨go, hgo⟩ : ∃ g, g = w2.heap.size := ⟨_, rfl⟩
    rw [← hgo] at hV ⊢
    have hol2 : go < w3.heap.size := hV.inside
    have W3 := Lib.hid hV
    have K3 := Lib.hid k3
    have hw13 : w1.heap.size ≤ w3.heap.size := Nat.le_trans K2.out.size K3.out.size
    have KA : Hid (Keeps (fun _ => False) w1 w3) := Lib.hid (K2.out.trans K3.out)
    have W2' : Hid (Whole w3 gi 3 (ints (wideR l))) := Lib.hid (W2.out.keeps K3.out id)
    have IL : Hid (∀ W : World, Keeps (fun _ => False) w3 W → Lies W W.heap.size (some ⟨gi, 0, none⟩) (l.map (Value.int .i64)) ∧ Lies W W.heap.size (some ⟨go, 0, none⟩) (o.map (Value.int .i64)) ∧ Lies W W.heap.size A (l.map (Value.int .i64)) ∧ Lies W W.heap.size C (o.map (Value.int .i64))) := Lib.hid (fun W hk => by
      have hs := hk.size
      refine ⟨wide_lies (W2'.out.keeps hk id) (by have := K3.out.size; omega), wide_lies (W3.out.keeps hk id) (by omega), ?_, ?_⟩
      · exact (X1.out.keep (fun b o h => by rw [hk.cell (by omega) id, KA.out.cell h id])).more (by omega)
      · exact (C1.out.keep (fun b o h => by rw [hk.cell (by omega) id, KA.out.cell h id])).more (by omega))
    have hgi3 : gi < w3.heap.size := by have := K3.out.size; omega
    clear hV k3 hgo HX HC W2 K2 K3 C2 hil
    -- Is, Order, Back
    have F3 := Lib.hid (IL.out w3 (Keeps.refl _ _))
    go_wp2_with fail
    refine (is_any o (some ⟨go, 0, none⟩) (o.length + 5) w3 F3.out.2.1 (by omega)).mono ?_
    rintro e w4 ⟨rfl, k4⟩
    have K4 := Lib.hid k4
    have F4 := Lib.hid (IL.out w4 k4)
    clear k4 F3
    go_wp2_with fail
    refine (rorderI_any l o (some ⟨gi, 0, none⟩) (some ⟨go, 0, none⟩) (l.length + 5) (o.length + 5) w4 F4.out.1 F4.out.2.1 (by omega) (by omega)).mono ?_
    rintro e w5 ⟨A5, c5, rfl, hm⟩
    have M5 := Lib.hid hm
    have K5 : Hid (Keeps (fun _ => False) w3 w5) := Lib.hid (K4.out.trans hm.keeps)
    have F5 := Lib.hid (IL.out w5 K5.out)
    have La := Lib.hid (orderI_length l o)
    have Lb := Lib.hid (backL_length o)
    clear hm F4
    go_wp2_with fail
    refine (back_any o (some ⟨go, 0, none⟩) (o.length + 5) w5 F5.out.2.1 (by omega)).mono ?_
    rintro e w6 ⟨A6, c6, rfl, hm⟩
    have M6 := Lib.hid hm
    have K6 : Hid (Keeps (fun _ => False) w3 w6) := Lib.hid (K5.out.trans hm.keeps)
    have F6 := Lib.hid (IL.out w6 K6.out)
    clear hm F5
    go_wp2_with fail
    refine (refOrderI_any l o A C cap cc w6 F6.out.2.2.1 F6.out.2.2.2 (by omega) (by omega)).mono ?_
    rintro e w7 ⟨A7, c7, rfl, hm⟩
    have M7 := Lib.hid hm
    have K7 : Hid (Keeps (fun _ => False) w3 w7) := Lib.hid (K6.out.trans hm.keeps)
    have F7 := Lib.hid (IL.out w7 K7.out)
    clear hm F6
    go_wp2_with fail
    refine (refBack_any o C cc w7 F7.out.2.2.2 (by omega)).mono ?_
    rintro e w8 ⟨A8, c8, rfl, hm⟩
    have M8 := Lib.hid hm
    have K8 : Hid (Keeps (fun _ => False) w3 w8) := Lib.hid (K7.out.trans hm.keeps)
    have F8 := Lib.hid (IL.out w8 K8.out)
    have KM : Hid (Keeps (fun _ => False) w5 w8 ∧ Keeps (fun _ => False) w6 w8) := Lib.hid ⟨M6.out.keeps.trans (M7.out.keeps.trans M8.out.keeps), M7.out.keeps.trans M8.out.keeps⟩
    clear hm F7
    obtain ⟨oa, hoa⟩ : ∃ z, z = orderI l o := ⟨_, rfl⟩
    obtain ⟨ba, hba⟩ : ∃ z, z = backL o := ⟨_, rfl⟩
    rw [← hoa] at M5 M7 La ⊢
    rw [← hba] at M6 M8 Lb ⊢
    generalize ordB l o = ob at *
    have HOA := Lib.hid hoa
    have HBA := Lib.hid hba
    clear hoa hba
    go_wp2_with fail
    refine (refIs_any o C cc w8 F8.out.2.2.2 (by omega)).mono ?_
    rintro e w9 ⟨rfl, k9⟩
    have K9 := Lib.hid k9
    clear k9
    obtain ⟨io, hio⟩ : ∃ z, z = isO o := ⟨_, rfl⟩
    rw [← hio]
    have HIO := Lib.hid hio
    clear hio
    go_wp2_with fail
    refine (rsame_eq oa A5 A7 w9.heap.size w9.heap.size c5 c7 w9 (own_lies (M5.out.later (KM.out.1.trans K9.out)).1) (own_lies (M7.out.later (M8.out.keeps.trans K9.out)).1) (by have := La.out; omega)).mono ?_
    rintro e wa ⟨rfl, ka⟩
    have Ka : Hid (Keeps (fun _ => False) w8 wa) := Lib.hid (K9.out.trans ka)
    clear ka K9
    go_wp2_with fail
    refine (rsame_eq ba A6 A8 wa.heap.size wa.heap.size c6 c8 wa (own_lies (M6.out.later (KM.out.2.trans Ka.out)).1) (own_lies (M8.out.later Ka.out).1) (by have := Lb.out; omega)).mono ?_
    rintro e wb ⟨rfl, kb⟩
    have Kb : Hid (Keeps (fun _ => False) w8 wb) := Lib.hid (Ka.out.trans kb)
    have Fb := Lib.hid (IL.out wb (K8.out.trans Kb.out))
    clear kb Ka F8
    go_wp2_with fail
    refine (kept_eq l gi A _ cap wb (W2'.out.keeps (K8.out.trans Kb.out) id) Fb.out.2.2.1 (by omega)).mono ?_
    rintro e wc ⟨rfl, kc⟩
    have Kc : Hid (Keeps (fun _ => False) w8 wc) := Lib.hid (Kb.out.trans kc)
    have Fc := Lib.hid (IL.out wc (K8.out.trans Kc.out))
    clear kc Kb Fb
    go_wp2_with fail
    refine (kept_eq o go C _ cc wc (W3.out.keeps (K8.out.trans Kc.out) id) Fc.out.2.2.2 (by omega)).mono ?_
    rintro e wd ⟨rfl, kd⟩
    have Kd : Hid (Keeps (fun _ => False) w8 wd) := Lib.hid (Kc.out.trans kd)
    have K3d : Hid (Keeps (fun _ => False) w3 wd) := Lib.hid (K8.out.trans Kd.out)
    have Fd := Lib.hid (IL.out wd K3d.out)
    clear kd Kc Fc
    go_wp2_with fail
    refine (rorderI_any l o (some ⟨gi, 0, none⟩) (some ⟨go, 0, none⟩) (l.length + 5) (o.length + 5) wd Fd.out.1 Fd.out.2.1 (by omega) (by omega)).mono ?_
    rintro e we ⟨Ae, ce, rfl, hm⟩
    rw [← HOA.out] at hm ⊢
    have Me := Lib.hid hm
    have Ke : Hid (Keeps (fun _ => False) w3 we) := Lib.hid (K3d.out.trans hm.keeps)
    have Fe := Lib.hid (IL.out we Ke.out)
    clear hm Fd
    go_wp2_with fail
    refine (back_any o (some ⟨go, 0, none⟩) (o.length + 5) we Fe.out.2.1 (by omega)).mono ?_
    rintro e wf ⟨Af, cf, rfl, hm⟩
    rw [← HBA.out] at hm ⊢
    have Mf := Lib.hid hm
    have Kf : Hid (Keeps (fun _ => False) w3 wf) := Lib.hid (Ke.out.trans hm.keeps)
    clear hm Fe
    go_wp2_with fail
    obtain ⟨wg, hwg⟩ : ∃ z, z = wf.alloc (.cells #[.slice A5 oa.length c5, .slice A6 ba.length c6, .slice Ae oa.length ce, .slice Af ba.length cf] 44) := ⟨_, rfl⟩
    have Kg : Hid (Keeps (fun _ => False) wf wg) := Lib.hid (by rw [hwg]; exact (Keeps.refl _ _).alloc _)
    have WG : Hid (Whole wg wf.heap.size 44 #[.slice A5 oa.length c5, .slice A6 ba.length c6, .slice Ae oa.length ce, .slice Af ba.length cf]) := Lib.hid (by rw [hwg]; exact Whole.made _ _ _)
    rw [← hwg]
    clear hwg
    have HSZ : Hid (w3.heap.size ≤ w4.heap.size ∧ w4.heap.size ≤ w5.heap.size ∧ w5.heap.size ≤ w6.heap.size ∧ w6.heap.size ≤ wd.heap.size ∧ wd.heap.size ≤ we.heap.size ∧ we.heap.size ≤ wf.heap.size) := Lib.hid ⟨K4.out.size, M5.out.keeps.size, M6.out.keeps.size, Nat.le_trans KM.out.2.size Kd.out.size, Me.out.keeps.size, Mf.out.keeps.size⟩
    have HR : Hid (SlRows 3 1 [⟨A5, oa.length, c5⟩, ⟨A6, ba.length, c6⟩, ⟨Ae, oa.length, ce⟩, ⟨Af, ba.length, cf⟩] wg) := Lib.hid (by
      obtain ⟨s3, s4, s5, s6, s7, s8⟩ := HSZ.out
      have q5 := M5.out.later (KM.out.1.trans (Kd.out.trans (Me.out.keeps.trans (Mf.out.keeps.trans Kg.out))))
      have q6 := M6.out.later (KM.out.2.trans (Kd.out.trans (Me.out.keeps.trans (Mf.out.keeps.trans Kg.out))))
      have qe := Me.out.later (Mf.out.keeps.trans Kg.out)
      have qf := Mf.out.later Kg.out
      refine slRows_of (lo4 w4.heap.size w5.heap.size wd.heap.size we.heap.size wf.heap.size) (lo4_mono s4 (by omega) s7 s8) (rows4 ?_ ?_ ?_ ?_)
      · exact ⟨⟨_, own_base q5.1 (fun b _ => Nat.zero_le _)⟩, fun b hb => q5.2 b hb⟩
      · exact ⟨⟨_, own_base q6.1 (fun b _ => Nat.zero_le _)⟩, fun b hb => by have := q6.2 b hb; exact ⟨this.1, by show b < wd.heap.size; omega⟩⟩
      · exact ⟨⟨_, own_base qe.1 (fun b _ => Nat.zero_le _)⟩, fun b hb => qe.2 b hb⟩
      · exact ⟨⟨_, own_base qf.1 (fun b _ => Nat.zero_le _)⟩, fun b hb => qf.2 b hb⟩)
    have HB : Hid (∀ b, blks [⟨A5, oa.length, c5⟩, ⟨A6, ba.length, c6⟩, ⟨Ae, oa.length, ce⟩, ⟨Af, ba.length, cf⟩] b → w3.heap.size ≤ b ∧ b < wf.heap.size) := Lib.hid (by
      obtain ⟨s3, s4, s5, s6, s7, s8⟩ := HSZ.out
      rintro b ⟨k, r, hr, hb⟩
      refine rows4 (P := fun _ r => ∀ b, r.blk = some b → w3.heap.size ≤ b ∧ b < wf.heap.size) ?_ ?_ ?_ ?_ k r hr b hb
      · intro b hb; have := M5.out.own.lt b hb; omega
      · intro b hb; have := M6.out.own.lt b hb; omega
      · intro b hb; have := Me.out.own.lt b hb; omega
      · intro b hb; have := Mf.out.own.lt b hb; omega)
    have HFx : Hid (RowFix wg wf.heap.size [⟨A5, oa.length, c5⟩, ⟨A6, ba.length, c6⟩, ⟨Ae, oa.length, ce⟩, ⟨Af, ba.length, cf⟩]) := Lib.hid ⟨rows4 (P := fun n r => wg.cell? ⟨wf.heap.size, n, none⟩ = some (.slice r.at_ r.len r.cap)) (WG.out.cellAt 0) (WG.out.cellAt 1) (WG.out.cellAt 2) (WG.out.cellAt 3), WG.out.inside, fun h => by have := (HB.out _ h).2; omega⟩
    have HAP := Lib.hid (rapart_any wf.heap.size 4 _ wg HFx.out HR.out (by simp) (rows4 (P := fun _ r => r.len ≤ 1000000000) (by have := La.out; show oa.length ≤ _; omega) (by have := Lb.out; show ba.length ≤ _; omega) (by have := La.out; show oa.length ≤ _; omega) (by have := Lb.out; show ba.length ≤ _; omega)))
    refine HAP.out.mono ?_
    rintro e wh ⟨rfl, kh⟩
    have KH : Hid (Keeps (fun b => w3.heap.size ≤ b) w3 wh) := Lib.hid (((Kf.out.trans Kg.out).mono (fun _ _ h => h.elim)).and kh (fun b _ hb => (HB.out b hb).1))
    have XH : Hid (Lies wh w1.heap.size A (l.map (Value.int .i64)) ∧ Lies wh w1.heap.size C (o.map (Value.int .i64))) := Lib.hid ⟨X1.out.keep (fun b o h => by rw [KH.out.cell (by omega) (by omega), KA.out.cell h id]), C1.out.keep (fun b o h => by rw [KH.out.cell (by omega) (by omega), KA.out.cell h id])⟩
    clear kh HAP HFx HB HR WG HSZ
    go_wp2_with fail
    refine (kept_eq l gi A w1.heap.size cap wh (W2'.out.keeps KH.out (by omega)) XH.out.1 (by omega)).mono ?_
    rintro e wi ⟨rfl, ki⟩
    have Ki := Lib.hid ki
    clear ki
    go_wp2_with fail
    refine (kept_eq o go C w1.heap.size cc wi ((W3.out.keeps KH.out (by omega)).keeps Ki.out id) (XH.out.2.keep (fun b o h => Ki.out.cell (by have := KH.out.size; omega) id)) (by omega)).mono ?_
    rintro e wj ⟨rfl, kj⟩
    have KE : Hid (Below w.heap.size w wj) := Lib.hid (((K1.out.trans KA.out).below (Nat.le_refl _) (fun _ h => h.elim)).trans (((KH.out.and Ki.out (fun _ _ h => h.elim)).and kj (fun _ _ h => h.elim)).below (by have := K1.out.size; omega) (fun b hb => by have := K1.out.size; omega)))
    clear kj
    go_wp2_with fail
    go_ret
    exact ⟨rfl, KE.out⟩
end Go.Proofs.Ytbfhbekocgdceaa
