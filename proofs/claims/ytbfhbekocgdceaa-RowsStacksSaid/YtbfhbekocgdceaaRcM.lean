/-
  RowsCuts: the law's function is true at every list and every numbers: the walk. Condition: the list within what memory holds.
-/
import Derived.Test.YtbfhbekocgdceaaRcL
namespace Go.Proofs.Ytbfhbekocgdceaa
open Go.RowKit
theorem Made.lies {w w' : World} {A : Option Addr} {c : Nat} {l : List Int} (h : Made w w' A c l) : Lies w' w'.heap.size A (l.map (Value.int .i64)) := own_lies h.own
/-- A row made before stays one. -/
theorem Made.later {w w1 w2 : World} {A : Option Addr} {c : Nat} {l : List Int} (h : Made w w1 A c l) (hk : Keeps (fun _ => False) w1 w2) : w2.ownsRow w.heap.size 3 1 (.slice A l.length c) l.length (l.map (Value.int .i64)) ∧ ∀ b, (Value.slice A l.length c).ownBlock = some b → w.heap.size ≤ b ∧ b < w1.heap.size :=
  ⟨own_keepsS h.own hk (fun _ _ h => h), fun b hb => h.own.lt b hb⟩
theorem rsame_eq (x : List Int) (A A' : Option Addr) (B B' cap cap' : Nat) (w : World) (hx : Lies w B A (x.map (Value.int .i64))) (hy : Lies w B' A' (x.map (Value.int .i64))) (hm : x.length ≤ 1000000000) :
    Calls Try.prog 28 #[.slice A x.length cap, .slice A' x.length cap'] w fun e w' => e = .returned (.bool true) ∧ Keeps (fun _ => False) w w' :=
  (rsame_any x x A A' B B' cap cap' w hx hy (by omega)).mono fun e w' h => by
    obtain ⟨he, n, rfl⟩ := h
    exact ⟨by simpa using he, (Keeps.refl _ _).drewN n⟩
theorem kept_eq (xs : List Int) (g : Nat) (A : Option Addr) (B cap : Nat) (w : World) (hW : Whole w g 3 (ints (wideR xs))) (hx : Lies w B A (xs.map (Value.int .i64))) (hl : xs.length ≤ 1000000000) :
    Calls Try.prog 30 #[.slice (some ⟨g, 0, none⟩) xs.length (xs.length + 5), .slice A xs.length cap] w fun e w' => e = .returned (.bool true) ∧ Keeps (fun _ => False) w w' :=
  (kept_any xs g A B cap w hW hx hl).mono fun e w' h => by
    obtain ⟨he, n, rfl⟩ := h
    exact ⟨he, (Keeps.refl _ _).drewN n⟩
set_option maxRecDepth 100000 in
set_option maxHeartbeats 4000000 in
theorem rowsCuts_any (l : List Int) (at_ x : Int) (A : Option Addr) (cap : Nat) (w : World) (hx : Lies w w.heap.size A (l.map (Value.int .i64))) :
    Calls Try.prog 5 #[.slice A l.length cap, .int .i64 at_, .int .i64 x] w fun e w' => e = .returned (.bool true) ∧ Below w.heap.size w w' := by
  have HX := Lib.hid hx
  clear hx
  go_enter Try.func5, Try.ntmps5
  go_wp2_with fail
  refine (rworks_any w).mono ?_
  rintro e w1 ⟨rfl, k1⟩
  have K1 := Lib.hid k1
  clear k1
  by_cases hbig : 1048576 < l.length
  · have hb : (1048576 : Int) < (l.length : Int) := by omega
    go_wp2_with fail
    go_ret
    exact ⟨rfl, K1.out.below (Nat.le_refl _) (fun _ h => h.elim)⟩
  · have hlb : l.length ≤ 1048576 := by omega
    have hb : ¬ (1048576 : Int) < (l.length : Int) := by omega
    have X1 : Hid (Lies w1 w1.heap.size A (l.map (Value.int .i64))) := Lib.hid ((HX.out.keep (fun b o h => K1.out.cell h id)).more K1.out.size)
    clear hbig
    go_wp2_with fail
    refine (wide_any l A cap w1 X1.out (by omega)).mono ?_
    rintro e w2 ⟨rfl, hW, k2⟩
    obtain ⟨gi, hgi⟩ : ∃ g, g = w1.heap.size := ⟨_, rfl⟩
    rw [← hgi] at hW ⊢
    have hil : gi < w2.heap.size := hW.inside
    have W2 := Lib.hid hW
    have K2 := Lib.hid k2
    have IL : Hid (∀ W : World, Keeps (fun _ => False) w2 W → Lies W W.heap.size (some ⟨gi, 0, none⟩) (l.map (Value.int .i64)) ∧ Lies W W.heap.size A (l.map (Value.int .i64))) := Lib.hid (fun W hk => by
      constructor
      · refine Lies.whole (W2.out.keeps hk id) (fun k u hu => ?_) (Nat.lt_of_lt_of_le hil hk.size)
        have hk := (List.getElem?_eq_some_iff.1 hu).1
        rw [List.length_map] at hk
        rw [Nat.zero_add, wideR_low l k hk, ← hu]; simp [hk]
      · exact (X1.out.keep (fun b o h => by rw [hk.cell (by have := K2.out.size; omega) id, K2.out.cell h id])).more (by have := K2.out.size; have := hk.size; omega))
    have GI := Lib.hid hgi
    clear hW k2 hgi HX
    -- Cut and Put
    have C0 := Lib.hid (IL.out w2 (Keeps.refl _ _)).1
    go_wp2_with fail
    refine (rcut_any l gi 0 (l.length + 5) at_ w2 C0.out (by omega) (by omega)).mono ?_
    rintro e w3 ⟨A3, c3, rfl, hm⟩
    have M3 := Lib.hid hm
    clear hm C0
    have C0 := Lib.hid (IL.out w3 M3.out.keeps).1
    have Ca := Lib.hid (cutL_length l at_)
    have Pa := Lib.hid (putL_length l at_ x)
    go_wp2_with fail
    refine (rput_any l gi 0 (l.length + 5) at_ x w3 C0.out (by omega) (by omega)).mono ?_
    rintro e w4 ⟨A4, c4, rfl, hm⟩
    have M4 := Lib.hid hm
    have K4 : Hid (Keeps (fun _ => False) w2 w4) := Lib.hid (M3.out.keeps.trans hm.keeps)
    clear hm C0
    have C0 := Lib.hid (IL.out w4 K4.out)
    go_wp2_with fail
    refine (rfind_any l x _ (l.length + 5) _ w4 C0.out.1 (by omega)).mono ?_
    rintro e w' ⟨rfl, rfl⟩
    go_wp2_with fail
    refine (refCut_any l A cap at_ w4 C0.out.2 (by omega)).mono ?_
    rintro e w5 ⟨A5, c5, rfl, hm⟩
    have M5 := Lib.hid hm
    have K5 : Hid (Keeps (fun _ => False) w2 w5) := Lib.hid (K4.out.trans hm.keeps)
    clear hm C0
    have C0 := Lib.hid (IL.out w5 K5.out)
    go_wp2_with fail
    refine (refPut_any l A cap at_ x w5 C0.out.2 (by omega)).mono ?_
    rintro e w6 ⟨A6, c6, rfl, hm⟩
    have M6 := Lib.hid hm
    have K6 : Hid (Keeps (fun _ => False) w2 w6) := Lib.hid (K5.out.trans hm.keeps)
    clear hm C0
    have FI := Lib.hid (IL.out w6 K6.out)
    -- the two are the same
    have KM : Hid (Keeps (fun _ => False) w3 w6 ∧ Keeps (fun _ => False) w4 w6) := Lib.hid ⟨M4.out.keeps.trans (M5.out.keeps.trans M6.out.keeps), M5.out.keeps.trans M6.out.keeps⟩
    obtain ⟨ca, hca⟩ : ∃ z, z = cutL l at_ := ⟨_, rfl⟩
    obtain ⟨pa, hpa⟩ : ∃ z, z = putL l at_ x := ⟨_, rfl⟩
    rw [← hca] at M3 M5 Ca ⊢
    rw [← hpa] at M4 M6 Pa ⊢
    generalize cutV l at_ = cv at *
    generalize cutB l at_ = cb at *
    generalize putB l at_ = pb at *
    have HCA := Lib.hid hca
    have HPA := Lib.hid hpa
    clear hca hpa
    go_wp2_with fail
    refine (rsame_eq ca A3 A5 w6.heap.size w6.heap.size c3 c5 w6 (own_lies (M3.out.later KM.out.1).1) (own_lies (M5.out.later M6.out.keeps).1) (by have := Ca.out; omega)).mono ?_
    rintro e w7 ⟨rfl, k7⟩
    have K7 := Lib.hid k7
    clear k7
    go_wp2_with fail
    refine (rsame_eq pa A4 A6 w7.heap.size w7.heap.size c4 c6 w7 (own_lies (M4.out.later (KM.out.2.trans K7.out)).1) (own_lies (M6.out.later K7.out).1) (by have := Pa.out; omega)).mono ?_
    rintro e w8 ⟨rfl, k8⟩
    have K8 : Hid (Keeps (fun _ => False) w6 w8) := Lib.hid (K7.out.trans k8)
    have F8 := Lib.hid (IL.out w8 (K6.out.trans K8.out))
    clear k8 K7
    go_wp2_with fail
    refine (refFind_any l x A cap _ w8 F8.out.2 (by omega)).mono ?_
    rintro e w' ⟨rfl, rfl⟩
    go_wp2_with fail
    refine (kept_eq l gi A _ cap w8 (W2.out.keeps (K6.out.trans K8.out) id) F8.out.2 (by omega)).mono ?_
    rintro e w9 ⟨rfl, k9⟩
    have K9 : Hid (Keeps (fun _ => False) w6 w9) := Lib.hid (K8.out.trans k9)
    have K29 : Hid (Keeps (fun _ => False) w2 w9) := Lib.hid (K6.out.trans K9.out)
    have F9 := Lib.hid (IL.out w9 K29.out)
    clear k9 K8 F8 FI
    go_wp2_with fail
    refine (rcut_any l gi 0 (l.length + 5) at_ w9 F9.out.1 (by omega) (by omega)).mono ?_
    rintro e wa ⟨Aa, ca', rfl, hm⟩
    rw [← HCA.out] at hm ⊢
    have Ma := Lib.hid hm
    have Ka : Hid (Keeps (fun _ => False) w2 wa) := Lib.hid (K29.out.trans hm.keeps)
    have Fa := Lib.hid (IL.out wa Ka.out)
    clear hm F9
    go_wp2_with fail
    refine (rput_any l gi 0 (l.length + 5) at_ x wa Fa.out.1 (by omega) (by omega)).mono ?_
    rintro e wb ⟨Ab, cb', rfl, hm⟩
    rw [← HPA.out] at hm ⊢
    have Mb := Lib.hid hm
    have Kb : Hid (Keeps (fun _ => False) w2 wb) := Lib.hid (Ka.out.trans hm.keeps)
    clear hm Fa
    go_wp2_with fail
    obtain ⟨wc, hwc⟩ : ∃ z, z = wb.alloc (.cells #[.slice A3 ca.length c3, .slice A4 pa.length c4, .slice Aa ca.length ca', .slice Ab pa.length cb'] 44) := ⟨_, rfl⟩
    have Kc0 : Keeps (fun _ => False) wb wc := by rw [hwc]; exact (Keeps.refl _ _).alloc _
    have WC : Hid (Whole wc wb.heap.size 44 #[.slice A3 ca.length c3, .slice A4 pa.length c4, .slice Aa ca.length ca', .slice Ab pa.length cb']) := Lib.hid (by rw [hwc]; exact Whole.made _ _ _)
    rw [← hwc]
    clear hwc
    have Kc := Lib.hid Kc0
    clear Kc0
    have HR : Hid (SlRows 3 1 [⟨A3, ca.length, c3⟩, ⟨A4, pa.length, c4⟩, ⟨Aa, ca.length, ca'⟩, ⟨Ab, pa.length, cb'⟩] wc) := Lib.hid (by
      have s3 := M4.out.keeps.size
      have s4 := KM.out.2.size
      have s6 := K9.out.size
      have sa := Ma.out.keeps.size
      have sb := Mb.out.keeps.size
      have s2 := M3.out.keeps.size
      have q3 := M3.out.later (KM.out.1.trans (K9.out.trans (Ma.out.keeps.trans (Mb.out.keeps.trans Kc.out))))
      have q4 := M4.out.later (KM.out.2.trans (K9.out.trans (Ma.out.keeps.trans (Mb.out.keeps.trans Kc.out))))
      have qa := Ma.out.later (Mb.out.keeps.trans Kc.out)
      have qb := Mb.out.later Kc.out
      refine slRows_of (lo4 w2.heap.size w3.heap.size w9.heap.size wa.heap.size wb.heap.size) (lo4_mono s2 (by omega) sa sb) (rows4 ?_ ?_ ?_ ?_)
      · exact ⟨⟨_, own_base q3.1 (fun b _ => Nat.zero_le _)⟩, fun b hb => q3.2 b hb⟩
      · exact ⟨⟨_, own_base q4.1 (fun b _ => Nat.zero_le _)⟩, fun b hb => by have := q4.2 b hb; exact ⟨this.1, by show b < w9.heap.size; omega⟩⟩
      · exact ⟨⟨_, own_base qa.1 (fun b _ => Nat.zero_le _)⟩, fun b hb => qa.2 b hb⟩
      · exact ⟨⟨_, own_base qb.1 (fun b _ => Nat.zero_le _)⟩, fun b hb => qb.2 b hb⟩)
    have HB : Hid (∀ b, blks [⟨A3, ca.length, c3⟩, ⟨A4, pa.length, c4⟩, ⟨Aa, ca.length, ca'⟩, ⟨Ab, pa.length, cb'⟩] b → w2.heap.size ≤ b ∧ b < wb.heap.size) := Lib.hid (by
      have s3 := M4.out.keeps.size
      have s4 := KM.out.2.size
      have s6 := K9.out.size
      have sa := Ma.out.keeps.size
      have sb := Mb.out.keeps.size
      have s2 := M3.out.keeps.size
      rintro b ⟨k, r, hr, hb⟩
      refine rows4 (P := fun _ r => ∀ b, r.blk = some b → w2.heap.size ≤ b ∧ b < wb.heap.size) ?_ ?_ ?_ ?_ k r hr b hb
      · intro b hb; have := M3.out.own.lt b hb; omega
      · intro b hb; have := M4.out.own.lt b hb; omega
      · intro b hb; have := Ma.out.own.lt b hb; omega
      · intro b hb; have := Mb.out.own.lt b hb; omega)
    have HFx : Hid (RowFix wc wb.heap.size [⟨A3, ca.length, c3⟩, ⟨A4, pa.length, c4⟩, ⟨Aa, ca.length, ca'⟩, ⟨Ab, pa.length, cb'⟩]) := Lib.hid ⟨rows4 (P := fun n r => wc.cell? ⟨wb.heap.size, n, none⟩ = some (.slice r.at_ r.len r.cap)) (WC.out.cellAt 0) (WC.out.cellAt 1) (WC.out.cellAt 2) (WC.out.cellAt 3), WC.out.inside, fun h => by have := (HB.out _ h).2; omega⟩
    have HAP := Lib.hid (rapart_any wb.heap.size 4 _ wc HFx.out HR.out (by simp) (rows4 (P := fun _ r => r.len ≤ 1000000000) (by have := Ca.out; show ca.length ≤ _; omega) (by have := Pa.out; show pa.length ≤ _; omega) (by have := Ca.out; show ca.length ≤ _; omega) (by have := Pa.out; show pa.length ≤ _; omega)))
    refine HAP.out.mono ?_
    rintro e wd ⟨rfl, kd⟩
    have KD : Hid (Keeps (fun b => w2.heap.size ≤ b) w2 wd) := Lib.hid (((Kb.out.trans Kc.out).mono (fun _ _ h => h.elim)).and kd (fun b _ hb => (HB.out b hb).1))
    clear kd HAP HFx HB HR WC
    go_wp2_with fail
    refine (kept_eq l gi A w1.heap.size cap wd (W2.out.keeps KD.out (by omega)) (X1.out.keep (fun b o h => by rw [KD.out.cell (by have := K2.out.size; omega) (by have := K2.out.size; omega), K2.out.cell h id])) (by omega)).mono ?_
    rintro e we ⟨rfl, ke⟩
    have KE : Hid (Below w.heap.size w we) := Lib.hid (((K1.out.trans K2.out).below (Nat.le_refl _) (fun _ h => h.elim)).trans ((KD.out.and ke (fun _ _ h => h.elim)).below (by have := K1.out.size; have := K2.out.size; omega) (fun b hb => by have := K1.out.size; have := K2.out.size; omega)))
    clear ke
    go_wp2_with fail
    go_ret
    exact ⟨rfl, KE.out⟩
end Go.Proofs.Ytbfhbekocgdceaa
