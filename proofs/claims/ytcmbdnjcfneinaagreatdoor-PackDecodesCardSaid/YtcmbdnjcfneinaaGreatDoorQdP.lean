/-
  The reference's head: what stands ahead of the sections, and the sum: the walk. Conditions: lengths within 10 ^ 9.
-/
import Derived.Test.YtcmbdnjcfneinaaGreatDoorQdN
import Derived.Test.YtcmbdnjcfneinaaGreatDoorRdMd
import Derived.Test.YtcmbdnjcfneinaaGreatDoorSeA
import Derived.Test.YtcmbdnjcfneinaaGreatDoorRdP
import Derived.Test.YtcmbdnjcfneinaaGreatDoorCqM
import Derived.Test.YtcmbdnjcfneinaaGreatDoorQrM
namespace Go.Proofs.YtcmbdnjcfneinaaGreatDoor
open Go.RowKit Go.Proofs.YtcmbdnjcfneinaaGreatDoor.Crc
theorem sum_is {b : List Oct} : (b.drop (b.length - 4) = le4 (crc (b.take (b.length - 4)))) ↔ sealedL (b.take (b.length - 4)) = b := by
  unfold sealedL
  constructor
  · intro e
    rw [← e, List.take_append_drop]
  · intro e
    have h2 : b.take (b.length - 4) ++ le4 (crc (b.take (b.length - 4))) = b.take (b.length - 4) ++ b.drop (b.length - 4) := by rw [e, List.take_append_drop]
    exact (List.append_cancel_left h2).symm
set_option maxRecDepth 8000 in
set_option maxHeartbeats 4000000 in
theorem head_ref (b : List Oct) (A : Option Addr) (cap : Nat) (w : World) (hl : Lies w w.heap.size A (bytesV b)) (hcap : b.length ≤ cap) (hb : b.length ≤ 1000000000) :
    Calls Tryz.prog 80 #[.slice A b.length cap] w fun r w' => r = .returned (.tuple #[.int .i64 (headC b).1, .int .i64 (headC b).2]) ∧ Keeps (fun _ => False) w w' := by
  obtain ⟨R, hR⟩ : ∃ R, R = headC b := ⟨_, rfl⟩
  rw [← hR]
  have HR := Lib.hid hR
  clear hR
  by_cases h1 : 1048576 < b.length
  · have HE : Hid (R = (20, 1048576)) := Lib.hid (HR.out.trans (headC_long h1))
    clear hl HR
    go_enter Tryz.func80, Tryz.ntmps80
    go_wp2_with fail
    go_ret2
    rw [HE.out]
    exact ⟨rfl, Keeps.refl _ _⟩
  · by_cases h2 : b.length < 9
    · have HE : Hid (R = (50, b.length)) := Lib.hid (HR.out.trans (headC_short h1 h2))
      clear hl HR
      go_enter Tryz.func80, Tryz.ntmps80
      go_wp2_with fail
      go_ret2
      rw [HE.out]
      exact ⟨rfl, Keeps.refl _ _⟩
    · obtain ⟨last, hla⟩ : ∃ n, n + 4 = b.length := ⟨b.length - 4, by omega⟩
      obtain ⟨g, off, rfl, hg, _⟩ := hl 0 _ (bytesV_get b 0 (by omega))
      have hll : (b.length : Int) - 4 = (last : Int) := by omega
      have k0 := (Keeps.refl (fun _ => False) w).alloc (.cells #[.int .u8 84, .int .u8 66, .int .u8 76, .int .u8 88] 5)
      have hm0 := Whole.made w 5 #[.int .u8 84, .int .u8 66, .int .u8 76, .int .u8 88]
      have HL := Lib.hid hl
      have hcell : Hid (∀ k (hk : k < b.length), (w.alloc (.cells #[.int .u8 84, .int .u8 66, .int .u8 76, .int .u8 88] 5)).cell? ⟨g, off + k, none⟩ = some (.int .u8 (b[k].toNat : Int))) := Lib.hid (fun k hk => by
        obtain ⟨g', off', hA, _, hc⟩ := hl k _ (bytesV_get b k hk)
        injection hA with hA
        injection hA with e1 e2
        subst e1 e2
        exact (k0.cell hg id).trans hc)
      have hgw : g < (w.alloc (.cells #[.int .u8 84, .int .u8 66, .int .u8 76, .int .u8 88] 5)).heap.size := Nat.lt_of_lt_of_le hg k0.size
      have HK0 := Lib.hid k0
      have HM := Lib.hid hm0
      clear hl k0 hm0
      go_enter Tryz.func80, Tryz.ntmps80
      go_wp2_with fail
      generalize w.alloc _ = w0 at *
      generalize w.heap.size = mb at HM ⊢
      go_loopw [5] (fun vi wr => ∃ i : Nat, i ≤ 4 ∧ vi = .int .i64 i ∧ Hid (∀ k, k < i → b[k]? = headP[k]?) ∧ Hid (Keeps (fun _ => False) w0 wr)) (fun vi _ => 4 - (intOf vi).toNat)
      case atStart => exact ⟨0, by omega, rfl, Lib.hid (fun k hk => by omega), Lib.hid (Keeps.refl _ _)⟩
      case round =>
        obtain ⟨i, hi, rfl, HP, HK⟩ := hrel
        by_cases hlt : i < 4
        · have h4 : i = 0 ∨ i = 1 ∨ i = 2 ∨ i = 3 := by omega
          rcases h4 with rfl | rfl | rfl | rfl
          · have hc := (HK.out.cell hgw id).trans (hcell.out 0 (by omega))
            have hm := (HM.out.keeps HK.out id).cellAt 0
            have hm' : wr.cell? ⟨mb, 0, none⟩ = some (.int .u8 84) := hm
            clear hm
            rw [Nat.add_zero] at hc
            by_cases hz : (b[0].toNat : Int) = 84
            · have HP1 : Hid (∀ k, k < 1 → b[k]? = headP[k]?) := Lib.hid (fun k hk => by
                by_cases e : k = 0
                · subst e
                  rw [List.getElem?_eq_getElem (by omega), show b[0] = 84#8 from oct_of hz]
                  rfl
                · exact HP.out k (by omega))
              rw [hz] at hc
              clear hz HP
              go_wp2_with fail
              go_quiet (fail)
              go_wp2_with fail
              go_roundw
              case rel => exact ⟨1, by omega, by go_num, HP1, Lib.hid (HK.out.drewN _)⟩
              case measure => simp [intOf]
            · have HE : Hid (R = (51, 0)) := Lib.hid (HR.out.trans (headC_m h1 h2 0 (by decide) HP.out (by
                rw [List.getElem?_eq_getElem (by omega)]
                intro e
                injection e with e
                exact hz (by rw [e]; rfl))))
              generalize (b[0].toNat : Int) = ci at *
              have hne : (ci != 84) = true := bne_iff_ne.2 hz
              clear HP HR HL hcell
              go_wp2_with fail
              go_quiet (fail)
              go_wp2_with fail
              go_ret2
              rw [HE.out]
              exact ⟨rfl, HK0.out.trans (HK.out.drewN _)⟩
          · have hc := (HK.out.cell hgw id).trans (hcell.out 1 (by omega))
            have hm := (HM.out.keeps HK.out id).cellAt 1
            have hm' : wr.cell? ⟨mb, 1, none⟩ = some (.int .u8 66) := hm
            clear hm

            by_cases hz : (b[1].toNat : Int) = 66
            · have HP1 : Hid (∀ k, k < 2 → b[k]? = headP[k]?) := Lib.hid (fun k hk => by
                by_cases e : k = 1
                · subst e
                  rw [List.getElem?_eq_getElem (by omega), show b[1] = 66#8 from oct_of hz]
                  rfl
                · exact HP.out k (by omega))
              rw [hz] at hc
              clear hz HP
              go_wp2_with fail
              go_quiet (fail)
              go_wp2_with fail
              go_roundw
              case rel => exact ⟨2, by omega, by go_num, HP1, Lib.hid (HK.out.drewN _)⟩
              case measure => simp [intOf]
            · have HE : Hid (R = (51, 1)) := Lib.hid (HR.out.trans (headC_m h1 h2 1 (by decide) HP.out (by
                rw [List.getElem?_eq_getElem (by omega)]
                intro e
                injection e with e
                exact hz (by rw [e]; rfl))))
              generalize (b[1].toNat : Int) = ci at *
              have hne : (ci != 66) = true := bne_iff_ne.2 hz
              clear HP HR HL hcell
              go_wp2_with fail
              go_quiet (fail)
              go_wp2_with fail
              go_ret2
              rw [HE.out]
              exact ⟨rfl, HK0.out.trans (HK.out.drewN _)⟩
          · have hc := (HK.out.cell hgw id).trans (hcell.out 2 (by omega))
            have hm := (HM.out.keeps HK.out id).cellAt 2
            have hm' : wr.cell? ⟨mb, 2, none⟩ = some (.int .u8 76) := hm
            clear hm

            by_cases hz : (b[2].toNat : Int) = 76
            · have HP1 : Hid (∀ k, k < 3 → b[k]? = headP[k]?) := Lib.hid (fun k hk => by
                by_cases e : k = 2
                · subst e
                  rw [List.getElem?_eq_getElem (by omega), show b[2] = 76#8 from oct_of hz]
                  rfl
                · exact HP.out k (by omega))
              rw [hz] at hc
              clear hz HP
              go_wp2_with fail
              go_quiet (fail)
              go_wp2_with fail
              go_roundw
              case rel => exact ⟨3, by omega, by go_num, HP1, Lib.hid (HK.out.drewN _)⟩
              case measure => simp [intOf]
            · have HE : Hid (R = (51, 2)) := Lib.hid (HR.out.trans (headC_m h1 h2 2 (by decide) HP.out (by
                rw [List.getElem?_eq_getElem (by omega)]
                intro e
                injection e with e
                exact hz (by rw [e]; rfl))))
              generalize (b[2].toNat : Int) = ci at *
              have hne : (ci != 76) = true := bne_iff_ne.2 hz
              clear HP HR HL hcell
              go_wp2_with fail
              go_quiet (fail)
              go_wp2_with fail
              go_ret2
              rw [HE.out]
              exact ⟨rfl, HK0.out.trans (HK.out.drewN _)⟩
          · have hc := (HK.out.cell hgw id).trans (hcell.out 3 (by omega))
            have hm := (HM.out.keeps HK.out id).cellAt 3
            have hm' : wr.cell? ⟨mb, 3, none⟩ = some (.int .u8 88) := hm
            clear hm

            by_cases hz : (b[3].toNat : Int) = 88
            · have HP1 : Hid (∀ k, k < 4 → b[k]? = headP[k]?) := Lib.hid (fun k hk => by
                by_cases e : k = 3
                · subst e
                  rw [List.getElem?_eq_getElem (by omega), show b[3] = 88#8 from oct_of hz]
                  rfl
                · exact HP.out k (by omega))
              rw [hz] at hc
              clear hz HP
              go_wp2_with fail
              go_quiet (fail)
              go_wp2_with fail
              go_roundw
              case rel => exact ⟨4, by omega, by go_num, HP1, Lib.hid (HK.out.drewN _)⟩
              case measure => simp [intOf]
            · have HE : Hid (R = (51, 3)) := Lib.hid (HR.out.trans (headC_m h1 h2 3 (by decide) HP.out (by
                rw [List.getElem?_eq_getElem (by omega)]
                intro e
                injection e with e
                exact hz (by rw [e]; rfl))))
              generalize (b[3].toNat : Int) = ci at *
              have hne : (ci != 88) = true := bne_iff_ne.2 hz
              clear HP HR HL hcell
              go_wp2_with fail
              go_quiet (fail)
              go_wp2_with fail
              go_ret2
              rw [HE.out]
              exact ⟨rfl, HK0.out.trans (HK.out.drewN _)⟩
        · have HP4 : Hid (∀ k, k < 4 → b[k]? = headP[k]?) := Lib.hid (fun k hk => HP.out k (by omega))
          have HRR := Lib.hid (HR.out.trans (headC_rest h1 h2 HP4.out))
          have hc := (HK.out.cell hgw id).trans (hcell.out 4 (by omega))
          clear HP HP4 HR
          by_cases hz : (b[4].toNat : Int) = 1
          · have hz1 : b[4]? = some 1#8 := by rw [List.getElem?_eq_getElem (by omega), show b[4] = 1#8 from oct_of hz]
            have HRS : Hid (R = if sealedL (b.take last) = b then (0, 0) else (53, last)) := Lib.hid (by
              have e := HRR.out
              rw [if_neg (by rw [hz1]; simp), show b.length - 4 = last by omega] at e
              have e2 := sum_is (b := b)
              rw [show b.length - 4 = last by omega] at e2
              rw [e]
              by_cases q : sealedL (b.take last) = b
              · rw [if_neg (fun h => h (e2.2 q)), if_pos q]
              · rw [if_pos (fun h => q (e2.1 h)), if_neg q])
            rw [hz] at hc
            have e : (b.take last).length = last := by rw [List.length_take]; omega
            have HLr : Hid (Lies wr wr.heap.size (some ⟨g, off, none⟩) (bytesV b)) := Lib.hid ((HL.out.pastK HK0.out).pastK HK.out)
            have HS := sealed_any (b.take last) (some ⟨g, off, none⟩) wr.heap.size cap wr (lies_take HLr.out last) (Nat.le_refl _) (by omega)
            rw [e] at HS
            have HSS := Lib.hid HS
            have hlc : last ≤ cap := by omega
            clear hz hz1 HRR HS e
            go_wp2_with fail
            refine HSS.out.mono ?_
            rintro r w1 ⟨A', c', rfl, hown, hbl⟩
            have hk1 : Keeps (fun _ => False) wr w1 := keepsAll hbl
            have HE := eqBytes_any (sealedL (b.take last)) b A' (some ⟨g, off, none⟩) w1.heap.size w1.heap.size c' cap w1 (own_lies_q hown) (HLr.out.pastK hk1) (by have := sealedL_length (b.take last); rw [List.length_take] at this; omega)
            have HEE := Lib.hid HE
            have HK1 := Lib.hid (HK.out.trans hk1)
            clear hown hbl hk1 HE HLr HSS hc
            go_wp2_with fail
            refine HEE.out.mono ?_
            rintro r w2 ⟨rfl, hb2⟩
            have HK2 := Lib.hid ((HK0.out.trans HK1.out).trans (keepsAll hb2))
            clear hb2 HK1 HEE
            by_cases q : sealedL (b.take last) = b
            · have HE := Lib.hid (HRS.out.trans (if_pos q))
              rw [decide_eq_true q]
              clear q
              go_wp2_with fail
              go_ret2
              rw [HE.out]
              exact ⟨rfl, HK2.out⟩
            · have HE := Lib.hid (HRS.out.trans (if_neg q))
              rw [decide_eq_false q]
              clear q
              go_wp2_with fail
              go_ret2
              rw [HE.out]
              exact ⟨rfl, HK2.out⟩
          · have HE : Hid (R = (52, 4)) := Lib.hid (by
              rw [HRR.out, if_pos (by
                rw [List.getElem?_eq_getElem (by omega)]
                intro e
                injection e with e
                exact hz (by rw [e]; rfl))])
            generalize (b[4].toNat : Int) = ci at *
            have hne : (ci != 1) = true := bne_iff_ne.2 hz
            clear HL hcell HRR
            go_wp2_with fail
            go_ret2
            rw [HE.out]
            exact ⟨rfl, HK0.out.trans HK.out⟩
end Go.Proofs.YtcmbdnjcfneinaaGreatDoor
/-
  The reference's Decode: the walk. Conditions: lengths within 10 ^ 9.
-/
namespace Go.Proofs.YtcmbdnjcfneinaaGreatDoor
open Go.RowKit
def endF (b : List Oct) (j : Nat) (H : Flt) : Flt := match H with
  | some f => some f
  | none => if j = b.length - 4 then none else some (55, j)
/-- What stands behind the reader of a pack. -/
theorem pack_says {b : List Oct} {j : Nat} {H F : Flt} {x : Int × List Int × List (List Oct) × List Knd} (h0 : (headC b).1 = 0) (hs : SGoes secsP (b.take (b.length - 4)) 5 none j H x) (hF : F = endF b j H) :
    (F = none ∧ secsP (b.take (b.length - 4)) 5 = .ok x (b.length - 4) ∧ GoodPk (toPk x) ∧ sizeP (toPk x) ≤ 1000000000000) ∨ ∃ f : Nat × Nat, F = some f ∧ f.1 ≠ 0 ∧ decP b = (zeroPk, f.1, f.2) := by
  have hb := headC_ok h0
  have h5 : 5 ≤ (b.take (b.length - 4)).length := by rw [List.length_take]; omega
  rcases hs with ⟨h1, rfl⟩ | ⟨f, h1, rfl⟩
  · simp only [endF] at hF
    by_cases e : j = b.length - 4
    · rw [if_pos e] at hF
      rw [e] at h1
      exact .inl ⟨hF, h1, read_good h5 (by rw [List.length_take]; omega) h1⟩
    · rw [if_neg e] at hF
      exact .inr ⟨(55, j), hF, (by show 55 ≠ 0; decide), decP_more h0 h1 e⟩
  · exact .inr ⟨f, hF, (Cs.secs.bad h5 h1).2.2, decP_bad h0 h1⟩
set_option maxRecDepth 8000 in
set_option maxHeartbeats 4000000 in
theorem decode_ref (b : List Oct) (A : Option Addr) (cap : Nat) (w : World) (hl : Lies w w.heap.size A (bytesV b)) (hcap : b.length ≤ cap) (hb : b.length ≤ 1000000000) :
    Calls Tryz.prog 20 #[.slice A b.length cap] w fun r w' => ∃ (p : Pk) (Ai At Ak : Option Addr) (ci ct ck : Nat), r = .returned (.tuple #[.agg (pkC p Ai At Ak ci ct ck), .int .i64 (decP b).2.1, .int .i64 (decP b).2.2]) ∧ p = (decP b).1 ∧ OLo w' w.heap.size (.slice Ai p.ints.length ci) p.ints ∧ OTx w' w.heap.size (.slice At p.texts.length ct) p.texts ∧ OKd w' w.heap.size (.slice Ak p.kinds.length ck) p.kinds ∧ Keeps (fun _ => False) w w' := by
  obtain ⟨D, hD⟩ : ∃ D, D = decP b := ⟨_, rfl⟩
  rw [← hD]
  have HD := Lib.hid hD
  clear hD
  have k0 := (Keeps.refl (fun _ => False) w).alloc (.cells #[.int .i64 0, .slice none 0 0, .slice none 0 0, .slice none 0 0] 26)
  have hW0 := Whole.made w 26 #[.int .i64 0, .slice none 0 0, .slice none 0 0, .slice none 0 0]
  have hL0 : Lies (w.alloc (.cells #[.int .i64 0, .slice none 0 0, .slice none 0 0, .slice none 0 0] 26)) (w.alloc (.cells #[.int .i64 0, .slice none 0 0, .slice none 0 0, .slice none 0 0] 26)).heap.size A (bytesV b) := hl.pastK k0
  have HB := Lib.hid (head_ref b A cap _ hL0 hcap hb)
  have HK0 := Lib.hid k0
  have HW0 := Lib.hid hW0
  have HL0 := Lib.hid hL0
  clear hl k0 hW0 hL0
  go_enter Tryz.func20, Tryz.ntmps20
  go_wp2_with fail
  generalize w.alloc _ = w0 at *
  refine HB.out.mono ?_
  rintro r w1 ⟨rfl, k1⟩
  have HK1 := Lib.hid (HK0.out.trans k1)
  have HW1 := Lib.hid (HW0.out.keeps k1 id)
  have HL1 := Lib.hid (HL0.out.pastK k1)
  clear HB HK0 HW0 HL0 k1
  by_cases h0 : (headC b).1 = 0
  · have HH := Lib.hid h0
    rw [h0]
    have hb2 := (headC_ok h0).1
    have hb9 := (headC_ok h0).2.1
    obtain ⟨g, off, rfl⟩ : ∃ g off, A = some ⟨g, off, none⟩ := by
      obtain ⟨g, off, e, _⟩ := HL1.out 0 _ (bytesV_get b 0 (by omega))
      exact ⟨g, off, e⟩
    have kr := (Keeps.refl (fun _ => False) w1).alloc (.cells (rfC (some ⟨g, off, none⟩) b.length cap 5 0 0) 121)
    have hRq : Rq (w1.alloc (.cells (rfC (some ⟨g, off, none⟩) b.length cap 5 0 0) 121)) w1.heap.size g off cap b 5 0 none := ⟨Whole.made w1 _ _, HL1.out.keeps kr (fun _ _ => id) (Nat.le_refl _), hcap, by omega, hb2, fun f h => by cases h⟩
    have HRB0 := hRq.box.inside
    have HPk := Lib.hid (packRd_ref hRq hb9)
    have HK2 := Lib.hid (HK1.out.trans kr)
    have HW2 := Lib.hid (HW1.out.keeps kr id)
    have hwl : Hid (w.heap.size < w1.heap.size) := Lib.hid HW1.out.inside
    generalize (headC b).2 = at0
    unfold rfC at *
    clear h0 HL1 hRq kr HK1 HW1
    go_wp2_with fail
    have hsz : Hid (w1.heap.size < (w1.alloc (.cells #[.slice (some ⟨g, off, none⟩) b.length cap, .int .i64 5, .int .i64 0, .int .i64 0] 121)).heap.size) := Lib.hid (by rw [World.size_alloc]; omega)
    generalize w1.alloc _ = w2 at *
    generalize w1.heap.size = rb at *
    have HRB := Lib.hid HRB0
    clear HRB0
    refine HPk.out.mono ?_
    rintro r w3 ⟨p, A1, A2, A3, c1, c2, c3, j, k, H, rfl, hI, hT, hK, hfew, hsec, ⟨en', hq⟩, _, hk⟩
    replace hq : Rq _ _ _ _ _ _ _ _ (endF b j H) := hq
    obtain ⟨F, hF⟩ : ∃ F : Flt, F = endF b j H := ⟨_, rfl⟩
    rw [← hF] at hq
    have HS := Lib.hid (pack_says HH.out hsec hF)
    have h23 := hk.size
    have hrb := hq.box.inside
    have ka := (Keeps.refl (fun _ => False) w3).alloc (.cells (pkC p A1 A2 A3 c1 c2 c3) 26)
    have HX := Lib.hid (Whole.made w3 26 (pkC p A1 A2 A3 c1 c2 c3))
    have HK3 := Lib.hid ((HK2.out.and hk (fun k hk e => by have := hwl.out; omega)).trans ka)
    have HW3 := Lib.hid ((HW2.out.keeps hk (by have := hwl.out; omega)).keeps ka id)
    have HQ := Lib.hid (hq.past ka)
    have HI := Lib.hid (hI.keeps ka (fun _ _ => id))
    have HT := Lib.hid (hT.keeps ka (fun _ _ => id))
    have HKD := Lib.hid (hK.keeps ka (fun _ _ => id))
    have HFW := Lib.hid hfew
    have HRI : Hid (rb < w2.heap.size) := Lib.hid HRB.out
    clear hI hT hK hfew hsec hF hq hk ka HPk HK2 HW2
    unfold pkC at *
    have hbx := HQ.out.box
    unfold rfC at hbx
    obtain ⟨a0, a1, a2, a3⟩ := four hbx
    clear hbx
    have hrl : Hid (rb < w2.heap.size) := Lib.hid HRI.out
    rcases HS.out with ⟨rfl, hsp, hgd, hsz2⟩ | ⟨f, rfl, hf0, hD⟩
    · unfold rfI at a1
      unfold rfE at a3
      simp only [] at a1 a3
      have HCh := Lib.hid (check_ref p A1 A2 A3 c1 c2 c3 _ (opk_lie HI.out HT.out HKD.out) HFW.out hsz2)
      have HO0 : Hid (chk p = 0 → D = (p, 0, 0)) := Lib.hid (fun h => by rw [HD.out]; exact decP_ok HH.out hsp h)
      have HO1 : Hid (chk p ≠ 0 → D = (zeroPk, chk p, 5)) := Lib.hid (fun h => by rw [HD.out]; exact decP_chk HH.out hsp h)
      unfold pkC at HCh
      clear HS hsp hgd hsz2
      go_wp2_with fail
      generalize w3.alloc _ = W4 at *
      generalize w3.heap.size = xb at *
      obtain ⟨t0, t1, t2, t3⟩ := four HX.out
      go_wp2_with fail
      refine HCh.out.mono ?_
      rintro r w5 ⟨rfl, k5⟩
      have HX5 := Lib.hid (HX.out.keeps k5 id)
      have HW5 := Lib.hid (HW3.out.keeps k5 id)
      have HK5 := Lib.hid (HK3.out.trans k5)
      replace HI := Lib.hid (HI.out.keeps k5 (fun _ _ => id))
      replace HT := Lib.hid (HT.out.keeps k5 (fun _ _ => id))
      replace HKD := Lib.hid (HKD.out.keeps k5 (fun _ _ => id))
      clear t0 t1 t2 t3 a0 a1 a2 a3 HX HW3 HK3 HCh k5
      obtain ⟨t0, t1, t2, t3⟩ := four HX5.out
      obtain ⟨p0, p1, p2, p3⟩ := four HW5.out
      have f0 := HW5.out.free 0
      have f1 := HW5.out.free 1
      have f2 := HW5.out.free 2
      have f3 := HW5.out.free 3
      by_cases hc : chk p = 0
      · have HE := Lib.hid (HO0.out hc)
        rw [hc]
        have HZ := Lib.hid (whole_put4 (.int .i64 p.cards) (.slice A1 p.ints.length c1) (.slice A2 p.texts.length c2) (.slice A3 p.kinds.length c3) HW5.out)
        have HKZ := Lib.hid (keeps_put4 (.int .i64 p.cards) (.slice A1 p.ints.length c1) (.slice A2 p.texts.length c2) (.slice A3 p.kinds.length c3) HK5.out (g := w.heap.size) (fun h => absurd h (Nat.lt_irrefl _)))
        have hkk := keeps_put4 (S := fun k => k = w.heap.size) (.int .i64 p.cards) (.slice A1 p.ints.length c1) (.slice A2 p.texts.length c2) (.slice A3 p.kinds.length c3) (Keeps.refl _ w5) (g := w.heap.size) (fun _ => rfl)
        have HPI : Hid (OLo _ w.heap.size _ _ ∧ OTx _ w.heap.size _ _ ∧ OKd _ w.heap.size _ _) := Lib.hid ⟨(HI.out.keeps hkk (fun k hk e => by have := hwl.out; have := hrl.out; omega)).less (by have := hwl.out; have := hrl.out; omega), (HT.out.keeps hkk (fun k hk e => by have := hwl.out; have := hrl.out; omega)).less (by have := hwl.out; have := hrl.out; omega), (HKD.out.keeps hkk (fun k hk e => by have := hwl.out; have := hrl.out; omega)).less (by have := hwl.out; have := hrl.out; omega)⟩
        clear hc HO0 HO1 hkk
        go_wp2_with fail
        refine bodyPost_ret (results_cell3R (by rfl) _ w.heap.size (by rfl) #[.int .i64 p.cards, .slice A1 p.ints.length c1, .slice A2 p.texts.length c2, .slice A3 p.kinds.length c3] (.int .i64 0) (.int .i64 0) (by rfl) (by rfl) _ HZ.out _ Tryz.underlying26 rfl (by kernel_rfl)) rfl ?_
        refine ⟨p, A1, A2, A3, c1, c2, c3, by rw [HE.out]; rfl, by rw [HE.out], HPI.out.1, HPI.out.2.1, HPI.out.2.2, HKZ.out⟩
      · have HE := Lib.hid (HO1.out hc)
        obtain ⟨cv, hcv⟩ : ∃ c, c = chk p := ⟨_, rfl⟩
        rw [← hcv] at hc HE ⊢
        have hne : (cv : Int) ≠ 0 := by omega
        have hbn : ((cv : Int) != 0) = true := by simp [hc]
        have HZ := Lib.hid (whole_put4 (.int .i64 0) (.slice none 0 0) (.slice none 0 0) (.slice none 0 0) HW5.out)
        have HKZ := Lib.hid (keeps_put4 (.int .i64 0) (.slice none 0 0) (.slice none 0 0) (.slice none 0 0) HK5.out (g := w.heap.size) (fun h => absurd h (Nat.lt_irrefl _)))
        clear hc HO0 HO1 hcv
        go_wp2_with fail
        refine bodyPost_ret (results_cell3R (by rfl) _ w.heap.size (by rfl) zeroC (.int .i64 cv) (.int .i64 5) (by rfl) (by rfl) _ HZ.out _ Tryz.underlying26 rfl (by kernel_rfl)) rfl ?_
        exact ⟨zeroPk, none, none, none, 0, 0, 0, by rw [HE.out]; rfl, by rw [HE.out], World.ownsRow_nil _ _ _ _, World.ownsRow_nil _ _ _ _, ⟨[], OUp.nil⟩, HKZ.out⟩
    · unfold rfI at a1
      unfold rfE at a3
      simp only [] at a1 a3
      have HE : Hid (D = (zeroPk, f.1, f.2)) := Lib.hid (HD.out.trans hD)
      have hne : (f.1 : Int) ≠ 0 := by omega
      have hbn : ((f.1 : Int) != 0) = true := by simp [hf0]
      have HRW : Hid (rb ≠ w.heap.size) := Lib.hid (by have := hwl.out; omega)
      clear HS hD hf0
      go_wp2_with fail
      generalize w3.alloc _ = W4 at *
      generalize w3.heap.size = xb at *
      go_wp2_with fail
      have HFd := Lib.hid (HQ.out.box.drew)
      have HWd := Lib.hid (HW3.out.drew)
      have HKd := Lib.hid (HK3.out.drew)
      clear HQ HW3 HK3 a0 a1 a2 a3 HX HI HT HKD
      unfold rfC rfI rfE at HFd
      simp only [] at HFd
      refine wp_region_upTo 9 (fun W => W.cell? ⟨rb, 3, none⟩ = some (.int .i64 f.1) ∧ W.cell? ⟨rb, 1, none⟩ = some (.int .i64 f.2)) (fun _ => True) (by kernel_rfl) ?_
      generalize W4.drew = Wd at *
      have hS0 : Hid (Wd.cell? ⟨rb, 3, none⟩ = some (.int .i64 f.1) ∧ Wd.cell? ⟨rb, 1, none⟩ = some (.int .i64 f.2)) := Lib.hid ⟨HFd.out.cellAt 3, HFd.out.cellAt 1⟩
      refine upTo_take (i := 0) (v := ?v1) rfl (by kernel_rfl) (by kernel_rfl) (by kernel_rfl) (fun _ _ _ h => by first | exact h | exact absurd h.1 (fun e => by cases e)) (by decide) (Or.inl ⟨by rfl, ?hy1⟩) (hS0.out) (fun _ => trivial) ?rest1
      case hy1 =>
        intro w hSw
        clear hSw
        go_simp
        try with_reducible rfl
      go_simp
      refine upTo_take (i := 1) (v := ?v2) rfl (by kernel_rfl) (by kernel_rfl) (by kernel_rfl) (fun _ _ _ h => by first | exact h | exact absurd h.1 (fun e => by cases e)) (by decide) (Or.inl ⟨by rfl, ?hy2⟩) (hS0.out) (fun _ => trivial) ?rest2
      case hy2 =>
        intro w hSw
        clear hSw
        go_simp
        try with_reducible rfl
      go_simp
      refine upTo_take (i := 2) (v := ?v3) rfl (by kernel_rfl) (by kernel_rfl) (by kernel_rfl) (fun _ _ _ h => by first | exact h | exact absurd h.1 (fun e => by cases e)) (by decide) (Or.inl ⟨by rfl, ?hy3⟩) (hS0.out) (fun _ => trivial) ?rest3
      case hy3 =>
        intro w hSw
        clear hSw
        go_simp
        try with_reducible rfl
      go_simp
      refine upTo_take (i := 3) (v := ?v4) rfl (by kernel_rfl) (by kernel_rfl) (by kernel_rfl) (fun _ _ _ h => by first | exact h | exact absurd h.1 (fun e => by cases e)) (by decide) (Or.inl ⟨by rfl, ?hy4⟩) (hS0.out) (fun _ => trivial) ?rest4
      case hy4 =>
        intro w hSw
        clear hSw
        go_simp
        try with_reducible rfl
      go_simp
      refine upTo_take (i := 4) (v := ?v5) rfl (by kernel_rfl) (by kernel_rfl) (by kernel_rfl) (fun _ _ _ h => by first | exact h | exact absurd h.1 (fun e => by cases e)) (by decide) (Or.inl ⟨by rfl, ?hy5⟩) (hS0.out) (fun _ => trivial) ?rest5
      case hy5 =>
        intro w hSw
        obtain ⟨q0, q1⟩ := hSw
        go_simp
        try with_reducible rfl
      go_simp
      refine upTo_take (i := 5) (v := ?v6) rfl (by kernel_rfl) (by kernel_rfl) (by kernel_rfl) (fun _ _ _ h => by first | exact h | exact absurd h.1 (fun e => by cases e)) (by decide) (Or.inl ⟨by rfl, ?hy6⟩) (hS0.out) (fun _ => trivial) ?rest6
      case hy6 =>
        intro w hSw
        clear hSw
        go_simp
        try with_reducible rfl
      go_simp
      refine upTo_take (i := 6) (v := ?v7) rfl (by kernel_rfl) (by kernel_rfl) (by kernel_rfl) (fun _ _ _ h => by first | exact h | exact absurd h.1 (fun e => by cases e)) (by decide) (Or.inl ⟨by rfl, ?hy7⟩) (hS0.out) (fun _ => trivial) ?rest7
      case hy7 =>
        intro w hSw
        clear hSw
        go_simp
        try with_reducible rfl
      go_simp
      refine upTo_take (i := 7) (v := ?v8) rfl (by kernel_rfl) (by kernel_rfl) (by kernel_rfl) (fun _ _ _ h => by first | exact h | exact absurd h.1 (fun e => by cases e)) (by decide) (Or.inl ⟨by rfl, ?hy8⟩) (hS0.out) (fun _ => trivial) ?rest8
      case hy8 =>
        intro w hSw
        clear hSw
        go_simp
        try with_reducible rfl
      go_simp
      refine upTo_take (i := 8) (v := ?v9) rfl (by kernel_rfl) (by kernel_rfl) (by kernel_rfl) (fun _ _ _ h => by first | exact h | exact absurd h.1 (fun e => by cases e)) (by decide) (Or.inl ⟨by rfl, ?hy9⟩) (hS0.out) (fun _ => trivial) ?rest9
      case hy9 =>
        intro w hSw
        obtain ⟨q0, q1⟩ := hSw
        go_simp
        try with_reducible rfl
      go_simp
      obtain ⟨p0, p1, p2, p3⟩ := four HWd.out
      have f0 := HWd.out.free 0
      have f1 := HWd.out.free 1
      have f2 := HWd.out.free 2
      have f3 := HWd.out.free 3
      have HZ := Lib.hid (whole_put4 (.int .i64 0) (.slice none 0 0) (.slice none 0 0) (.slice none 0 0) HWd.out)
      have HKZ := Lib.hid (keeps_put4 (.int .i64 0) (.slice none 0 0) (.slice none 0 0) (.slice none 0 0) HKd.out (g := w.heap.size) (fun h => absurd h (Nat.lt_irrefl _)))
      have hkk := keeps_put4 (S := fun k => k = w.heap.size) (.int .i64 0) (.slice none 0 0) (.slice none 0 0) (.slice none 0 0) (Keeps.refl _ Wd) (g := w.heap.size) (fun _ => rfl)
      have HFz := Lib.hid (HFd.out.keeps hkk HRW.out)
      clear hkk
      refine upTo_next (i := 9) (by kernel_rfl) rfl ?_
      intro K hK
      go_simp
      refine hK.out _ _ (⟨HFz.out.cellAt 3, HFz.out.cellAt 1⟩) (fun h => absurd h (by decide)) ?_
      clear hK K
      go_simp
      refine upTo_take (i := 10) (v := ?v10) rfl (by kernel_rfl) (by kernel_rfl) (by kernel_rfl) (fun _ _ _ h => by first | exact h | exact absurd h.1 (fun e => by cases e)) (by decide) (Or.inl ⟨by rfl, ?hy10⟩) (⟨HFz.out.cellAt 3, HFz.out.cellAt 1⟩) (fun h => absurd h (by decide)) ?rest10
      case hy10 =>
        intro w hSw
        clear hSw
        go_simp
        try with_reducible rfl
      go_simp
      refine upTo_take (i := 11) (v := ?v11) rfl (by kernel_rfl) (by kernel_rfl) (by kernel_rfl) (fun _ _ _ h => by first | exact h | exact absurd h.1 (fun e => by cases e)) (by decide) (Or.inl ⟨by rfl, ?hy11⟩) (⟨HFz.out.cellAt 3, HFz.out.cellAt 1⟩) (fun h => absurd h (by decide)) ?rest11
      case hy11 =>
        intro w hSw
        clear hSw
        go_simp
        try with_reducible rfl
      go_simp
      refine upTo_done (by kernel_rfl) ?_ _
      clear p0 p1 p2 p3 f0 f1 f2 f3 hS0
      go_wp2_with fail
      refine bodyPost_ret (results_cell3R (by rfl) _ w.heap.size (by rfl) zeroC (.int .i64 f.1) (.int .i64 f.2) (by rfl) (by rfl) _ HZ.out _ Tryz.underlying26 rfl (by kernel_rfl)) rfl ?_
      exact ⟨zeroPk, none, none, none, 0, 0, 0, by rw [HE.out]; rfl, by rw [HE.out], World.ownsRow_nil _ _ _ _, World.ownsRow_nil _ _ _ _, ⟨[], OUp.nil⟩, HKZ.out⟩
  · obtain ⟨hc, hhc⟩ : ∃ h, h = headC b := ⟨_, rfl⟩
    have HE : Hid (D = (zeroPk, hc)) := Lib.hid (by rw [HD.out, decP_head h0, hhc])
    rw [← hhc] at h0 ⊢
    have hne : (hc.1 : Int) ≠ 0 := by omega
    have hbn : ((hc.1 : Int) != 0) = true := by simp [h0]
    obtain ⟨p0, p1, p2, p3⟩ := four HW1.out
    have f0 := HW1.out.free 0
    have f1 := HW1.out.free 1
    have f2 := HW1.out.free 2
    have f3 := HW1.out.free 3
    have HZ := Lib.hid (whole_put4 (.int .i64 0) (.slice none 0 0) (.slice none 0 0) (.slice none 0 0) HW1.out)
    have HKZ := Lib.hid (keeps_put4 (.int .i64 0) (.slice none 0 0) (.slice none 0 0) (.slice none 0 0) HK1.out (g := w.heap.size) (fun h => absurd h (Nat.lt_irrefl _)))
    clear hhc HL1 h0 HW1
    go_wp2_with fail
    refine bodyPost_ret (results_cell3R (by rfl) _ w.heap.size (by rfl) zeroC (.int .i64 hc.1) (.int .i64 hc.2) (by rfl) (by rfl) _ HZ.out _ Tryz.underlying26 rfl (by kernel_rfl)) rfl ?_
    exact ⟨zeroPk, none, none, none, 0, 0, 0, by rw [HE.out]; rfl, by rw [HE.out], World.ownsRow_nil _ _ _ _, World.ownsRow_nil _ _ _ _, ⟨[], OUp.nil⟩, HKZ.out⟩
end Go.Proofs.YtcmbdnjcfneinaaGreatDoor
