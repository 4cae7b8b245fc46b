/-
  What stands ahead of the sections, and the sum: the walk. Conditions: lengths within 10 ^ 9.
-/
import Derived.Test.YtcmbdnjcfneinaaGreatDoorRdMc
import Derived.Test.YtcmbdnjcfneinaaGreatDoorSuM
import Derived.Test.YtcmbdnjcfneinaaGreatDoorPkM
namespace Go.Proofs.YtcmbdnjcfneinaaGreatDoor
open Go.RowKit
section
variable {b : List Oct}
theorem headC_long (h : 1048576 < b.length) : headC b = (20, 1048576) := by
  unfold headC
  rw [if_pos h]
theorem headC_short (h1 : ¬ 1048576 < b.length) (h : b.length < 9) : headC b = (50, b.length) := by
  unfold headC
  rw [if_neg h1, if_pos h]
theorem headC_m (h1 : ¬ 1048576 < b.length) (h2 : ¬ b.length < 9) (i : Nat) (hi : i < 4) (hp : ∀ k, k < i → b[k]? = headP[k]?) (h : b[i]? ≠ headP[i]?) : headC b = (51, i) := by
  unfold headC
  rw [if_neg h1, if_neg h2]
  have h4 : i = 0 ∨ i = 1 ∨ i = 2 ∨ i = 3 := by omega
  rcases h4 with rfl | rfl | rfl | rfl
  · rw [if_pos (show b[0]? ≠ some 84#8 from h)]
  · rw [if_neg (by rw [hp 0 (by decide)]; simp [headP]), if_pos (show b[1]? ≠ some 66#8 from h)]
  · rw [if_neg (by rw [hp 0 (by decide)]; simp [headP]), if_neg (by rw [hp 1 (by decide)]; simp [headP]), if_pos (show b[2]? ≠ some 76#8 from h)]
  · rw [if_neg (by rw [hp 0 (by decide)]; simp [headP]), if_neg (by rw [hp 1 (by decide)]; simp [headP]), if_neg (by rw [hp 2 (by decide)]; simp [headP]), if_pos (show b[3]? ≠ some 88#8 from h)]
theorem headC_rest (h1 : ¬ 1048576 < b.length) (h2 : ¬ b.length < 9) (hp : ∀ k, k < 4 → b[k]? = headP[k]?) :
    headC b = if b[4]? ≠ some 1#8 then (52, 4) else if b.drop (b.length - 4) ≠ le4 (Crc.crc (b.take (b.length - 4))) then (53, b.length - 4) else (0, 0) := by
  unfold headC
  rw [if_neg h1, if_neg h2, if_neg (by rw [hp 0 (by decide)]; simp [headP]), if_neg (by rw [hp 1 (by decide)]; simp [headP]), if_neg (by rw [hp 2 (by decide)]; simp [headP]), if_neg (by rw [hp 3 (by decide)]; simp [headP])]
theorem sum_off {last : Nat} {x : Crc.W} {i : Nat} (h : b[last + i]? ≠ (le4 x)[i]?) : b.drop last ≠ le4 x := fun e => h (by rw [← e, List.getElem?_drop])
theorem sum_on {last : Nat} (hla : last + 4 = b.length) {x : Crc.W} (h : ∀ k, k < 4 → b[last + k]? = (le4 x)[k]?) : b.drop last = le4 x := by
  apply List.ext_getElem?
  intro k
  rw [List.getElem?_drop]
  by_cases hk : k < 4
  · exact h k hk
  · rw [List.getElem?_eq_none (by omega), List.getElem?_eq_none (by show 4 ≤ k; omega)]
theorem oct_of {c d : Oct} (h : (c.toNat : Int) = (d.toNat : Int)) : c = d := BitVec.eq_of_toNat_eq (by omega)
end
theorem lies_take {w : World} {B : Nat} {A : Option Addr} {b : List Oct} (hl : Lies w B A (bytesV b)) (n : Nat) : Lies w B A (bytesV (b.take n)) := fun k u hu => hl k u (by
  unfold bytesV at hu ⊢
  rw [List.getElem?_map, List.getElem?_take] at hu
  split at hu
  · rw [List.getElem?_map]; exact hu
  · cases hu)
set_option maxRecDepth 8000 in
set_option maxHeartbeats 4000000 in
theorem begins_any (b : List Oct) (A : Option Addr) (cap : Nat) (w : World) (hl : Lies w w.heap.size A (bytesV b)) (hcap : b.length ≤ cap) (hb : b.length ≤ 1000000000) :
    Calls Tryz.prog 77 #[.slice A b.length cap] w fun r w' => r = .returned (.tuple #[.int .i64 (headC b).1, .int .i64 (headC b).2]) ∧ Keeps (fun _ => False) w w' := by
  obtain ⟨R, hR⟩ : ∃ R, R = headC b := ⟨_, rfl⟩
  rw [← hR]
  have HR := Lib.hid hR
  clear hR
  by_cases h1 : 1048576 < b.length
  · have HE : Hid (R = (20, 1048576)) := Lib.hid (HR.out.trans (headC_long h1))
    clear hl HR
    go_enter Tryz.func77, Tryz.ntmps77
    go_wp2_with fail
    go_ret2
    rw [HE.out]
    exact ⟨rfl, Keeps.refl _ _⟩
  · by_cases h2 : b.length < 9
    · have HE : Hid (R = (50, b.length)) := Lib.hid (HR.out.trans (headC_short h1 h2))
      clear hl HR
      go_enter Tryz.func77, Tryz.ntmps77
      go_wp2_with fail
      go_ret2
      rw [HE.out]
      exact ⟨rfl, Keeps.refl _ _⟩
    · obtain ⟨last, hla⟩ : ∃ n, n + 4 = b.length := ⟨b.length - 4, by omega⟩
      obtain ⟨g, off, rfl, hg, _⟩ := hl 0 _ (bytesV_get b 0 (by omega))
      have hll : (b.length : Int) - 4 = (last : Int) := by omega
      have HL := Lib.hid hl
      have hcell : Hid (∀ k (hk : k < b.length), w.cell? ⟨g, off + k, none⟩ = some (.int .u8 (b[k].toNat : Int))) := Lib.hid (fun k hk => by
        obtain ⟨g', off', hA, _, hc⟩ := hl k _ (bytesV_get b k hk)
        injection hA with hA
        injection hA with e1 e2
        subst e1 e2
        exact hc)
      clear hl
      go_enter Tryz.func77, Tryz.ntmps77
      go_wp2_with fail
      go_loopw [18] (fun vi wr => ∃ i : Nat, i ≤ 4 ∧ vi = .int .i64 i ∧ Hid (∀ k, k < i → b[k]? = headP[k]?) ∧ Hid (Keeps (fun _ => False) w wr)) (fun vi _ => 4 - (intOf vi).toNat)
      case atStart => exact ⟨0, by omega, rfl, Lib.hid (fun k hk => by omega), Lib.hid (Keeps.refl _ _)⟩
      case round =>
        obtain ⟨i, hi, rfl, HP, HK⟩ := hrel
        by_cases hlt : i < 4
        · have h4 : i = 0 ∨ i = 1 ∨ i = 2 ∨ i = 3 := by omega
          rcases h4 with rfl | rfl | rfl | rfl
          · have hc := (HK.out.cell hg id).trans (hcell.out 0 (by omega))
            rw [Nat.add_zero] at hc
            by_cases hz : (b[0].toNat : Int) = 84
            · have HP1 : Hid (∀ k, k < 1 → b[k]? = headP[k]?) := Lib.hid (fun k hk => by
                by_cases e : k = 0
                · subst e
                  rw [List.getElem?_eq_getElem (by omega), show b[0] = 84#8 from oct_of hz]
                  rfl
                · exact HP.out k (by omega))
              rw [hz] at hc
              clear hz HP
              go_wp2_with fail
              go_quiet (fail)
              go_wp2_with fail
              go_roundw
              case rel => exact ⟨1, by omega, by go_num, HP1, Lib.hid (HK.out.drewN _)⟩
              case measure => simp [intOf]
            · have HE : Hid (R = (51, 0)) := Lib.hid (HR.out.trans (headC_m h1 h2 0 (by decide) HP.out (by
                rw [List.getElem?_eq_getElem (by omega)]
                intro e
                injection e with e
                exact hz (by rw [e]; rfl))))
              generalize (b[0].toNat : Int) = ci at *
              have hne : (ci != 84) = true := bne_iff_ne.2 hz
              have hne2 : (ci != (((⟨#[84, 66, 76, 88, 1]⟩ : ByteArray)[0]).toNat : Int)) = true := hne
              clear HP HR HL hcell
              go_wp2_with fail
              go_quiet (fail)
              go_wp2_with fail
              go_ret2
              rw [HE.out]
              exact ⟨rfl, HK.out.drewN _⟩
          · have hc := (HK.out.cell hg id).trans (hcell.out 1 (by omega))

            by_cases hz : (b[1].toNat : Int) = 66
            · have HP1 : Hid (∀ k, k < 2 → b[k]? = headP[k]?) := Lib.hid (fun k hk => by
                by_cases e : k = 1
                · subst e
                  rw [List.getElem?_eq_getElem (by omega), show b[1] = 66#8 from oct_of hz]
                  rfl
                · exact HP.out k (by omega))
              rw [hz] at hc
              clear hz HP
              go_wp2_with fail
              go_quiet (fail)
              go_wp2_with fail
              go_roundw
              case rel => exact ⟨2, by omega, by go_num, HP1, Lib.hid (HK.out.drewN _)⟩
              case measure => simp [intOf]
            · have HE : Hid (R = (51, 1)) := Lib.hid (HR.out.trans (headC_m h1 h2 1 (by decide) HP.out (by
                rw [List.getElem?_eq_getElem (by omega)]
                intro e
                injection e with e
                exact hz (by rw [e]; rfl))))
              generalize (b[1].toNat : Int) = ci at *
              have hne : (ci != 66) = true := bne_iff_ne.2 hz
              have hne2 : (ci != (((⟨#[84, 66, 76, 88, 1]⟩ : ByteArray)[1]).toNat : Int)) = true := hne
              clear HP HR HL hcell
              go_wp2_with fail
              go_quiet (fail)
              go_wp2_with fail
              go_ret2
              rw [HE.out]
              exact ⟨rfl, HK.out.drewN _⟩
          · have hc := (HK.out.cell hg id).trans (hcell.out 2 (by omega))

            by_cases hz : (b[2].toNat : Int) = 76
            · have HP1 : Hid (∀ k, k < 3 → b[k]? = headP[k]?) := Lib.hid (fun k hk => by
                by_cases e : k = 2
                · subst e
                  rw [List.getElem?_eq_getElem (by omega), show b[2] = 76#8 from oct_of hz]
                  rfl
                · exact HP.out k (by omega))
              rw [hz] at hc
              clear hz HP
              go_wp2_with fail
              go_quiet (fail)
              go_wp2_with fail
              go_roundw
              case rel => exact ⟨3, by omega, by go_num, HP1, Lib.hid (HK.out.drewN _)⟩
              case measure => simp [intOf]
            · have HE : Hid (R = (51, 2)) := Lib.hid (HR.out.trans (headC_m h1 h2 2 (by decide) HP.out (by
                rw [List.getElem?_eq_getElem (by omega)]
                intro e
                injection e with e
                exact hz (by rw [e]; rfl))))
              generalize (b[2].toNat : Int) = ci at *
              have hne : (ci != 76) = true := bne_iff_ne.2 hz
              have hne2 : (ci != (((⟨#[84, 66, 76, 88, 1]⟩ : ByteArray)[2]).toNat : Int)) = true := hne
              clear HP HR HL hcell
              go_wp2_with fail
              go_quiet (fail)
              go_wp2_with fail
              go_ret2
              rw [HE.out]
              exact ⟨rfl, HK.out.drewN _⟩
          · have hc := (HK.out.cell hg id).trans (hcell.out 3 (by omega))

            by_cases hz : (b[3].toNat : Int) = 88
            · have HP1 : Hid (∀ k, k < 4 → b[k]? = headP[k]?) := Lib.hid (fun k hk => by
                by_cases e : k = 3
                · subst e
                  rw [List.getElem?_eq_getElem (by omega), show b[3] = 88#8 from oct_of hz]
                  rfl
                · exact HP.out k (by omega))
              rw [hz] at hc
              clear hz HP
              go_wp2_with fail
              go_quiet (fail)
              go_wp2_with fail
              go_roundw
              case rel => exact ⟨4, by omega, by go_num, HP1, Lib.hid (HK.out.drewN _)⟩
              case measure => simp [intOf]
            · have HE : Hid (R = (51, 3)) := Lib.hid (HR.out.trans (headC_m h1 h2 3 (by decide) HP.out (by
                rw [List.getElem?_eq_getElem (by omega)]
                intro e
                injection e with e
                exact hz (by rw [e]; rfl))))
              generalize (b[3].toNat : Int) = ci at *
              have hne : (ci != 88) = true := bne_iff_ne.2 hz
              have hne2 : (ci != (((⟨#[84, 66, 76, 88, 1]⟩ : ByteArray)[3]).toNat : Int)) = true := hne
              clear HP HR HL hcell
              go_wp2_with fail
              go_quiet (fail)
              go_wp2_with fail
              go_ret2
              rw [HE.out]
              exact ⟨rfl, HK.out.drewN _⟩
        · have HP4 : Hid (∀ k, k < 4 → b[k]? = headP[k]?) := Lib.hid (fun k hk => HP.out k (by omega))
          have HRR := Lib.hid (HR.out.trans (headC_rest h1 h2 HP4.out))
          have hc := (HK.out.cell hg id).trans (hcell.out 4 (by omega))
          clear HP HP4 HR
          by_cases hz : (b[4].toNat : Int) = 1
          · have hz1 : b[4]? = some 1#8 := by rw [List.getElem?_eq_getElem (by omega), show b[4] = 1#8 from oct_of hz]
            have HRS : Hid (R = if b.drop last ≠ le4 (Crc.crc (b.take last)) then (53, last) else (0, 0)) := Lib.hid (by
              have e := HRR.out
              rw [if_neg (by rw [hz1]; simp), show b.length - 4 = last by omega] at e
              exact e)
            rw [hz] at hc
            clear hz hz1 HRR
            have HCr : Hid (∀ W, Keeps (fun _ => False) w W → Calls Tryz.prog 37 #[.slice (some ⟨g, off, none⟩) last cap] W fun e w' => e = .returned (.int .u32 (wn (Crc.crc (b.take last)))) ∧ Below W.heap.size W w') := Lib.hid (fun W hW => by
              have e : (b.take last).length = last := by rw [List.length_take]; omega
              have h := crc_any (b.take last) (some ⟨g, off, none⟩) w.heap.size cap W (lies_take (HL.out.keep fun g o hg => hW.cell hg id) last) hW.size (by omega)
              rw [e] at h
              exact h)
            go_wp2_with fail
            go_quiet (fail)
            go_wp2_with fail
            refine (HCr.out _ (HK.out.drewN _)).mono ?_
            rintro r w1 ⟨rfl, hb1⟩
            have HK1 := Lib.hid ((HK.out.drewN _).trans (keepsAll hb1))
            clear hb1 HCr HK hc
            obtain ⟨x, hx⟩ : ∃ x, x = Crc.crc (b.take last) := ⟨_, rfl⟩
            rw [← hx] at HRS ⊢
            have hxl := x.isLt
            clear hx
            unfold wn
            go_wp2_with fail
            go_loopw [42] (fun vi wr => ∃ i : Nat, i ≤ 4 ∧ vi = .int .i64 i ∧ Hid (∀ k, k < i → b[last + k]? = (le4 x)[k]?) ∧ Hid (Keeps (fun _ => False) w wr)) (fun vi _ => 4 - (intOf vi).toNat)
            case atStart => exact ⟨0, by omega, rfl, Lib.hid (fun k hk => by omega), HK1⟩
            case round =>
              clear HK1
              obtain ⟨j, hj, rfl, HQ, HK⟩ := hrel
              by_cases hltj : j < 4
              · have h4 : j = 0 ∨ j = 1 ∨ j = 2 ∨ j = 3 := by omega
                rcases h4 with rfl | rfl | rfl | rfl
                · have hc : wr.cell? ⟨g, off + last, none⟩ = some (.int .u8 (b[last + 0].toNat : Int)) := (HK.out.cell hg id).trans (hcell.out (last + 0) (by omega))
                  have hle : (((x >>> 0).setWidth 8).toNat : Int) = (x.toNat : Int) % 256 := by rw [le_byte]; first | rfl | (simp; done) | omega
                  by_cases hz : (b[last + 0].toNat : Int) = (x.toNat : Int) % 256
                  · have HQ1 : Hid (∀ k, k < 1 → b[last + k]? = (le4 x)[k]?) := Lib.hid (fun k hk => by
                      by_cases e : k = 0
                      · subst e
                        rw [List.getElem?_eq_getElem (by omega), show b[last + 0] = (x >>> 0).setWidth 8 from oct_of (hz.trans hle.symm)]
                        first | rfl | (simp [le4]; done)
                      · exact HQ.out k (by omega))
                    rw [hz] at hc
                    clear hz HQ hle
                    go_wp2_with fail
                    go_quiet (fail)
                    go_wp2_with fail
                    go_roundw
                    case rel => exact ⟨1, by omega, by go_num, HQ1, Lib.hid (HK.out.drewN _)⟩
                    case measure => simp [intOf]
                  · have HE : Hid (R = (53, last)) := Lib.hid (by
                      rw [HRS.out, if_pos (sum_off (i := 0) (by
                        rw [List.getElem?_eq_getElem (by omega)]
                        intro e
                        have e2 : some b[last + 0] = some ((x >>> 0).setWidth 8) := e.trans (by first | rfl | (simp [le4]; done))
                        injection e2 with e2
                        exact hz (by rw [e2, hle])))])
                    generalize (b[last + 0].toNat : Int) = ci at *
                    have hne : (ci != (x.toNat : Int) % 256) = true := bne_iff_ne.2 hz
                    clear HQ HRS HL hcell hle
                    go_wp2_with fail
                    go_quiet (fail)
                    go_wp2_with fail
                    go_ret2
                    rw [HE.out]
                    exact ⟨rfl, HK.out.drewN _⟩
                · have hc := (HK.out.cell hg id).trans (hcell.out (last + 1) (by omega))
                  have hle : (((x >>> 8).setWidth 8).toNat : Int) = (x.toNat : Int) / 256 % 256 := by rw [le_byte]; first | rfl | (simp; done) | omega
                  by_cases hz : (b[last + 1].toNat : Int) = (x.toNat : Int) / 256 % 256
                  · have HQ1 : Hid (∀ k, k < 2 → b[last + k]? = (le4 x)[k]?) := Lib.hid (fun k hk => by
                      by_cases e : k = 1
                      · subst e
                        rw [List.getElem?_eq_getElem (by omega), show b[last + 1] = (x >>> 8).setWidth 8 from oct_of (hz.trans hle.symm)]
                        first | rfl | (simp [le4]; done)
                      · exact HQ.out k (by omega))
                    rw [hz] at hc
                    clear hz HQ hle
                    go_wp2_with fail
                    go_quiet (fail)
                    go_wp2_with fail
                    go_roundw
                    case rel => exact ⟨2, by omega, by go_num, HQ1, Lib.hid (HK.out.drewN _)⟩
                    case measure => simp [intOf]
                  · have HE : Hid (R = (53, last)) := Lib.hid (by
                      rw [HRS.out, if_pos (sum_off (i := 1) (by
                        rw [List.getElem?_eq_getElem (by omega)]
                        intro e
                        have e2 : some b[last + 1] = some ((x >>> 8).setWidth 8) := e.trans (by first | rfl | (simp [le4]; done))
                        injection e2 with e2
                        exact hz (by rw [e2, hle])))])
                    generalize (b[last + 1].toNat : Int) = ci at *
                    have hne : (ci != (x.toNat : Int) / 256 % 256) = true := bne_iff_ne.2 hz
                    clear HQ HRS HL hcell hle
                    go_wp2_with fail
                    go_quiet (fail)
                    go_wp2_with fail
                    go_ret2
                    rw [HE.out]
                    exact ⟨rfl, HK.out.drewN _⟩
                · have hc := (HK.out.cell hg id).trans (hcell.out (last + 2) (by omega))
                  have hle : (((x >>> 16).setWidth 8).toNat : Int) = (x.toNat : Int) / 65536 % 256 := by rw [le_byte]; first | rfl | (simp; done) | omega
                  by_cases hz : (b[last + 2].toNat : Int) = (x.toNat : Int) / 65536 % 256
                  · have HQ1 : Hid (∀ k, k < 3 → b[last + k]? = (le4 x)[k]?) := Lib.hid (fun k hk => by
                      by_cases e : k = 2
                      · subst e
                        rw [List.getElem?_eq_getElem (by omega), show b[last + 2] = (x >>> 16).setWidth 8 from oct_of (hz.trans hle.symm)]
                        first | rfl | (simp [le4]; done)
                      · exact HQ.out k (by omega))
                    rw [hz] at hc
                    clear hz HQ hle
                    go_wp2_with fail
                    go_quiet (fail)
                    go_wp2_with fail
                    go_roundw
                    case rel => exact ⟨3, by omega, by go_num, HQ1, Lib.hid (HK.out.drewN _)⟩
                    case measure => simp [intOf]
                  · have HE : Hid (R = (53, last)) := Lib.hid (by
                      rw [HRS.out, if_pos (sum_off (i := 2) (by
                        rw [List.getElem?_eq_getElem (by omega)]
                        intro e
                        have e2 : some b[last + 2] = some ((x >>> 16).setWidth 8) := e.trans (by first | rfl | (simp [le4]; done))
                        injection e2 with e2
                        exact hz (by rw [e2, hle])))])
                    generalize (b[last + 2].toNat : Int) = ci at *
                    have hne : (ci != (x.toNat : Int) / 65536 % 256) = true := bne_iff_ne.2 hz
                    clear HQ HRS HL hcell hle
                    go_wp2_with fail
                    go_quiet (fail)
                    go_wp2_with fail
                    go_ret2
                    rw [HE.out]
                    exact ⟨rfl, HK.out.drewN _⟩
                · have hc := (HK.out.cell hg id).trans (hcell.out (last + 3) (by omega))
                  have hle : (((x >>> 24).setWidth 8).toNat : Int) = (x.toNat : Int) / 16777216 := by rw [le_byte]; first | rfl | (simp; done) | omega
                  by_cases hz : (b[last + 3].toNat : Int) = (x.toNat : Int) / 16777216
                  · have HQ1 : Hid (∀ k, k < 4 → b[last + k]? = (le4 x)[k]?) := Lib.hid (fun k hk => by
                      by_cases e : k = 3
                      · subst e
                        rw [List.getElem?_eq_getElem (by omega), show b[last + 3] = (x >>> 24).setWidth 8 from oct_of (hz.trans hle.symm)]
                        first | rfl | (simp [le4]; done)
                      · exact HQ.out k (by omega))
                    rw [hz] at hc
                    clear hz HQ hle
                    go_wp2_with fail
                    go_quiet (fail)
                    go_wp2_with fail
                    go_roundw
                    case rel => exact ⟨4, by omega, by go_num, HQ1, Lib.hid (HK.out.drewN _)⟩
                    case measure => simp [intOf]
                  · have HE : Hid (R = (53, last)) := Lib.hid (by
                      rw [HRS.out, if_pos (sum_off (i := 3) (by
                        rw [List.getElem?_eq_getElem (by omega)]
                        intro e
                        have e2 : some b[last + 3] = some ((x >>> 24).setWidth 8) := e.trans (by first | rfl | (simp [le4]; done))
                        injection e2 with e2
                        exact hz (by rw [e2, hle])))])
                    generalize (b[last + 3].toNat : Int) = ci at *
                    have hne : (ci != (x.toNat : Int) / 16777216) = true := bne_iff_ne.2 hz
                    clear HQ HRS HL hcell hle
                    go_wp2_with fail
                    go_quiet (fail)
                    go_wp2_with fail
                    go_ret2
                    rw [HE.out]
                    exact ⟨rfl, HK.out.drewN _⟩
              · have HE : Hid (R = (0, 0)) := Lib.hid (by
                  rw [HRS.out, if_neg (by rw [sum_on hla (fun k hk => HQ.out k (by omega))]; simp)])
                clear HQ HRS HL hcell
                go_wp2_with fail
                go_ret2
                rw [HE.out]
                exact ⟨rfl, HK.out⟩
          · have HE : Hid (R = (52, 4)) := Lib.hid (HRR.out.trans (if_pos (by
              rw [List.getElem?_eq_getElem (by omega)]
              intro e
              injection e with e
              exact hz (by rw [e]; rfl))))
            generalize (b[4].toNat : Int) = ci at *
            have hne : (ci != 1) = true := bne_iff_ne.2 hz
            have hne2 : (ci != (((⟨#[84, 66, 76, 88, 1]⟩ : ByteArray)[4]).toNat : Int)) = true := hne
            clear HRR HL hcell
            go_wp2_with fail
            go_quiet (fail)
            go_wp2_with fail
            go_ret2
            rw [HE.out]
            exact ⟨rfl, HK.out.drewN _⟩
end Go.Proofs.YtcmbdnjcfneinaaGreatDoor
/-
  A pack that has been read, where its lists lie: as the walks of Check and Encode ask it. Conditions: none.
-/
namespace Go.Proofs.YtcmbdnjcfneinaaGreatDoor
open Go.RowKit
theorem flat_at {α : Type} (n : Nat) (f : α → List Value) (hf : ∀ a, (f a).length = n) : ∀ (l : List α) (i : Nat) (a : α), l[i]? = some a → ∀ c, c < n → (l.flatMap f)[i * n + c]? = (f a)[c]?
  | [], i, a, h, c, hc => by simp at h
  | x :: l, 0, a, h, c, hc => by
    simp only [List.getElem?_cons_zero, Option.some.injEq] at h
    subst h
    rw [List.flatMap_cons, Nat.zero_mul, Nat.zero_add, List.getElem?_append_left (by rw [hf]; exact hc)]
  | x :: l, i + 1, a, h, c, hc => by
    simp only [List.getElem?_cons_succ] at h
    rw [List.flatMap_cons, List.getElem?_append_right (by rw [hf, Nat.succ_mul]; omega), hf, show (i + 1) * n + c - n = i * n + c by rw [Nat.succ_mul]; omega]
    exact flat_at n f hf l i a h c hc
theorem owns_cell {w : World} {B n size : Nat} {t : TypeId} {A : Option Addr} {cap : Nat} {xs : List Value} (h : w.ownsRow B t size (.slice A n cap) n xs) {o : Nat} {u : Value} (hu : xs[o]? = some u) (ho : o < n * size) : ∃ g, A = some ⟨g, 0, none⟩ ∧ g < w.heap.size ∧ w.cell? ⟨g, 0 + o, none⟩ = some u := by
  obtain ⟨hl, ⟨e, h0⟩ | ⟨g, cap', cur, e, hB, hg, hnc, hcm, hcs, ht⟩⟩ := h
  · subst h0
    omega
  · injection e with e1 e2 e3
    refine ⟨g, e1, (Array.getElem?_eq_some_iff.1 hg).1, ?_⟩
    rw [Nat.zero_add, Lib.cell_of_heap hg]
    have h2 : (cur.toList.take (n * size))[o]? = some u := by rw [ht]; exact hu
    rw [List.getElem?_take, if_pos ho, Array.getElem?_toList] at h2
    exact h2
theorem owns_to_lies {w : World} {B n : Nat} {t : TypeId} {A : Option Addr} {cap : Nat} {xs : List Value} (h : w.ownsRow B t 1 (.slice A n cap) n xs) : Lies w w.heap.size A xs := fun k u hu => by
  have hk := (List.getElem?_eq_some_iff.1 hu).1
  have hl := h.1
  obtain ⟨g, e, hg, hc⟩ := owns_cell h hu (by omega)
  exact ⟨g, 0, e, hg, hc⟩
theorem PK.tags_mem (B : Nat) (p : PK) : p.tagsL B ∈ p.locs B := List.mem_cons_self
theorem PK.effs_mem (B : Nat) (p : PK) : p.effsL B ∈ p.locs B := List.mem_cons_of_mem _ List.mem_cons_self
theorem PK.es_mem {B : Nat} {p : PK} {q : PE} {e : Loc} (hq : q ∈ p.es) (he : e ∈ q.locs B) : e ∈ p.locs B := List.mem_cons_of_mem _ (List.mem_cons_of_mem _ (List.mem_flatMap.2 ⟨q, hq, he⟩))
theorem PPk.kinds_mem (B : Nat) (p : PPk) : p.kindsL B ∈ p.locs B := List.mem_cons_self
theorem PPk.texts_mem (B : Nat) (p : PPk) : p.textsL B ∈ p.locs B := List.mem_cons_of_mem _ List.mem_cons_self
theorem PPk.ints_mem (B : Nat) (p : PPk) : p.intsL B ∈ p.locs B := List.mem_cons_of_mem _ (List.mem_cons_of_mem _ List.mem_cons_self)
theorem PPk.ks_mem {B : Nat} {p : PPk} {q : PK} {e : Loc} (hq : q ∈ p.ks) (he : e ∈ q.locs B) : e ∈ p.locs B := List.mem_cons_of_mem _ (List.mem_cons_of_mem _ (List.mem_cons_of_mem _ (List.mem_flatMap.2 ⟨q, hq, he⟩)))
section
variable {w0 w : World} {L : List Loc} {B : Nat}
theorem pe_lies {es : List PE} {A : Option Addr} {c : Nat} (h : Sep w0 w L) (h1 : Loc.own B 43 4 (.slice A es.length c) es.length (effVals es) ∈ L) (h2 : ∀ p ∈ es, p.slots B ∈ L ∧ p.code B ∈ L) : EfLies w w.heap.size A (es.map PE.e) := fun i e hi => by
  rw [List.getElem?_map] at hi
  obtain ⟨p, hp, rfl⟩ := Option.map_eq_some_iff.1 hi
  have hil := (List.getElem?_eq_some_iff.1 hp).1
  have ho : w.ownsRow B 43 4 (.slice A es.length c) es.length (effVals es) := h.all _ h1
  have hf : ∀ k, k < 4 → (effVals es)[i * 4 + k]? = p.vals.toList[k]? := fun k hk => flat_at 4 (fun p : PE => p.vals.toList) (fun _ => rfl) es i p hp k hk
  have hm : ∀ k, k < 4 → i * 4 + k < es.length * 4 := fun k hk => by omega
  obtain ⟨g, eA, hg, c0⟩ := owns_cell ho (hf 0 (by decide)) (hm 0 (by decide))
  have cc : ∀ k u, k < 4 → p.vals.toList[k]? = some u → w.cell? ⟨g, 0 + (i * 4 + k), none⟩ = some u := fun k u hk hu => by
    obtain ⟨g', eA', _, c1⟩ := owns_cell ho ((hf k hk).trans hu) (hm k hk)
    rw [eA] at eA'
    injection eA' with e1
    injection e1 with e1
    rw [e1]
    exact c1
  obtain ⟨hs, hc⟩ := h2 p (List.mem_of_getElem? hp)
  exact ⟨g, 0, p.As, p.cs, p.Ac, p.cc, eA, hg, cc 0 _ (by decide) rfl, cc 1 _ (by decide) rfl, cc 2 _ (by decide) rfl, cc 3 _ (by decide) rfl, owns_to_lies (h.all _ hs), owns_to_lies (h.all _ hc)⟩
theorem pk_lies {ks : List PK} {A : Option Addr} {c : Nat} (h : Sep w0 w L) (h1 : Loc.own B 40 6 (.slice A ks.length c) ks.length (kndVals ks) ∈ L) (h2 : ∀ p ∈ ks, ∀ e ∈ p.locs B, e ∈ L) : KdLies w w.heap.size A (ks.map PK.knd) := fun i e hi => by
  rw [List.getElem?_map] at hi
  obtain ⟨p, hp, rfl⟩ := Option.map_eq_some_iff.1 hi
  have hil := (List.getElem?_eq_some_iff.1 hp).1
  have ho : w.ownsRow B 40 6 (.slice A ks.length c) ks.length (kndVals ks) := h.all _ h1
  have hf : ∀ k, k < 6 → (kndVals ks)[i * 6 + k]? = p.vals.toList[k]? := fun k hk => flat_at 6 (fun p : PK => p.vals.toList) (fun _ => rfl) ks i p hp k hk
  have hm : ∀ k, k < 6 → i * 6 + k < ks.length * 6 := fun k hk => by omega
  obtain ⟨g, eA, hg, c0⟩ := owns_cell ho (hf 0 (by decide)) (hm 0 (by decide))
  have cc : ∀ k u, k < 6 → p.vals.toList[k]? = some u → w.cell? ⟨g, 0 + (i * 6 + k), none⟩ = some u := fun k u hk hu => by
    obtain ⟨g', eA', _, c1⟩ := owns_cell ho ((hf k hk).trans hu) (hm k hk)
    rw [eA] at eA'
    injection eA' with e1
    injection e1 with e1
    rw [e1]
    exact c1
  have hp2 := h2 p (List.mem_of_getElem? hp)
  have hT := h.all _ (hp2 _ (p.tags_mem B))
  have hE := pe_lies h (hp2 (p.effsL B) (p.effs_mem B)) (fun q hq => ⟨hp2 _ (PK.es_mem hq List.mem_cons_self), hp2 _ (PK.es_mem hq (List.mem_cons_of_mem _ List.mem_cons_self))⟩)
  have hel : (p.es.map PE.e).length = p.es.length := List.length_map _
  refine ⟨g, 0, p.At, p.ct, p.Ae, p.ce, eA, hg, cc 0 _ (by decide) rfl, cc 1 _ (by decide) rfl, cc 2 _ (by decide) rfl, cc 3 _ (by decide) rfl, cc 4 _ (by decide) rfl, ?_, owns_to_lies hT, hE⟩
  show w.cell? ⟨g, 0 + (i * 6 + 5), none⟩ = some (.slice p.Ae (p.es.map PE.e).length p.ce)
  rw [hel]
  exact cc 5 _ (by decide) rfl
end
/-- What has been read, as the walks ask it. -/
theorem PPk.lies {w0 w : World} {B : Nat} (p : PPk) (h : Sep w0 w (p.locs B)) : PkIn w w.heap.size (toPk p.x) p.Ai p.At p.Ak :=
  ⟨owns_to_lies (h.all _ (p.ints_mem _)), owns_to_lies (h.all _ (p.texts_mem _)), pk_lies h (p.kinds_mem _) (fun _ hq _ he => PPk.ks_mem hq he)⟩
theorem PPk.pkC (p : PPk) : p.vals = pkC (toPk p.x) p.Ai p.At p.Ak p.ci p.ct p.ck := by
  unfold PPk.vals Go.Proofs.YtcmbdnjcfneinaaGreatDoor.pkC
  show _ = (#[_, _, _, Value.slice p.Ak (p.ks.map PK.knd).length p.ck] : Array Value)
  rw [List.length_map]
  rfl
theorem few_eff {e : Eff} (h : goodEff e) : EffFew e := ⟨by have := h.2.1.1; omega, by have := h.2.2.2; omega, h.2.1.2⟩
theorem few_knd {k : Knd} (h : goodKnd k) : KndFew k := ⟨by have := h.2.2.2.2.1.1; omega, by have := h.2.2.2.2.2.1; omega, fun e he => few_eff (h.2.2.2.2.2.2 e he)⟩
theorem few_pk {p : Pk} (h : GoodPk p) : PkFew p := ⟨by have := h.ints.1; omega, by have := h.texts.1; omega, fun t ht => by have := h.texts.2 t ht; unfold goodText at this; omega, by have := h.kinds.1; omega, fun k hk => few_knd (h.kinds.2 k hk), h.ints.2⟩
/-- What is read is good and small. -/
theorem read_good {b : List Oct} {x : Int × List Int × List (List Oct) × List Knd} {j : Nat} (h5 : 5 ≤ b.length) (hb : b.length ≤ 1048576) (h : secsP b 5 = .ok x j) : GoodPk (toPk x) ∧ sizeP (toPk x) ≤ 1000000000000 := by
  obtain ⟨hg, hj, he, t, ht⟩ := Cs.secs.sound h5 h
  have := secsE_length (toPk x)
  exact ⟨hg, by omega⟩
end Go.Proofs.YtcmbdnjcfneinaaGreatDoor
