/-
  The bag: Apart, out of the lists' own walks. Conditions: each of them answers true.
-/
import Derived.Test.YtcmbdnjcfneinaaGreatDoorBagA
import Derived.Test.YtcmbdnjcfneinaaGreatDoorBagP
import Derived.RegionTactic
import Derived.Deep.RegionWith
namespace Go.Proofs.YtcmbdnjcfneinaaGreatDoor
open Go.RowKit
/-- This part of Apart answers true, and leads from the worlds I to the worlds J. -/
def BagOk (I J : World → Prop) (p f : Nat) : Prop := ∀ w1, I w1 → Calls Tryz.prog f #[.pointer (some ⟨p, 0, none⟩)] w1 fun e w' => e = .returned (.bool true) ∧ J w'
/-- The cell j of the bag holds no list. -/
def BagNil (I : World → Prop) (p j : Nat) : Prop := ∀ w1, I w1 → w1.cell? ⟨p, j, none⟩ = some (.slice none 0 0)

theorem okBytes_none {I : World → Prop} {p : Nat} (h : BagNil I p 0) : BagOk I I p 54 := fun w1 hi =>
  (apartBytes_none p w1 (h w1 hi)).mono fun _ _ ⟨he, hw⟩ => ⟨he, hw ▸ hi⟩
theorem okInts_none {I : World → Prop} {p : Nat} (h : BagNil I p 1) : BagOk I I p 55 := fun w1 hi =>
  (apartInts_none p w1 (h w1 hi)).mono fun _ _ ⟨he, hw⟩ => ⟨he, hw ▸ hi⟩
theorem okLongs_none {I : World → Prop} {p : Nat} (h : BagNil I p 2) : BagOk I I p 56 := fun w1 hi =>
  (apartLongs_none p w1 (h w1 hi)).mono fun _ _ ⟨he, hw⟩ => ⟨he, hw ▸ hi⟩
theorem okWords_none {I : World → Prop} {p : Nat} (h : BagNil I p 3) : BagOk I I p 57 := fun w1 hi =>
  (apartWords_none p w1 (h w1 hi)).mono fun _ _ ⟨he, hw⟩ => ⟨he, hw ▸ hi⟩
theorem okFloats_none {I : World → Prop} {p : Nat} (h : BagNil I p 4) : BagOk I I p 58 := fun w1 hi =>
  (apartFloats_none p w1 (h w1 hi)).mono fun _ _ ⟨he, hw⟩ => ⟨he, hw ▸ hi⟩
theorem okSmalls_none {I : World → Prop} {p : Nat} (h : BagNil I p 5) : BagOk I I p 59 := fun w1 hi =>
  (apartSmalls_none p w1 (h w1 hi)).mono fun _ _ ⟨he, hw⟩ => ⟨he, hw ▸ hi⟩
theorem okTexts_none {I : World → Prop} {p : Nat} (h : BagNil I p 6) : BagOk I I p 60 := fun w1 hi =>
  (apartTexts_none p w1 (h w1 hi)).mono fun _ _ ⟨he, hw⟩ => ⟨he, hw ▸ hi⟩
theorem okPlayers_none {I : World → Prop} {p : Nat} (h : BagNil I p 7) : BagOk I I p 61 := fun w1 hi =>
  (apartPlayers_none p w1 (h w1 hi)).mono fun _ _ ⟨he, hw⟩ => ⟨he, hw ▸ hi⟩
theorem okCards_none {I : World → Prop} {p : Nat} (h : BagNil I p 8) : BagOk I I p 62 := fun w1 hi =>
  (apartCards_none p w1 (h w1 hi)).mono fun _ _ ⟨he, hw⟩ => ⟨he, hw ▸ hi⟩
theorem okTokens_none {I : World → Prop} {p : Nat} (h : BagNil I p 9) : BagOk I I p 63 := fun w1 hi =>
  (apartTokens_none p w1 (h w1 hi)).mono fun _ _ ⟨he, hw⟩ => ⟨he, hw ▸ hi⟩
theorem okNodes_none {I : World → Prop} {p : Nat} (h : BagNil I p 10) : BagOk I I p 64 := fun w1 hi =>
  (apartNodes_none p w1 (h w1 hi)).mono fun _ _ ⟨he, hw⟩ => ⟨he, hw ▸ hi⟩
theorem okInstrs_none {I : World → Prop} {p : Nat} (h : BagNil I p 11) : BagOk I I p 65 := fun w1 hi =>
  (apartInstrs_none p w1 (h w1 hi)).mono fun _ _ ⟨he, hw⟩ => ⟨he, hw ▸ hi⟩
theorem okRows_none {I : World → Prop} {p : Nat} (h : BagNil I p 12) : BagOk I I p 66 := fun w1 hi =>
  (apartRows_none p w1 (h w1 hi)).mono fun _ _ ⟨he, hw⟩ => ⟨he, hw ▸ hi⟩
theorem okShapes_none {I : World → Prop} {p : Nat} (h : BagNil I p 13) : BagOk I I p 67 := fun w1 hi =>
  (apartShapes_none p w1 (h w1 hi)).mono fun _ _ ⟨he, hw⟩ => ⟨he, hw ▸ hi⟩
theorem okEvents_none {I : World → Prop} {p : Nat} (h : BagNil I p 14) : BagOk I I p 68 := fun w1 hi =>
  (apartEvents_none p w1 (h w1 hi)).mono fun _ _ ⟨he, hw⟩ => ⟨he, hw ▸ hi⟩
theorem okValues_none {I : World → Prop} {p : Nat} (h : BagNil I p 15) : BagOk I I p 69 := fun w1 hi =>
  (apartValues_none p w1 (h w1 hi)).mono fun _ _ ⟨he, hw⟩ => ⟨he, hw ▸ hi⟩
theorem okAbilities_none {I : World → Prop} {p : Nat} (h : BagNil I p 16) : BagOk I I p 70 := fun w1 hi =>
  (apartAbilities_none p w1 (h w1 hi)).mono fun _ _ ⟨he, hw⟩ => ⟨he, hw ▸ hi⟩
theorem okDesigns_none {I : World → Prop} {p : Nat} (h : BagNil I p 17) : BagOk I I p 71 := fun w1 hi =>
  (apartDesigns_none p w1 (h w1 hi)).mono fun _ _ ⟨he, hw⟩ => ⟨he, hw ▸ hi⟩
theorem okEffects_none {I : World → Prop} {p : Nat} (h : BagNil I p 18) : BagOk I I p 72 := fun w1 hi =>
  (apartEffects_none p w1 (h w1 hi)).mono fun _ _ ⟨he, hw⟩ => ⟨he, hw ▸ hi⟩
theorem okKinds_none {I : World → Prop} {p : Nat} (h : BagNil I p 19) : BagOk I I p 73 := fun w1 hi =>
  (apartKinds_none p w1 (h w1 hi)).mono fun _ _ ⟨he, hw⟩ => ⟨he, hw ▸ hi⟩
theorem okStates_none {I : World → Prop} {p : Nat} (h : BagNil I p 20) : BagOk I I p 74 := fun w1 hi =>
  (apartStates_none p w1 (h w1 hi)).mono fun _ _ ⟨he, hw⟩ => ⟨he, hw ▸ hi⟩
set_option maxRecDepth 100000 in
set_option maxHeartbeats 2000000 in
theorem apart_any (I : Nat → World → Prop) (p : Nat) (w : World) (hI : I 0 w) (h0 : BagOk (I 0) (I 1) p 54) (h1 : BagOk (I 1) (I 2) p 55) (h2 : BagOk (I 2) (I 3) p 56) (h3 : BagOk (I 3) (I 4) p 57) (h4 : BagOk (I 4) (I 5) p 58) (h5 : BagOk (I 5) (I 6) p 59) (h6 : BagOk (I 6) (I 7) p 60) (h7 : BagOk (I 7) (I 8) p 61) (h8 : BagOk (I 8) (I 9) p 62) (h9 : BagOk (I 9) (I 10) p 63) (h10 : BagOk (I 10) (I 11) p 64) (h11 : BagOk (I 11) (I 12) p 65) (h12 : BagOk (I 12) (I 13) p 66) (h13 : BagOk (I 13) (I 14) p 67) (h14 : BagOk (I 14) (I 15) p 68) (h15 : BagOk (I 15) (I 16) p 69) (h16 : BagOk (I 16) (I 17) p 70) (h17 : BagOk (I 17) (I 18) p 71) (h18 : BagOk (I 18) (I 19) p 72) (h19 : BagOk (I 19) (I 20) p 73) (h20 : BagOk (I 20) (I 21) p 74) :
    Calls Tryz.prog 16 #[.pointer (some ⟨p, 0, none⟩)] w fun e w' => e = .returned (.bool true) ∧ I 21 w' := by
  have HK0 := Lib.hid hI; clear hI
  have H0 := Lib.hid h0; clear h0
  have H1 := Lib.hid h1; clear h1
  have H2 := Lib.hid h2; clear h2
  have H3 := Lib.hid h3; clear h3
  have H4 := Lib.hid h4; clear h4
  have H5 := Lib.hid h5; clear h5
  have H6 := Lib.hid h6; clear h6
  have H7 := Lib.hid h7; clear h7
  have H8 := Lib.hid h8; clear h8
  have H9 := Lib.hid h9; clear h9
  have H10 := Lib.hid h10; clear h10
  have H11 := Lib.hid h11; clear h11
  have H12 := Lib.hid h12; clear h12
  have H13 := Lib.hid h13; clear h13
  have H14 := Lib.hid h14; clear h14
  have H15 := Lib.hid h15; clear h15
  have H16 := Lib.hid h16; clear h16
  have H17 := Lib.hid h17; clear h17
  have H18 := Lib.hid h18; clear h18
  have H19 := Lib.hid h19; clear h19
  have H20 := Lib.hid h20; clear h20
  go_enter Tryz.func16, Tryz.ntmps16
  go_wp2_with fail
  refine (H0.out _ HK0.out).mono ?_
  rintro e w1 ⟨rfl, hk⟩
  have HK1 := Lib.hid hk; clear hk HK0
  go_wp2_with fail
  refine (H1.out _ HK1.out).mono ?_
  rintro e w2 ⟨rfl, hk⟩
  have HK2 := Lib.hid hk; clear hk HK1
  go_wp2_with fail
  refine (H2.out _ HK2.out).mono ?_
  rintro e w3 ⟨rfl, hk⟩
  have HK3 := Lib.hid hk; clear hk HK2
  go_wp2_with fail
  refine (H3.out _ HK3.out).mono ?_
  rintro e w4 ⟨rfl, hk⟩
  have HK4 := Lib.hid hk; clear hk HK3
  go_wp2_with fail
  refine (H4.out _ HK4.out).mono ?_
  rintro e w5 ⟨rfl, hk⟩
  have HK5 := Lib.hid hk; clear hk HK4
  go_wp2_with fail
  refine (H5.out _ HK5.out).mono ?_
  rintro e w6 ⟨rfl, hk⟩
  have HK6 := Lib.hid hk; clear hk HK5
  go_wp2_with fail
  refine (H6.out _ HK6.out).mono ?_
  rintro e w7 ⟨rfl, hk⟩
  have HK7 := Lib.hid hk; clear hk HK6
  go_wp2_with fail
  refine (H7.out _ HK7.out).mono ?_
  rintro e w8 ⟨rfl, hk⟩
  have HK8 := Lib.hid hk; clear hk HK7
  go_wp2_with fail
  refine (H8.out _ HK8.out).mono ?_
  rintro e w9 ⟨rfl, hk⟩
  have HK9 := Lib.hid hk; clear hk HK8
  go_wp2_with fail
  refine (H9.out _ HK9.out).mono ?_
  rintro e w10 ⟨rfl, hk⟩
  have HK10 := Lib.hid hk; clear hk HK9
  go_wp2_with fail
  refine (H10.out _ HK10.out).mono ?_
  rintro e w11 ⟨rfl, hk⟩
  have HK11 := Lib.hid hk; clear hk HK10
  go_wp2_with fail
  refine (H11.out _ HK11.out).mono ?_
  rintro e w12 ⟨rfl, hk⟩
  have HK12 := Lib.hid hk; clear hk HK11
  go_wp2_with fail
  refine (H12.out _ HK12.out).mono ?_
  rintro e w13 ⟨rfl, hk⟩
  have HK13 := Lib.hid hk; clear hk HK12
  go_wp2_with fail
  refine (H13.out _ HK13.out).mono ?_
  rintro e w14 ⟨rfl, hk⟩
  have HK14 := Lib.hid hk; clear hk HK13
  go_wp2_with fail
  refine (H14.out _ HK14.out).mono ?_
  rintro e w15 ⟨rfl, hk⟩
  have HK15 := Lib.hid hk; clear hk HK14
  go_wp2_with fail
  refine (H15.out _ HK15.out).mono ?_
  rintro e w16 ⟨rfl, hk⟩
  have HK16 := Lib.hid hk; clear hk HK15
  go_wp2_with fail
  refine (H16.out _ HK16.out).mono ?_
  rintro e w17 ⟨rfl, hk⟩
  have HK17 := Lib.hid hk; clear hk HK16
  go_wp2_with fail
  refine (H17.out _ HK17.out).mono ?_
  rintro e w18 ⟨rfl, hk⟩
  have HK18 := Lib.hid hk; clear hk HK17
  go_wp2_with fail
  refine (H18.out _ HK18.out).mono ?_
  rintro e w19 ⟨rfl, hk⟩
  have HK19 := Lib.hid hk; clear hk HK18
  go_wp2_with fail
  refine (H19.out _ HK19.out).mono ?_
  rintro e w20 ⟨rfl, hk⟩
  have HK20 := Lib.hid hk; clear hk HK19
  go_wp2_with fail
  refine (H20.out _ HK20.out).mono ?_
  rintro e w21 ⟨rfl, hk⟩
  have HK21 := Lib.hid hk; clear hk HK20
  go_wp2_with fail
  go_ret
  exact ⟨rfl, HK21.out⟩
end Go.Proofs.YtcmbdnjcfneinaaGreatDoor
/-
  The bag: its lists of bytes, marked, gone on with and looked at: the walk. Conditions: no two of them lie in one block; Go's own limits.
-/
namespace Go.Proofs.YtcmbdnjcfneinaaGreatDoor
open Go.RowKit
theorem info_byteB : (Tryz.prog.info? 5).map (fun i => (i.zero, i.size, i.bytes)) = some (some (.int .u8 0), 1, 1) := by kernel_rfl
theorem info_bytesB : (Tryz.prog.info? 32).map (fun i => (i.zero, i.size, i.bytes)) = some (some (.slice none 0 0), 1, 24) := by kernel_rfl
/-- The mark i of the list n. -/
def mkY (n i : Nat) : List Value := [.int .u8 ((31 * (n : Int) + 7 * (i : Int) + 3) % 256)]
theorem mkY_length (n i : Nat) : (mkY n i).length = 1 := rfl
theorem mkY_add (n l m : Nat) : mkY n (l + m) = [.int .u8 ((31 * (n : Int) + 7 * ((l : Int) + (m : Int)) + 3) % 256)] := by unfold mkY; rw [Int.natCast_add]
theorem mkY_at (k m i : Nat) (h : i < m) : (marks mkY k m)[i]? = some (.int .u8 ((31 * (k : Int) + 7 * (i : Int) + 3) % 256)) := by
  have := marks_get mkY mkY_length k m i 0 h (by decide)
  rw [Nat.mul_one, Nat.add_zero] at this
  rw [this]; rfl
set_option maxRecDepth 100000 in
set_option maxHeartbeats 2000000 in
theorem apartBytes_any (p gO capO : Nat) (rows : List Sl) (w : World) (hF : BagFix w p 0 gO capO rows) (hR : SlRows 5 1 rows w) (hn : rows.length ≤ 400) (hl : ∀ (k : Nat) (r : Sl), rows[k]? = some r → r.len ≤ 1000000000000) :
    Calls Tryz.prog 54 #[.pointer (some ⟨p, 0, none⟩)] w fun e w' => e = .returned (.bool true) ∧ Keeps (blks rows) w w' := by
  have HF := Lib.hid hF
  have HAp := Lib.hid hR.apart
  have HM0 : Hid (Marked mkY 5 1 rows w w 0) := Lib.hid (Marked.start hR (Keeps.refl _ _))
  have HL := Lib.hid hl
  clear hl hR
  have c0 := hF.hp
  go_enter Tryz.func54, Tryz.ntmps54
  go_wp2_with fail
  clear c0
  go_loopw [3] (fun v wr => ∃ n : Nat, n ≤ rows.length ∧ v = .int .i64 n ∧ Hid (Marked mkY 5 1 rows w wr n)) (fun v _ => rows.length - (intOf v).toNat)
  case atStart => exact ⟨0, by omega, rfl, HM0⟩
  case round =>
    clear HM0 hF
    obtain ⟨n, hnr, rfl, HM⟩ := hrel
    have HFr := Lib.hid (HF.out.keeps HM.out.keeps)
    have c0 := HFr.out.hp
    by_cases hlt : n < rows.length
    · obtain ⟨r, hr⟩ : ∃ r, rows[n]? = some r := ⟨_, List.getElem?_eq_getElem hlt⟩
      have c1 := HFr.out.hO n r hr
      have HI0 := Lib.hid (HM.out.enter hr)
      have hrl := HL.out n r hr
      have HRr := Lib.hid hr
      obtain ⟨ra, rl, rc⟩ := r
      clear HM hr
      go_wp2_with fail
      clear c0 c1
      go_loopw [4] (fun v wr => ∃ i : Nat, i ≤ rl ∧ v = .int .i64 i ∧ Hid (MarkedIn mkY 5 1 rows w wr n i ⟨ra, rl, rc⟩)) (fun v _ => rl - (intOf v).toNat)
      case atStart => exact ⟨0, by omega, rfl, HI0⟩
      case round =>
        clear HI0 HFr
        obtain ⟨i, hir, rfl, HI⟩ := hrel
        have HFr := Lib.hid (HF.out.keeps HI.out.keeps)
        have c0 := HFr.out.hp
        have c1 := HFr.out.hO n _ HRr.out
        by_cases hil : i < rl
        · obtain ⟨g, cs, hg, hW, hsz⟩ := HI.out.cell hil
          obtain rfl : ra = some ⟨g, 0, none⟩ := hg
          obtain ⟨u, hu⟩ : ∃ u, wr.cell? ⟨g, i, none⟩ = some u := ⟨_, (hW.cellAt i).trans (Array.getElem?_eq_getElem (by simp only [Nat.mul_one] at hsz; omega))⟩
          have hfr := hW.free i
          clear hW hsz
          have HP := Lib.hid (HI.out.put (u := .int .u8 ((31 * (n : Int) + 7 * (i : Int) + 3) % 256)) HRr.out HAp.out hil rfl rfl)
          clear HI
          go_wp2_with fail
          go_roundw
          case rel => exact ⟨i + 1, by omega, by go_num, HP⟩
          case measure => (simp [intOf] <;> omega)
        · obtain rfl : i = rl := by omega
          have HM := Lib.hid (HI.out.leave HRr.out)
          clear HI
          go_wp2_with fail
          go_roundw
          case rel => exact ⟨n + 1, by omega, by go_num, HM⟩
          case measure => (simp [intOf] <;> omega)
    · obtain rfl : n = rows.length := by omega
      have HG0 := Lib.hid (Going.start (eo := 32) (base := wr.heap.size) HM.out rfl)
      have hb0 := HM.out.keeps.size
      clear hlt HM HFr
      go_wp2_with fail
      clear c0
      generalize wr.heap.size = base at *
      go_loopw [5, 6, 7] (fun vo vm v wq => ∃ (n : Nat) (ov mv : Value) (ones mores : List Value) (D : Nat → Prop), n ≤ rows.length ∧ v = .int .i64 n ∧ ov = vo ∧ mv = vm ∧ Hid (Going mkY 5 32 1 base rows w wq n ov mv ones mores D)) (fun _ _ v _ => rows.length - (intOf v).toNat)
      case atStart => exact ⟨0, _, _, [], [], fun _ => False, by omega, rfl, rfl, rfl, HG0⟩
      case round =>
        clear HG0
        obtain ⟨n, ov, mv, ones, mores, D, hnr, rfl, rfl, rfl, HG⟩ := hrel
        have HFr := Lib.hid (HF.out.keeps HG.out.keeps)
        have c0 := HFr.out.hp
        by_cases hlt : n < rows.length
        · obtain ⟨r, hr⟩ : ∃ r, rows[n]? = some r := ⟨_, List.getElem?_eq_getElem hlt⟩
          have c1 := HFr.out.hO n r hr
          have HI0 := Lib.hid (HG.out.enter HAp.out hr)
          have hrl := HL.out n r hr
          have HRr := Lib.hid hr
          obtain ⟨ra, rl, rc⟩ := r
          clear HG hr HFr
          go_wp2_with fail
          clear c0 c1
          go_loopw [5, 8, 9] (fun vo vl v wq => ∃ (m c lcap : Nat) (lA : Option Addr) (ones : List Value) (E : Nat → Prop), m ≤ 70 ∧ v = .int .i64 ((rl : Int) + (m : Int)) ∧ vl = .slice lA (rl + m) lcap ∧ c = (if m = 0 then n else n + 1) ∧ Hid (GoingIn mkY 5 32 1 base rows w wq n m c vo mv vl ones mores D E ⟨ra, rl, rc⟩)) (fun _ _ v _ => (rl : Int).toNat + 70 - (intOf v).toNat)
          case atStart => exact ⟨0, n, rc, ra, ones, _, by omega, by simp, rfl, rfl, HI0⟩
          case round =>
            clear HI0
            obtain ⟨m, c, lcap, lA, ones, E, hm, rfl, rfl, hc, HI⟩ := hrel
            have HFr := Lib.hid (HF.out.keeps HI.out.keeps)
            have c0 := HFr.out.hp
            have c1 := HFr.out.hO n _ HRr.out
            clear HFr
            obtain ⟨wq, rfl⟩ : ∃ wq : World, wq = wr := ⟨_, rfl⟩
            by_cases hm0 : m = 0
            · subst hm0
              obtain rfl : c = n := by simpa using hc
              clear hc hm
              have own0 : Hid (wq.ownsRow 0 5 1 (.slice lA rl lcap) rl (marks mkY c rl)) := Lib.hid HI.out.own
              go_wp2_with (first
                | (at_builtin; (refine wpList_append_cells _ rfl (.tmp 82) (.tmp 90) 32 rfl 0 5 (.int .u8 0) 1 1 Tryz.underlying32 info_byteB rfl (by decide) _ (rl) _ rfl (own0.out.alloc _) (wq.heap.size + 1) (some ⟨wq.heap.size, 0, none⟩) 1 1 (mkY c rl) rfl (by exact Lies.row (t := 5) (fr := (0, 0)) (heap_alloc_new wq _) (by simp)) rfl (by simp [mkY, Value.oneCell']) (by unfold maxLen; omega) (by omega) (by simp) ?_); intro A' cap' w1 h1 h2 h3 _ h4; obtain ⟨E1, hI1⟩ := HI.out.pushed mkY_length h1 h2 h3 h4; have HI1 := Lib.hid hI1; have HF1 := Lib.hid (HF.out.keeps hI1.keeps); clear h1 h2 h3 h4 hI1 c0 c1; have d0 := HF1.out.hp; have d1 := HF1.out.hO c _ HRr.out)
                | (at_builtin; (refine wpList_append_cells _ rfl (.tmp 102) (.tmp 104) 45 rfl base 32 (.slice none 0 0) 1 24 Tryz.underlying45 info_bytesB rfl (by decide) _ c _ rfl (HI1.out.one.alloc _) (w1.heap.size + 1) (some ⟨w1.heap.size, 0, none⟩) 1 1 [.slice A' (rl + 1) cap'] rfl (Lies.row (t := 32) (fr := (0, 0)) (heap_alloc_new w1 _) (by simp)) rfl (by simp [Value.oneCell']) (by unfold maxLen; omega) (by omega) (by have := HI1.out.big; simp; omega) ?_); intro A2 cap2 w2 h1 h2 h3 _ h4; have HI2 := Lib.hid (HI1.out.took hb0 rfl (pushed_of HI1.out.one h1 h2 h3 h4)); clear h1 h2 h3 h4 HI1))
              go_roundw
              case rel => exact ⟨1, c + 1, cap', A', _, E1, by omega, by go_num, rfl, rfl, HI2⟩
              case measure => (simp [intOf] <;> omega)
            · obtain rfl : c = n + 1 := by rw [if_neg hm0] at hc; exact hc
              clear hc
              by_cases hm7 : m < 70
              · have hne : ¬ ((rl : Int) + (m : Int) = (rl : Int)) := by omega
                go_wp2_with (at_builtin; (refine wpList_append_cells _ rfl (.tmp 82) (.tmp 90) 32 rfl 0 5 (.int .u8 0) 1 1 Tryz.underlying32 info_byteB rfl (by decide) _ (rl + m) _ rfl (HI.out.own.alloc _) (wq.heap.size + 1) (some ⟨wq.heap.size, 0, none⟩) 1 1 (mkY n (rl + m)) rfl (by rw [mkY_add]; exact Lies.row (t := 5) (fr := (0, 0)) (heap_alloc_new wq _) (by simp)) rfl (by simp [mkY, Value.oneCell']) (by unfold maxLen; omega) (by omega) (by simp) ?_); intro A' cap' w1 h1 h2 h3 _ h4; obtain ⟨E1, hI1⟩ := HI.out.pushed mkY_length h1 h2 h3 h4; have HI1 := Lib.hid hI1; have HF1 := Lib.hid (HF.out.keeps hI1.keeps); clear h1 h2 h3 h4 hI1 c0 c1; have d0 := HF1.out.hp; have d1 := HF1.out.hO n _ HRr.out)
                go_roundw
                case rel => exact ⟨m + 1, n + 1, cap', A', _, E1, by omega, by go_num, rfl, rfl, HI1⟩
                case measure => (simp [intOf] <;> omega)
              · obtain rfl : m = 70 := by omega
                clear hm hm0 hm7
                go_wp2_with (at_builtin; (refine wpList_append_cells _ rfl (.tmp 106) (.tmp 108) 45 rfl base 32 (.slice none 0 0) 1 24 Tryz.underlying45 info_bytesB rfl (by decide) _ n _ rfl (HI.out.more.alloc _) (wq.heap.size + 1) (some ⟨wq.heap.size, 0, none⟩) 1 1 [.slice lA (rl + 70) lcap] rfl (Lies.row (t := 32) (fr := (0, 0)) (heap_alloc_new wq _) (by simp)) rfl (by simp [Value.oneCell']) (by unfold maxLen; omega) (by omega) (by have := HI.out.big; simp; omega) ?_); intro A2 cap2 w2 h1 h2 h3 _ h4; have HG := Lib.hid (HI.out.leave HRr.out hb0 rfl (pushed_of HI.out.more h1 h2 h3 h4)); clear h1 h2 h3 h4 HI)
                go_roundw
                case rel => exact ⟨n + 1, _, _, _, _, _, by omega, by go_num, rfl, rfl, HG⟩
                case measure => (simp [intOf] <;> omega)
        · obtain rfl : n = rows.length := by omega
          clear hlt hb0
          obtain ⟨wq, rfl⟩ : ∃ wq : World, wq = wr := ⟨_, rfl⟩
          obtain ⟨mA, mcap, rfl, _, _⟩ := own_slice HG.out.more
          obtain ⟨oA, ocap, rfl, _, _⟩ := own_slice HG.out.one
          have HLm := Lib.hid (own_lies HG.out.more)
          have HLo := Lib.hid (own_lies HG.out.one)
          go_wp2_with fail
          clear c0
          go_loopw [10] (fun v wr => ∃ n : Nat, n ≤ rows.length ∧ v = .int .i64 n ∧ wq = wr) (fun v _ => rows.length - (intOf v).toNat)
          case atStart => exact ⟨0, by omega, rfl, rfl⟩
          case round =>
            obtain ⟨n, hn2, rfl, rfl⟩ := hrel
            by_cases hlt : n < rows.length
            · obtain ⟨r, hr⟩ : ∃ r, rows[n]? = some r := ⟨_, List.getElem?_eq_getElem hlt⟩
              obtain ⟨h1, ⟨a, c, h2, h3⟩, a', c', h4, h5⟩ := HG.out.did n hlt r hr
              obtain ⟨gm, om, rfl, _, hcm⟩ := HLm.out n _ h4
              obtain ⟨go, oo, rfl, _, hco⟩ := HLo.out n _ h2
              have hrl := HL.out n r hr
              have c0 := HFr.out.hp
              have c1 := HFr.out.hO n r hr
              obtain ⟨ra, rl, rc⟩ := r
              have H1 := Lib.hid h1; have H3 := Lib.hid h3; have H5 := Lib.hid h5
              clear h1 h2 h3 h4 h5 hr
              go_wp2_with fail
              go_loopw [11] (fun v wr => ∃ i : Nat, i ≤ rl + 70 ∧ v = .int .i64 i ∧ wq = wr) (fun v _ => rl + 70 - (intOf v).toNat)
              case atStart => exact ⟨0, by omega, rfl, rfl⟩
              case round =>
                obtain ⟨i, hi, rfl, rfl⟩ := hrel
                by_cases hil : i < rl + 70
                · obtain ⟨b5, rfl, _, d5⟩ := H5.out i _ (mkY_at n _ i hil)
                  rcases Nat.lt_trichotomy i rl with h | h | h
                  · obtain ⟨b1, rfl, _, d1⟩ := H1.out i _ (mkY_at n _ i h)
                    have hne : ¬ ((i : Int) = (rl : Int)) := by omega
                    go_wp2_with fail
                    go_roundw
                    case rel => exact ⟨i + 1, by omega, by go_num, trivial⟩
                    case measure => (simp [intOf] <;> omega)
                  · obtain rfl : i = rl := h
                    obtain ⟨b3, rfl, _, d3⟩ := H3.out i _ (mkY_at n _ i (by omega))
                    go_wp2_with fail
                    go_roundw
                    case rel => exact ⟨i + 1, by omega, by go_num, trivial⟩
                    case measure => (simp [intOf] <;> omega)
                  · have hne : ¬ ((i : Int) = (rl : Int)) := by omega
                    go_wp2_with fail
                    go_roundw
                    case rel => exact ⟨i + 1, by omega, by go_num, trivial⟩
                    case measure => (simp [intOf] <;> omega)
                · obtain rfl : i = rl + 70 := by omega
                  go_wp2_with fail
                  go_roundw
                  case rel => exact ⟨n + 1, by omega, by go_num, trivial⟩
                  case measure => (simp [intOf] <;> omega)
            · obtain rfl : n = rows.length := by omega
              have HK := Lib.hid HG.out.keeps
              go_wp2_with fail
              go_ret
              exact ⟨rfl, HK.out⟩
end Go.Proofs.YtcmbdnjcfneinaaGreatDoor
/-
  The bag: one list of bytes more. Conditions: fewer than 400 are there.
-/
namespace Go.Proofs.YtcmbdnjcfneinaaGreatDoor
open Go.RowKit
theorem own_putB {w : World} {base : Nat} {e : TypeId} {v : Value} {n : Nat} {xs : List Value} {p j : Nat} (h : w.ownsRow base e 1 v n xs) (hp : p < base) (u : Value) : (w.setCell ⟨p, j, none⟩ u).ownsRow base e 1 v n xs := ownsRow_setCell_below h (show (⟨p, j, none⟩ : Addr).block < base from hp) u
/-- What an append leaves in a field behind a pointer. -/
theorem bag_next {p base n cap' : Nat} {e t : TypeId} {A' : Option Addr} {v u : Value} {w w1 : World} {o : Obj} {cs : Array Value} {xs : List Value} {j : Nat} (hW : Whole w p t cs) (hO : w.ownsRow base e 1 v n xs) (hp : p < base) (hj : j < cs.size)
    (h1 : w1.ownsRow base e 1 (.slice A' (n + 1) cap') (n + 1) (xs ++ [u])) (h2 : (w.alloc o).grownBy w1 v.ownBlock) :
    Whole (w1.setCell ⟨p, j, none⟩ (.slice A' (n + 1) cap')) p t (cs.setIfInBounds j (.slice A' (n + 1) cap')) ∧ (w1.setCell ⟨p, j, none⟩ (.slice A' (n + 1) cap')).ownsRow base e 1 (.slice A' (n + 1) cap') (n + 1) (xs ++ [u]) ∧
    Keeps (fun b => b = p ∨ v.ownBlock = some b) w (w1.setCell ⟨p, j, none⟩ (.slice A' (n + 1) cap')) ∧ w1.frozen? ⟨p, j, none⟩ = false ∧ ∃ x, w1.cell? ⟨p, j, none⟩ = some x := by
  have hlt : ∀ b, v.ownBlock = some b → base ≤ b := fun b hb => (hO.lt b hb).1
  have hK1 : Keeps (fun b => v.ownBlock = some b) w w1 := ((Keeps.refl _ w).alloc _).grown h2 (fun b hb _ => hb)
  have hW1 : Whole w1 p t cs := hW.keeps hK1 (fun h => by have := hlt p h; omega)
  exact ⟨hW1.put j _, own_putB h1 hp _, (hK1.mono (T := fun b => b = p ∨ v.ownBlock = some b) (fun b _ h => Or.inr h)).setCell (p := ⟨p, j, none⟩) (fun _ => Or.inl rfl) _, hW1.free j, _, (hW1.cellAt j).trans (Array.getElem?_eq_getElem hj)⟩
set_option maxRecDepth 100000 in
set_option maxHeartbeats 1000000 in
theorem addBytes_any (p base n ln lc cap : Nat) (A LA : Option Addr) (cs : Array Value) (xs : List Value) (w : World) (hW : Whole w p 67 cs) (hcs : cs[0]? = some (.slice A n cap)) (hO : w.ownsRow base 32 1 (.slice A n cap) n xs) (hp : p < base) (hb : base ≤ w.heap.size) (hn : n < 400) :
    Calls Tryz.prog 15 #[.pointer (some ⟨p, 0, none⟩), .slice LA ln lc] w fun e w' => e = .returned (.tuple #[]) ∧ ∃ A' cap', Whole w' p 67 (cs.setIfInBounds 0 (.slice A' (n + 1) cap')) ∧
      w'.ownsRow base 32 1 (.slice A' (n + 1) cap') (n + 1) (xs ++ [.slice LA ln lc]) ∧ Keeps (fun b => b = p ∨ (Value.slice A n cap).ownBlock = some b) w w' := by
  have c0 := (hW.cellAt 0).trans hcs
  have hj : 0 < cs.size := (Array.getElem?_eq_some_iff.1 hcs).1
  have HW := Lib.hid hW; have HO := Lib.hid hO
  have hin := hW.inside
  clear hW hcs hO
  go_enter Tryz.func15, Tryz.ntmps15
  go_wp2_with (at_builtin; (refine wpList_append_cells _ rfl (.tmp 14) (.tmp 16) 45 rfl base 32 (.slice none 0 0) 1 24 Tryz.underlying45 info_bytesB rfl (by decide) _ n _ rfl (HO.out.alloc _) (w.heap.size + 1) (some ⟨w.heap.size, 0, none⟩) 1 1 [.slice LA ln lc] rfl (Lies.row (t := 32) (fr := (0, 0)) (heap_alloc_new w _) (by simp)) rfl (by simp [Value.oneCell']) (by unfold maxLen; omega) (by omega) (by simp; omega) ?_); intro A' cap' w1 h1 h2 _ _ _; obtain ⟨hA, hB, hC, hD, x, hE⟩ := bag_next HW.out HO.out hp hj h1 h2; have HA := Lib.hid hA; have HB := Lib.hid hB; have HC := Lib.hid hC; clear hA hB hC h1 h2 c0)
  go_end0
  exact ⟨rfl, A', cap', HA.out, HB.out, HC.out⟩
/-- The cells of a bag in which nothing lies. -/
def bagNone : Array Value := #[.slice none 0 0, .slice none 0 0, .slice none 0 0, .slice none 0 0, .slice none 0 0, .slice none 0 0, .slice none 0 0, .slice none 0 0, .slice none 0 0, .slice none 0 0, .slice none 0 0, .slice none 0 0, .slice none 0 0, .slice none 0 0, .slice none 0 0, .slice none 0 0, .slice none 0 0, .slice none 0 0, .slice none 0 0, .slice none 0 0, .slice none 0 0]
theorem bagNone_at (j : Nat) (h : j < 21) : bagNone[j]? = some (.slice none 0 0) := by
  have : bagNone = Array.replicate 21 (.slice none 0 0) := rfl
  rw [this, Array.getElem?_replicate, if_pos h]
/-- A bag of lists of integers alone: the walk of Apart. -/
theorem apartBytes_all (p gO capO : Nat) (rows : List Sl) (v : Value) (w : World) (hW : Whole w p 67 (bagNone.setIfInBounds 0 v)) (hF : BagFix w p 0 gO capO rows) (hR : SlRows 5 1 rows w) (hn : rows.length ≤ 400) (hl : ∀ (k : Nat) (r : Sl), rows[k]? = some r → r.len ≤ 1000000000000) :
    Calls Tryz.prog 16 #[.pointer (some ⟨p, 0, none⟩)] w fun e w' => e = .returned (.bool true) ∧ Keeps (blks rows) w w' := by
  have hc : ∀ j, j < 21 → j ≠ 0 → w.cell? ⟨p, j, none⟩ = some (.slice none 0 0) := fun j hj h1 => by
    rw [hW.cellAt, Array.getElem?_setIfInBounds, if_neg (fun e => h1 e.symm), bagNone_at j hj]
  have hk : ∀ j, j < 21 → j ≠ 0 → BagNil (fun w1 => Keeps (blks rows) w w1) p j := fun j hj h1 w1 h => (h.cell hF.lt.1 hF.far.1).trans (hc j hj h1)
  refine apart_any (fun j w1 => match j with | 0 => w1 = w | _ => Keeps (blks rows) w w1) p w rfl
    (fun w1 h => by subst h; exact apartBytes_any p gO capO rows w1 hF hR hn hl) (okInts_none (hk 1 (by decide) (by decide)))
    (okLongs_none (hk 2 (by decide) (by decide))) (okWords_none (hk 3 (by decide) (by decide))) (okFloats_none (hk 4 (by decide) (by decide))) (okSmalls_none (hk 5 (by decide) (by decide))) (okTexts_none (hk 6 (by decide) (by decide)))
    (okPlayers_none (hk 7 (by decide) (by decide))) (okCards_none (hk 8 (by decide) (by decide))) (okTokens_none (hk 9 (by decide) (by decide))) (okNodes_none (hk 10 (by decide) (by decide))) (okInstrs_none (hk 11 (by decide) (by decide)))
    (okRows_none (hk 12 (by decide) (by decide))) (okShapes_none (hk 13 (by decide) (by decide))) (okEvents_none (hk 14 (by decide) (by decide))) (okValues_none (hk 15 (by decide) (by decide))) (okAbilities_none (hk 16 (by decide) (by decide)))
    (okDesigns_none (hk 17 (by decide) (by decide))) (okEffects_none (hk 18 (by decide) (by decide))) (okKinds_none (hk 19 (by decide) (by decide))) (okStates_none (hk 20 (by decide) (by decide)))
/-- A bag of lists of integers alone, as it is filled. -/
structure BagYn (w : World) (p : Nat) (rows : List Sl) (A : Option Addr) (c : Nat) : Prop where
  hW : Whole w p 67 (bagNone.setIfInBounds 0 (.slice A rows.length c))
  hO : w.ownsRow (p + 1) 32 1 (.slice A rows.length c) rows.length (vals rows)
  hR : SlRows 5 1 rows w
  far : ¬ blks rows p
  h0 : rows = [] → A = none ∧ c = 0
theorem BagYn.start (w : World) : BagYn (w.alloc (.cells bagNone 67)) w.heap.size [] none 0 :=
  ⟨Whole.made w _ _, World.ownsRow_nil _ _ _ _, ⟨fun k r hr => by simp at hr, fun j k r q b hr => by simp at hr⟩, fun ⟨k, r, hr, _⟩ => by simp at hr, fun _ => ⟨rfl, rfl⟩⟩
theorem BagYn.past {w w' : World} {p c : Nat} {rows : List Sl} {A : Option Addr} (h : BagYn w p rows A c) (hb : Below w.heap.size w w') : BagYn w' p rows A c :=
  ⟨h.hW.past hb, own_keepsS (S := fun _ => False) h.hO (keepsAll hb) (fun _ _ hf => hf), h.hR.keeps (S := fun _ => False) (keepsAll hb) (fun _ _ _ _ _ hf => hf), h.far, h.h0⟩
/-- Memory that holds something of another kind is another block. -/
theorem other_kind {w : World} {B B' s s' n n' : Nat} {e e' : TypeId} {v v' : Value} {xs xs' : List Value} (h : w.ownsRow B e s v n xs) (h' : w.ownsRow B' e' s' v' n' xs') (hne : e ≠ e') {b : Nat} (hb : v.ownBlock = some b) (hb' : v'.ownBlock = some b) : False := by
  rcases h.2 with ⟨rfl, _⟩ | ⟨g, _, cur, rfl, _, hg, _⟩
  · cases hb
  · rcases h'.2 with ⟨rfl, _⟩ | ⟨g', _, cur', rfl, _, hg', _⟩
    · cases hb'
    · simp only [Value.ownBlock, Option.some.injEq] at hb hb'
      subst hb; subst hb'
      rw [hg] at hg'
      injection hg' with hg'
      injection hg' with _ e1 _
      exact hne e1
theorem BagYn.add {w w' : World} {p c c' : Nat} {rows : List Sl} {A A' : Option Addr} {r : Sl} {xs : List Value} (h : BagYn w p rows A c) (hr : w.ownsRow 0 5 1 r.val r.len xs) (hd : ∀ b, r.blk = some b → ¬ blks rows b ∧ b ≠ p)
    (hW : Whole w' p 67 ((bagNone.setIfInBounds 0 (.slice A rows.length c)).setIfInBounds 0 (.slice A' (rows.length + 1) c'))) (hO : w'.ownsRow (p + 1) 32 1 (.slice A' (rows.length + 1) c') (rows.length + 1) (vals rows ++ [r.val]))
    (hK : Keeps (fun b => b = p ∨ (Value.slice A rows.length c).ownBlock = some b) w w') : BagYn w' p (rows ++ [r]) A' c' := by
  have hl : (rows ++ [r]).length = rows.length + 1 := by simp
  have hv : vals (rows ++ [r]) = vals rows ++ [r.val] := by simp [vals]
  have hne : (5 : TypeId) ≠ 32 := by decide
  have hR1 : SlRows 5 1 rows w' := h.hR.keeps hK fun k q b hq hb hs => by
    rcases hs with hs | hs
    · exact h.far ⟨k, q, hq, hs ▸ hb⟩
    · obtain ⟨ys, hy⟩ := h.hR.own k q hq
      exact other_kind hy h.hO hne hb hs
  have hr1 : w'.ownsRow 0 5 1 r.val r.len xs := own_keepsS hr hK fun b hb hs => by
    rcases hs with hs | hs
    · exact (hd b hb).2 hs
    · exact other_kind hr h.hO hne hb hs
  have hget : ∀ (k : Nat) (q : Sl), (rows ++ [r])[k]? = some q → rows[k]? = some q ∨ (k = rows.length ∧ q = r) := fun k q hq => by
    rcases Nat.lt_or_ge k rows.length with hlt | hge
    · rw [List.getElem?_append_left hlt] at hq; exact .inl hq
    · rw [List.getElem?_append_right hge] at hq
      have h0 : k - rows.length = 0 := by
        rcases Nat.eq_zero_or_pos (k - rows.length) with h0 | h0
        · exact h0
        · rw [List.getElem?_eq_none (by simp; omega)] at hq; cases hq
      rw [h0] at hq
      injection hq with hq
      exact .inr ⟨by omega, hq.symm⟩
  refine ⟨?_, ?_, ⟨fun k q hq => ?_, fun j k q1 q2 b h1 h2 hb1 hb2 => ?_⟩, ?_, fun h => by simp at h⟩
  · rw [hl]; rw [Array.setIfInBounds_setIfInBounds] at hW; exact hW
  · rw [hl, hv]; exact hO
  · rcases hget k q hq with h1 | ⟨_, rfl⟩
    · exact hR1.own k q h1
    · exact ⟨xs, hr1⟩
  · rcases hget j q1 h1 with h3 | ⟨h3, rfl⟩
    · rcases hget k q2 h2 with h4 | ⟨h4, rfl⟩
      · exact hR1.apart j k q1 q2 b h3 h4 hb1 hb2
      · exact ((hd b hb2).1 ⟨j, q1, h3, hb1⟩).elim
    · rcases hget k q2 h2 with h4 | ⟨h4, _⟩
      · exact ((hd b hb1).1 ⟨k, q2, h4, hb2⟩).elim
      · omega
  · rintro ⟨k, q, hq, hb⟩
    rcases hget k q hq with h1 | ⟨_, rfl⟩
    · exact h.far ⟨k, q, h1, hb⟩
    · exact (hd p hb).2 rfl
/-- The filled bag, ahead of Apart. -/
theorem BagYn.fix {w : World} {p c : Nat} {rows : List Sl} {A : Option Addr} (h : BagYn w p rows A c) (h0 : 0 < rows.length) : ∃ gO, BagFix w p 0 gO c rows := by
  have h1 := h.hO
  obtain ⟨gO, cs', rfl, hg, hWO, _, _, _⟩ := own_whole h1 h0
  refine ⟨gO, (h.hW.cellAt 0).trans (by simp [bagNone]), fun n r hr => ?_, ⟨h.hW.inside, hWO.inside⟩, h.far, ?_⟩
  · have hn : n < rows.length := (List.getElem?_eq_some_iff.1 hr).1
    rw [own_cells h1 rfl (by omega), vals_get hr]; rfl
  · rintro ⟨k, q, hq, hb⟩
    obtain ⟨ys, hy⟩ := h.hR.own k q hq
    exact other_kind hy h1 (by decide) hb rfl
/-- Apart of a bag of lists of integers, empty or not. -/
theorem BagYn.apart {w : World} {p c : Nat} {rows : List Sl} {A : Option Addr} (h : BagYn w p rows A c) (hn : rows.length ≤ 400) (hl : ∀ (k : Nat) (r : Sl), rows[k]? = some r → r.len ≤ 1000000000000) :
    Calls Tryz.prog 16 #[.pointer (some ⟨p, 0, none⟩)] w fun e w' => e = .returned (.bool true) ∧ Keeps (blks rows) w w' := by
  by_cases h0 : 0 < rows.length
  · obtain ⟨gO, hF⟩ := h.fix h0
    exact apartBytes_all p gO c rows _ w h.hW hF h.hR hn hl
  · obtain rfl : rows = [] := List.length_eq_zero_iff.1 (by omega)
    obtain ⟨rfl, rfl⟩ := h.h0 rfl
    have hc : ∀ j, j < 21 → BagNil (fun w1 => w1 = w) p j := fun j hj w1 h1 => by
      subst h1
      rw [h.hW.cellAt, Array.getElem?_setIfInBounds]
      by_cases e1 : 0 = j
      · subst e1; rfl
      · rw [if_neg e1, bagNone_at j hj]
    refine (apart_any (fun _ w1 => w1 = w) p w rfl (okBytes_none (hc 0 (by decide))) (okInts_none (hc 1 (by decide))) (okLongs_none (hc 2 (by decide))) (okWords_none (hc 3 (by decide))) (okFloats_none (hc 4 (by decide))) (okSmalls_none (hc 5 (by decide))) (okTexts_none (hc 6 (by decide))) (okPlayers_none (hc 7 (by decide))) (okCards_none (hc 8 (by decide))) (okTokens_none (hc 9 (by decide))) (okNodes_none (hc 10 (by decide))) (okInstrs_none (hc 11 (by decide))) (okRows_none (hc 12 (by decide))) (okShapes_none (hc 13 (by decide))) (okEvents_none (hc 14 (by decide))) (okValues_none (hc 15 (by decide))) (okAbilities_none (hc 16 (by decide))) (okDesigns_none (hc 17 (by decide))) (okEffects_none (hc 18 (by decide))) (okKinds_none (hc 19 (by decide))) (okStates_none (hc 20 (by decide)))).mono ?_
    rintro e w' ⟨he, rfl⟩
    exact ⟨he, Keeps.refl _ _⟩
/-- The slices that a bag was given, seen from behind. -/
theorem bag_rows {w w' : World} {p c : Nat} {A : Option Addr} {rows : List Sl} {cs : Array Value} (hR : SlRows 5 1 rows w) (hp : w.heap.size = p) (hK : Keeps (fun b => b = p ∨ p + 1 ≤ b) w w') (hW : Whole w' p 67 cs) (hcs : cs[0]? = some (.slice A rows.length c))
    (hO : w'.ownsRow (p + 1) 32 1 (.slice A rows.length c) rows.length (vals rows)) (h0 : 0 < rows.length) : ∃ gO, BagFix w' p 0 gO c rows ∧ SlRows 5 1 rows w' := by
  obtain ⟨gO, cs', rfl, hg, hWO, _, _, _⟩ := own_whole hO h0
  have hlt : ∀ b, blks rows b → b < p := fun b hb => hp ▸ blks_lt hR hb
  refine ⟨gO, ⟨(hW.cellAt 0).trans hcs, ?_, ⟨hW.inside, hWO.inside⟩, fun h => absurd (hlt _ h) (by omega), fun h => absurd (hlt _ h) (by omega)⟩, hR.keeps hK fun k r b hr hb h => ?_⟩
  · intro n r hr
    have hn : n < rows.length := (List.getElem?_eq_some_iff.1 hr).1
    rw [own_cells hO rfl (by omega), vals_get hr]; rfl
  · have := hlt b ⟨k, r, hr, hb⟩
    omega
end Go.Proofs.YtcmbdnjcfneinaaGreatDoor
