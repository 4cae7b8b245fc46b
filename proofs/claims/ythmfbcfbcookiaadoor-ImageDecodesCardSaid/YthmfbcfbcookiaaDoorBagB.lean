/-
  The bag: Apart, out of the lists' own walks. Conditions: each of them answers true.
-/
import Derived.Test.YthmfbcfbcookiaaDoorBagA
namespace Go.Proofs.YthmfbcfbcookiaaDoor
open Go.RowKit
/-- This part of Apart answers true, and leads from the worlds I to the worlds J. -/
def BagOk (I J : World → Prop) (p f : Nat) : Prop := ∀ w1, I w1 → Calls Tryd.prog f #[.pointer (some ⟨p, 0, none⟩)] w1 fun e w' => e = .returned (.bool true) ∧ J w'
/-- The cell j of the bag holds no list. -/
def BagNil (I : World → Prop) (p j : Nat) : Prop := ∀ w1, I w1 → w1.cell? ⟨p, j, none⟩ = some (.slice none 0 0)

theorem okBytes_none {I : World → Prop} {p : Nat} (h : BagNil I p 0) : BagOk I I p 45 := fun w1 hi =>
  (apartBytes_none p w1 (h w1 hi)).mono fun _ _ ⟨he, hw⟩ => ⟨he, hw ▸ hi⟩
theorem okInts_none {I : World → Prop} {p : Nat} (h : BagNil I p 1) : BagOk I I p 46 := fun w1 hi =>
  (apartInts_none p w1 (h w1 hi)).mono fun _ _ ⟨he, hw⟩ => ⟨he, hw ▸ hi⟩
theorem okLongs_none {I : World → Prop} {p : Nat} (h : BagNil I p 2) : BagOk I I p 47 := fun w1 hi =>
  (apartLongs_none p w1 (h w1 hi)).mono fun _ _ ⟨he, hw⟩ => ⟨he, hw ▸ hi⟩
theorem okWords_none {I : World → Prop} {p : Nat} (h : BagNil I p 3) : BagOk I I p 48 := fun w1 hi =>
  (apartWords_none p w1 (h w1 hi)).mono fun _ _ ⟨he, hw⟩ => ⟨he, hw ▸ hi⟩
theorem okFloats_none {I : World → Prop} {p : Nat} (h : BagNil I p 4) : BagOk I I p 49 := fun w1 hi =>
  (apartFloats_none p w1 (h w1 hi)).mono fun _ _ ⟨he, hw⟩ => ⟨he, hw ▸ hi⟩
theorem okSmalls_none {I : World → Prop} {p : Nat} (h : BagNil I p 5) : BagOk I I p 50 := fun w1 hi =>
  (apartSmalls_none p w1 (h w1 hi)).mono fun _ _ ⟨he, hw⟩ => ⟨he, hw ▸ hi⟩
theorem okTexts_none {I : World → Prop} {p : Nat} (h : BagNil I p 6) : BagOk I I p 51 := fun w1 hi =>
  (apartTexts_none p w1 (h w1 hi)).mono fun _ _ ⟨he, hw⟩ => ⟨he, hw ▸ hi⟩
theorem okPlayers_none {I : World → Prop} {p : Nat} (h : BagNil I p 7) : BagOk I I p 52 := fun w1 hi =>
  (apartPlayers_none p w1 (h w1 hi)).mono fun _ _ ⟨he, hw⟩ => ⟨he, hw ▸ hi⟩
theorem okCards_none {I : World → Prop} {p : Nat} (h : BagNil I p 8) : BagOk I I p 53 := fun w1 hi =>
  (apartCards_none p w1 (h w1 hi)).mono fun _ _ ⟨he, hw⟩ => ⟨he, hw ▸ hi⟩
theorem okTokens_none {I : World → Prop} {p : Nat} (h : BagNil I p 9) : BagOk I I p 54 := fun w1 hi =>
  (apartTokens_none p w1 (h w1 hi)).mono fun _ _ ⟨he, hw⟩ => ⟨he, hw ▸ hi⟩
theorem okNodes_none {I : World → Prop} {p : Nat} (h : BagNil I p 10) : BagOk I I p 55 := fun w1 hi =>
  (apartNodes_none p w1 (h w1 hi)).mono fun _ _ ⟨he, hw⟩ => ⟨he, hw ▸ hi⟩
theorem okInstrs_none {I : World → Prop} {p : Nat} (h : BagNil I p 11) : BagOk I I p 56 := fun w1 hi =>
  (apartInstrs_none p w1 (h w1 hi)).mono fun _ _ ⟨he, hw⟩ => ⟨he, hw ▸ hi⟩
theorem okRows_none {I : World → Prop} {p : Nat} (h : BagNil I p 12) : BagOk I I p 57 := fun w1 hi =>
  (apartRows_none p w1 (h w1 hi)).mono fun _ _ ⟨he, hw⟩ => ⟨he, hw ▸ hi⟩
theorem okShapes_none {I : World → Prop} {p : Nat} (h : BagNil I p 13) : BagOk I I p 58 := fun w1 hi =>
  (apartShapes_none p w1 (h w1 hi)).mono fun _ _ ⟨he, hw⟩ => ⟨he, hw ▸ hi⟩
theorem okEvents_none {I : World → Prop} {p : Nat} (h : BagNil I p 14) : BagOk I I p 59 := fun w1 hi =>
  (apartEvents_none p w1 (h w1 hi)).mono fun _ _ ⟨he, hw⟩ => ⟨he, hw ▸ hi⟩
theorem okValues_none {I : World → Prop} {p : Nat} (h : BagNil I p 15) : BagOk I I p 60 := fun w1 hi =>
  (apartValues_none p w1 (h w1 hi)).mono fun _ _ ⟨he, hw⟩ => ⟨he, hw ▸ hi⟩
theorem okAbilities_none {I : World → Prop} {p : Nat} (h : BagNil I p 16) : BagOk I I p 61 := fun w1 hi =>
  (apartAbilities_none p w1 (h w1 hi)).mono fun _ _ ⟨he, hw⟩ => ⟨he, hw ▸ hi⟩
theorem okDesigns_none {I : World → Prop} {p : Nat} (h : BagNil I p 17) : BagOk I I p 62 := fun w1 hi =>
  (apartDesigns_none p w1 (h w1 hi)).mono fun _ _ ⟨he, hw⟩ => ⟨he, hw ▸ hi⟩
theorem okEffects_none {I : World → Prop} {p : Nat} (h : BagNil I p 18) : BagOk I I p 63 := fun w1 hi =>
  (apartEffects_none p w1 (h w1 hi)).mono fun _ _ ⟨he, hw⟩ => ⟨he, hw ▸ hi⟩
theorem okKinds_none {I : World → Prop} {p : Nat} (h : BagNil I p 19) : BagOk I I p 64 := fun w1 hi =>
  (apartKinds_none p w1 (h w1 hi)).mono fun _ _ ⟨he, hw⟩ => ⟨he, hw ▸ hi⟩
theorem okStates_none {I : World → Prop} {p : Nat} (h : BagNil I p 20) : BagOk I I p 65 := fun w1 hi =>
  (apartStates_none p w1 (h w1 hi)).mono fun _ _ ⟨he, hw⟩ => ⟨he, hw ▸ hi⟩
set_option maxRecDepth 100000 in
set_option maxHeartbeats 2000000 in
theorem apart_any (I : Nat → World → Prop) (p : Nat) (w : World) (hI : I 0 w) (h0 : BagOk (I 0) (I 1) p 45) (h1 : BagOk (I 1) (I 2) p 46) (h2 : BagOk (I 2) (I 3) p 47) (h3 : BagOk (I 3) (I 4) p 48) (h4 : BagOk (I 4) (I 5) p 49) (h5 : BagOk (I 5) (I 6) p 50) (h6 : BagOk (I 6) (I 7) p 51) (h7 : BagOk (I 7) (I 8) p 52) (h8 : BagOk (I 8) (I 9) p 53) (h9 : BagOk (I 9) (I 10) p 54) (h10 : BagOk (I 10) (I 11) p 55) (h11 : BagOk (I 11) (I 12) p 56) (h12 : BagOk (I 12) (I 13) p 57) (h13 : BagOk (I 13) (I 14) p 58) (h14 : BagOk (I 14) (I 15) p 59) (h15 : BagOk (I 15) (I 16) p 60) (h16 : BagOk (I 16) (I 17) p 61) (h17 : BagOk (I 17) (I 18) p 62) (h18 : BagOk (I 18) (I 19) p 63) (h19 : BagOk (I 19) (I 20) p 64) (h20 : BagOk (I 20) (I 21) p 65) :
    Calls Tryd.prog 22 #[.pointer (some ⟨p, 0, none⟩)] w fun e w' => e = .returned (.bool true) ∧ I 21 w' := by
  have HK0 := Lib.hid hI; clear hI
  have H0 := Lib.hid h0; clear h0
  have H1 := Lib.hid h1; clear h1
  have H2 := Lib.hid h2; clear h2
  have H3 := Lib.hid h3; clear h3
  have H4 := Lib.hid h4; clear h4
  have H5 := Lib.hid h5; clear h5
  have H6 := Lib.hid h6; clear h6
  have H7 := Lib.hid h7; clear h7
  have H8 := Lib.hid h8; clear h8
  have H9 := Lib.hid h9; clear h9
  have H10 := Lib.hid h10; clear h10
  have H11 := Lib.hid h11; clear h11
  have H12 := Lib.hid h12; clear h12
  have H13 := Lib.hid h13; clear h13
  have H14 := Lib.hid h14; clear h14
  have H15 := Lib.hid h15; clear h15
  have H16 := Lib.hid h16; clear h16
  have H17 := Lib.hid h17; clear h17
  have H18 := Lib.hid h18; clear h18
  have H19 := Lib.hid h19; clear h19
  have H20 := Lib.hid h20; clear h20
  go_enter Tryd.func22, Tryd.ntmps22
  go_wp2_with fail
  refine (H0.out _ HK0.out).mono ?_
  rintro e w1 ⟨rfl, hk⟩
  have HK1 := Lib.hid hk; clear hk HK0
  go_wp2_with fail
  refine (H1.out _ HK1.out).mono ?_
  rintro e w2 ⟨rfl, hk⟩
  have HK2 := Lib.hid hk; clear hk HK1
  go_wp2_with fail
  refine (H2.out _ HK2.out).mono ?_
  rintro e w3 ⟨rfl, hk⟩
  have HK3 := Lib.hid hk; clear hk HK2
  go_wp2_with fail
  refine (H3.out _ HK3.out).mono ?_
  rintro e w4 ⟨rfl, hk⟩
  have HK4 := Lib.hid hk; clear hk HK3
  go_wp2_with fail
  refine (H4.out _ HK4.out).mono ?_
  rintro e w5 ⟨rfl, hk⟩
  have HK5 := Lib.hid hk; clear hk HK4
  go_wp2_with fail
  refine (H5.out _ HK5.out).mono ?_
  rintro e w6 ⟨rfl, hk⟩
  have HK6 := Lib.hid hk; clear hk HK5
  go_wp2_with fail
  refine (H6.out _ HK6.out).mono ?_
  rintro e w7 ⟨rfl, hk⟩
  have HK7 := Lib.hid hk; clear hk HK6
  go_wp2_with fail
  refine (H7.out _ HK7.out).mono ?_
  rintro e w8 ⟨rfl, hk⟩
  have HK8 := Lib.hid hk; clear hk HK7
  go_wp2_with fail
  refine (H8.out _ HK8.out).mono ?_
  rintro e w9 ⟨rfl, hk⟩
  have HK9 := Lib.hid hk; clear hk HK8
  go_wp2_with fail
  refine (H9.out _ HK9.out).mono ?_
  rintro e w10 ⟨rfl, hk⟩
  have HK10 := Lib.hid hk; clear hk HK9
  go_wp2_with fail
  refine (H10.out _ HK10.out).mono ?_
  rintro e w11 ⟨rfl, hk⟩
  have HK11 := Lib.hid hk; clear hk HK10
  go_wp2_with fail
  refine (H11.out _ HK11.out).mono ?_
  rintro e w12 ⟨rfl, hk⟩
  have HK12 := Lib.hid hk; clear hk HK11
  go_wp2_with fail
  refine (H12.out _ HK12.out).mono ?_
  rintro e w13 ⟨rfl, hk⟩
  have HK13 := Lib.hid hk; clear hk HK12
  go_wp2_with fail
  refine (H13.out _ HK13.out).mono ?_
  rintro e w14 ⟨rfl, hk⟩
  have HK14 := Lib.hid hk; clear hk HK13
  go_wp2_with fail
  refine (H14.out _ HK14.out).mono ?_
  rintro e w15 ⟨rfl, hk⟩
  have HK15 := Lib.hid hk; clear hk HK14
  go_wp2_with fail
  refine (H15.out _ HK15.out).mono ?_
  rintro e w16 ⟨rfl, hk⟩
  have HK16 := Lib.hid hk; clear hk HK15
  go_wp2_with fail
  refine (H16.out _ HK16.out).mono ?_
  rintro e w17 ⟨rfl, hk⟩
  have HK17 := Lib.hid hk; clear hk HK16
  go_wp2_with fail
  refine (H17.out _ HK17.out).mono ?_
  rintro e w18 ⟨rfl, hk⟩
  have HK18 := Lib.hid hk; clear hk HK17
  go_wp2_with fail
  refine (H18.out _ HK18.out).mono ?_
  rintro e w19 ⟨rfl, hk⟩
  have HK19 := Lib.hid hk; clear hk HK18
  go_wp2_with fail
  refine (H19.out _ HK19.out).mono ?_
  rintro e w20 ⟨rfl, hk⟩
  have HK20 := Lib.hid hk; clear hk HK19
  go_wp2_with fail
  refine (H20.out _ HK20.out).mono ?_
  rintro e w21 ⟨rfl, hk⟩
  have HK21 := Lib.hid hk; clear hk HK20
  go_wp2_with fail
  go_ret
  exact ⟨rfl, HK21.out⟩
end Go.Proofs.YthmfbcfbcookiaaDoor
