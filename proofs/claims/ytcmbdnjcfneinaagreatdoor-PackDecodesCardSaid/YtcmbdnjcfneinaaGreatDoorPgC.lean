/-
  A bag of seven kinds: Apart is true: the walk. Conditions: no two of its lists lie in one block; the table of powers of ten.
-/
import Derived.Test.YtcmbdnjcfneinaaGreatDoorPgA
import Derived.Test.YtcmbdnjcfneinaaGreatDoorBgN
import Derived.Test.YtcmbdnjcfneinaaGreatDoorBagS
import Derived.Test.YtcmbdnjcfneinaaGreatDoorBagTx
import Derived.Test.YtcmbdnjcfneinaaGreatDoorBgO
namespace Go.Proofs.YtcmbdnjcfneinaaGreatDoor
open Go.RowKit
def ApOk (f j : Nat) : Prop := ∀ (p gO capO : Nat) (rows : List Sl) (w : World), BagFix w p j gO capO rows → SlRows (bgT j) (bgS j) rows w → rows.length ≤ 400 → (∀ (k : Nat) (r : Sl), rows[k]? = some r → r.len ≤ 1000000000) → (∀ w1, Keeps (blks rows) w w1 → Pow w1) →
  Calls Tryz.prog f #[.pointer (some ⟨p, 0, none⟩)] w fun e w' => e = .returned (.bool true) ∧ Keeps (blks rows) w w'
def ApNil (f j : Nat) : Prop := ∀ (p : Nat) (w : World), w.cell? ⟨p, j, none⟩ = some (.slice none 0 0) → Calls Tryz.prog f #[.pointer (some ⟨p, 0, none⟩)] w fun e w' => e = .returned (.bool true) ∧ w = w'
theorem apOkBytes : ApOk 54 0 := fun p gO capO rows w hF hR hn hl _ => apartBytes_any p gO capO rows w hF hR hn (fun k r hr => by have := hl k r hr; omega)
theorem apNilBytes : ApNil 54 0 := fun p w h => apartBytes_none p w h
theorem apOkInts : ApOk 55 1 := fun p gO capO rows w hF hR hn hl _ => apartInts_any p gO capO rows w hF hR hn (fun k r hr => by have := hl k r hr; omega)
theorem apNilInts : ApNil 55 1 := fun p w h => apartInts_none p w h
theorem apOkLongs : ApOk 56 2 := fun p gO capO rows w hF hR hn hl _ => apartLongs_any p gO capO rows w hF hR hn (fun k r hr => by have := hl k r hr; omega)
theorem apNilLongs : ApNil 56 2 := fun p w h => apartLongs_none p w h
theorem apOkSmalls : ApOk 59 5 := fun p gO capO rows w hF hR hn hl _ => apartSmalls_any p gO capO rows w hF hR hn (fun k r hr => by have := hl k r hr; omega)
theorem apNilSmalls : ApNil 59 5 := fun p w h => apartSmalls_none p w h
theorem apOkTexts : ApOk 60 6 := fun p gO capO rows w hF hR hn hl hp => apartTexts_any p gO capO rows w hF hR hn hl hp
theorem apNilTexts : ApNil 60 6 := fun p w h => apartTexts_none p w h
theorem apOkEffects : ApOk 72 18 := fun p gO capO rows w hF hR hn hl _ => apartEffects_any p gO capO rows w hF hR hn hl
theorem apNilEffects : ApNil 72 18 := fun p w h => apartEffects_none p w h
theorem apOkKinds : ApOk 73 19 := fun p gO capO rows w hF hR hn hl _ => apartKinds_any p gO capO rows w hF hR hn hl
theorem apNilKinds : ApNil 73 19 := fun p w h => apartKinds_none p w h
theorem okStep {I J : World → Prop} {p f : Nat} (h : BagOk I I p f) (m : ∀ w, I w → J w) : BagOk I J p f := fun w1 hi => (h w1 hi).mono fun _ w' hh => ⟨hh.1, m w' hh.2⟩
/-- The blocks of the kinds below n. -/
def BlkN (R : Nat → List Sl) (n : Nat) (b : Nat) : Prop := ∃ j ∈ bgK, j < n ∧ blks (R j) b
section
variable {P R : Nat → List Sl} {A : Nat → Option Addr} {c : Nat → Nat} {w : World} {p : Nat}
theorem BlkN.up {j b : Nat} (h : BlkN R j b) : BlkN R (j + 1) b := by
  obtain ⟨i, hi, hl, hb⟩ := h
  exact ⟨i, hi, by omega, hb⟩
theorem BlkN.low (h : BagW w p P R A c) {n b : Nat} (hb : BlkN R n b) : b < p := by
  obtain ⟨i, hi, _, hb⟩ := hb
  exact (h.k i hi).low b (blks_sub (h.k i hi).pre hb)
theorem BagW.okK {f j : Nat} (h : BagW w p P R A c) (hj : j ∈ bgK) (ha : ApOk f j) (hz : ApNil f j) (hpow : ∀ w1, Keeps (BlkN R (j + 1)) w w1 → Pow w1) : BagOk (fun w1 => Keeps (BlkN R j) w w1) (fun w1 => Keeps (BlkN R (j + 1)) w w1) p f := fun w1 hk => by
  have hK := h.k j hj
  by_cases h1 : R j = []
  · obtain ⟨hA, hc⟩ := hK.h0 h1
    refine (hz p w1 ?_).mono fun e w' hh => ⟨hh.1, by rw [← hh.2]; exact hk.mono (fun _ _ hs => hs.up)⟩
    rw [hk.cell h.hW.inside (fun e => by have := BlkN.low h e; omega), h.hW.cellAt, bagV_at (bgK_lt j hj), hA, hc, h1]
    rfl
  · obtain ⟨gO, hF, hR, hA⟩ := hK.fix h.hW (j := j) (bagV_at (bgK_lt j hj)) h1 hk (fun b hb => BlkN.low h hb) (fun b hb hs => by
      obtain ⟨i, hi, hl, hb'⟩ := hs
      exact kinds_apart hK.hR (h.k i hi).hR (bgT_ne j hj i hi (by omega)) b hb (blks_sub (h.k i hi).pre hb'))
    have both : ∀ w2, Keeps (blks (R j)) w1 w2 → Keeps (BlkN R (j + 1)) w w2 := fun w2 h2 => (hk.mono (fun _ _ hs => hs.up)).trans (h2.mono (fun b _ hs => ⟨j, hj, Nat.lt_succ_self j, hs⟩))
    exact (ha p gO (c j) (R j) w1 hF hR hK.few hK.ln' (fun w2 h2 => hpow w2 (both w2 h2))).mono fun e w' hh => ⟨hh.1, both w' hh.2⟩
theorem BagW.nilN (h : BagW w p P R A c) {n j : Nat} (hj : j < 21) (hn : j ∉ bgK) : BagNil (fun w1 => Keeps (BlkN R n) w w1) p j := fun w1 hk => by
  obtain ⟨h1, h2, h3⟩ := h.no j hn
  rw [hk.cell h.hW.inside (fun e => by have := BlkN.low h e; omega), h.hW.cellAt, bagV_at hj, h1, h2, h3]
  rfl
theorem BagW.apart (h : BagW w p P R A c) (hpow : ∀ w1, Keeps (fun b => ∃ j ∈ bgK, blks (P j) b) w w1 → Pow w1) :
    Calls Tryz.prog 16 #[.pointer (some ⟨p, 0, none⟩)] w fun e w' => e = .returned (.bool true) ∧ Keeps (fun b => ∃ j ∈ bgK, blks (P j) b) w w' := by
  have sub : ∀ n b, BlkN R n b → ∃ j ∈ bgK, blks (P j) b := fun n b hb => by
    obtain ⟨i, hi, _, hb⟩ := hb
    exact ⟨i, hi, blks_sub (h.k i hi).pre hb⟩
  have hq : ∀ n w1, Keeps (BlkN R n) w w1 → Pow w1 := fun n w1 hk => hpow w1 (hk.mono (fun b _ hb => sub n b hb))
  have up : ∀ n w1, Keeps (BlkN R n) w w1 → Keeps (BlkN R (n + 1)) w w1 := fun n w1 hk => hk.mono (fun _ _ hs => hs.up)
  refine (apart_any (fun j w1 => Keeps (BlkN R j) w w1) p w (Keeps.refl _ _)
    (h.okK (j := 0) (by decide) apOkBytes apNilBytes (hq 1))
    (h.okK (j := 1) (by decide) apOkInts apNilInts (hq 2))
    (h.okK (j := 2) (by decide) apOkLongs apNilLongs (hq 3))
    (okStep (okWords_none (h.nilN (n := 3) (by decide) (by decide))) (up 3))
    (okStep (okFloats_none (h.nilN (n := 4) (by decide) (by decide))) (up 4))
    (h.okK (j := 5) (by decide) apOkSmalls apNilSmalls (hq 6))
    (h.okK (j := 6) (by decide) apOkTexts apNilTexts (hq 7))
    (okStep (okPlayers_none (h.nilN (n := 7) (by decide) (by decide))) (up 7))
    (okStep (okCards_none (h.nilN (n := 8) (by decide) (by decide))) (up 8))
    (okStep (okTokens_none (h.nilN (n := 9) (by decide) (by decide))) (up 9))
    (okStep (okNodes_none (h.nilN (n := 10) (by decide) (by decide))) (up 10))
    (okStep (okInstrs_none (h.nilN (n := 11) (by decide) (by decide))) (up 11))
    (okStep (okRows_none (h.nilN (n := 12) (by decide) (by decide))) (up 12))
    (okStep (okShapes_none (h.nilN (n := 13) (by decide) (by decide))) (up 13))
    (okStep (okEvents_none (h.nilN (n := 14) (by decide) (by decide))) (up 14))
    (okStep (okValues_none (h.nilN (n := 15) (by decide) (by decide))) (up 15))
    (okStep (okAbilities_none (h.nilN (n := 16) (by decide) (by decide))) (up 16))
    (okStep (okDesigns_none (h.nilN (n := 17) (by decide) (by decide))) (up 17))
    (h.okK (j := 18) (by decide) apOkEffects apNilEffects (hq 19))
    (h.okK (j := 19) (by decide) apOkKinds apNilKinds (hq 20))
    (okStep (okStates_none (h.nilN (n := 20) (by decide) (by decide))) (up 20))
    ).mono fun e w' hh => ⟨hh.1, hh.2.mono (fun b _ hb => sub 21 b hb)⟩
end
theorem BagT.apart {w : World} {p : Nat} {P T : Nat → List Sl} (h : BagT w p P T) (hpow : ∀ w1, Keeps (fun b => ∃ j ∈ bgK, blks (P j) b) w w1 → Pow w1) :
    Calls Tryz.prog 16 #[.pointer (some ⟨p, 0, none⟩)] w fun e w' => e = .returned (.bool true) ∧ Keeps (fun b => ∃ j ∈ bgK, blks (P j) b) w w' := by
  obtain ⟨R, A, c, hB, _⟩ := h
  exact hB.apart hpow
end Go.Proofs.YtcmbdnjcfneinaaGreatDoor
