/-
  What the laws of chapter 19 call, told in one form: what lies where is read alone, all that was stays. Conditions: as of the walks.
-/
import Derived.Test.YtcmbdnjcfneinaaGreatDoorSeA
import Derived.Test.YtcmbdnjcfneinaaGreatDoorRdP
import Derived.Test.YtcmbdnjcfneinaaGreatDoorSzW
import Derived.Test.YtcmbdnjcfneinaaGreatDoorWrG
namespace Go.Proofs.YtcmbdnjcfneinaaGreatDoor
open Go.RowKit
/-- A pack that Encode and Check bear. -/
structure PkOk (p : Pk) : Prop where
  few : PkFew p
  size : sizeP p ≤ 1000000000000
theorem zeroPk_ok : PkOk zeroPk := ⟨⟨by decide, by decide, fun _ h => (by cases h), by decide, fun _ h => (by cases h), fun _ h => (by cases h)⟩, by decide⟩
theorem zeroPk_in (w : World) (B : Nat) : PkIn w B zeroPk none none none := ⟨fun _ _ h => (by cases h), fun _ _ h => (by cases h), fun _ _ h => (by cases h)⟩
theorem zeroC_pkC : zeroC = pkC zeroPk none none none 0 0 0 := rfl
theorem good_ok {p : Pk} (h : GoodPk p) (hs : sizeP p ≤ 1000000000000) : PkOk p := ⟨few_pk h, hs⟩
/-- What Encode answers. -/
def EncT (p : Pk) (w : World) (e : Ending) (w' : World) : Prop := ∃ A cap, e = .returned (.tuple #[.slice A (encP p).1.length cap, .int .i64 (encP p).2]) ∧ (encP p).1.length ≤ cap ∧ Lies w' w'.heap.size A (bytesV (encP p).1) ∧ Keeps (fun _ => False) w w'
theorem encodeT_any (p : Pk) (Ai At Ak : Option Addr) (ci ct ck : Nat) (w : World) (hx : PkIn w w.heap.size p Ai At Ak) (hm : PkOk p) :
    Calls Tryz.prog 9 #[.agg (pkC p Ai At Ak ci ct ck)] w (EncT p w) :=
  (encode_any p Ai At Ak ci ct ck w hx hm.few hm.size).mono fun e w' h => by
    obtain ⟨v, he, ho, hk⟩ := h
    obtain ⟨A, cap, rfl, hc, _⟩ := own_slice ho
    exact ⟨A, cap, he, hc, own_lies ho, hk⟩
/-- What Decode answers. -/
def DecT (b : List Oct) (w : World) (e : Ending) (w' : World) : Prop := ∃ (q : Pk) (Ai At Ak : Option Addr) (ci ct ck : Nat), e = .returned (.tuple #[.agg (pkC q Ai At Ak ci ct ck), .int .i64 (decP b).2.1, .int .i64 (decP b).2.2]) ∧ q = (decP b).1 ∧ PkIn w' w'.heap.size q Ai At Ak ∧ PkOk q ∧ Keeps (fun _ => False) w w'
theorem decodeT_any (b : List Oct) (A : Option Addr) (cap : Nat) (w : World) (hl : Lies w w.heap.size A (bytesV b)) (hcap : b.length ≤ cap) (hb : b.length ≤ 1000000000) (hg : ErrT w) :
    Calls Tryz.prog 19 #[.slice A b.length cap] w (DecT b w) :=
  (decode_any b A cap w hl hcap hb hg).mono fun e w' h => by
    obtain ⟨cs, he, hk, hbad, hgood⟩ := h
    by_cases h0 : (decP b).2.1 = 0
    · obtain ⟨p, B, rfl, hp, hs⟩ := hgood h0
      have hx := p.lies hs
      rw [p.pkC] at he
      have hd := enc_dec h0
      rw [hp] at he hx
      refine ⟨_, _, _, _, _, _, _, he, rfl, hx, ?_, hk⟩
      refine good_ok hd.2.2.2 ?_
      rw [← packE_length, hd.2.1]
      omega
    · rw [hbad h0, zeroC_pkC] at he
      exact ⟨zeroPk, none, none, none, 0, 0, 0, he, (dec_bad h0).1.symm, zeroPk_in _ _, zeroPk_ok, hk⟩
/-- What EqPack answers. -/
def EqT (x y : Pk) (w : World) (e : Ending) (w' : World) : Prop := e = .returned (.bool (@decide (x = y) (Classical.propDecidable _))) ∧ Keeps (fun _ => False) w w'
theorem eqT_any (x y : Pk) (Ai At Ak Bi Bt Bk : Option Addr) (ci ct ck di dt dk : Nat) (w : World) (h1 : PkIn w w.heap.size x Ai At Ak) (h2 : PkIn w w.heap.size y Bi Bt Bk) (hm : PkFew x) (hmy : PkFew y) :
    Calls Tryz.prog 11 #[.agg (pkC x Ai At Ak ci ct ck), .agg (pkC y Bi Bt Bk di dt dk)] w (EqT x y w) :=
  (eqPack_any x y Ai At Ak Bi Bt Bk ci ct ck di dt dk w h1 h2 hm hmy).mono fun e w' h => by
    obtain ⟨v, he, hv, hk⟩ := h
    refine ⟨?_, hk⟩
    rw [he]
    congr 2
    by_cases hxy : x = y
    · rw [hv.2 hxy, @decide_eq_true _ (Classical.propDecidable _) hxy]
    · rw [@decide_eq_false _ (Classical.propDecidable _) hxy]
      cases v with
      | false => rfl
      | true => exact absurd (hv.1 rfl) hxy
theorem eqT_same (x : Pk) (Ai At Ak Bi Bt Bk : Option Addr) (ci ct ck di dt dk : Nat) (w : World) (h1 : PkIn w w.heap.size x Ai At Ak) (h2 : PkIn w w.heap.size x Bi Bt Bk) (hm : PkFew x) :
    Calls Tryz.prog 11 #[.agg (pkC x Ai At Ak ci ct ck), .agg (pkC x Bi Bt Bk di dt dk)] w fun e w' => e = .returned (.bool true) ∧ Keeps (fun _ => False) w w' :=
  (eqT_any x x Ai At Ak Bi Bt Bk ci ct ck di dt dk w h1 h2 hm hm).mono fun e w' h => ⟨by rw [h.1, @decide_eq_true _ (Classical.propDecidable _) rfl], h.2⟩
/-- What Sealed answers. -/
def SealT (b : List Oct) (w : World) (e : Ending) (w' : World) : Prop := ∃ A cap, e = .returned (.slice A (sealedL b).length cap) ∧ (sealedL b).length ≤ cap ∧ Lies w' w'.heap.size A (bytesV (sealedL b)) ∧ Keeps (fun _ => False) w w'
theorem sealedT_any (b : List Oct) (A : Option Addr) (cap : Nat) (w : World) (hl : Lies w w.heap.size A (bytesV b)) (hm : b.length ≤ 1099511627776) :
    Calls Tryz.prog 17 #[.slice A b.length cap] w (SealT b w) :=
  (sealed_any b A _ cap w hl (Nat.le_refl _) hm).mono fun e w' h => by
    obtain ⟨A', cap', rfl, ho, hb⟩ := h
    obtain ⟨_, _, e2, hc, _⟩ := own_slice ho
    injection e2 with _ _ e2
    subst e2
    exact ⟨A', cap', rfl, hc, own_lies ho, keepsAll hb⟩
/-- What beyond answers. -/
def BeyT (p : Pk) (w : World) (e : Ending) (w' : World) : Prop := ∃ v : Bool, e = .returned (.bool v) ∧ (v = false → PkOk p) ∧ Keeps (fun _ => False) w w'
set_option maxRecDepth 4000 in
set_option maxHeartbeats 2000000 in
theorem beyond_any (p : Pk) (Ai At Ak : Option Addr) (ci ct ck : Nat) (w : World) (hx : PkIn w w.heap.size p Ai At Ak) (hm : PkBig p) :
    Calls Tryz.prog 6 #[.agg (pkC p Ai At Ak ci ct ck)] w (BeyT p w) := by
  have ka := (Keeps.refl (fun _ => False) w).alloc (.cells (pkC p Ai At Ak ci ct ck) 26)
  have HK := Lib.hid ka
  have HC := Lib.hid (sizePack_any p Ai At Ak ci ct ck _ (hx.past ka) hm)
  have HF : Hid (packW p ≤ 16777216 → PkOk p) := Lib.hid fun h => ⟨(few_of hm h).1, (few_of hm h).2⟩
  clear hx hm ka
  unfold pkC at *
  go_enter Tryz.func6, Tryz.ntmps6
  go_wp2_with fail
  generalize w.alloc _ = w0 at *
  refine HC.out.mono ?_
  rintro e w1 ⟨n, rfl, hn, k1⟩
  have HN := Lib.hid hn
  have HK1 := Lib.hid (HK.out.trans k1)
  clear HK HC hn k1
  go_wp2_with fail
  go_ret
  refine ⟨_, rfl, fun h => HF.out (HN.out ?_), HK1.out⟩
  simp only [decide_eq_false_iff_not] at h
  omega
end Go.Proofs.YtcmbdnjcfneinaaGreatDoor
/-
  works of chapter 19: the pack that is made, written and read as itself. Conditions: errors.errorType is as Go lays it.
-/
namespace Go.Proofs.YtcmbdnjcfneinaaGreatDoor
open Go.RowKit
def wkP : Pk := ⟨9, [-1, 5], [[97#8]], [⟨0, 2, 0, 0, [], [⟨0, [], 0, [34#8]⟩]⟩]⟩
theorem wk_chk : chk wkP = 0 := by decide +kernel
theorem wk_len : (packE wkP).length = 84 := by rw [packE_length]; decide +kernel
theorem wk_ints : Ints64 wkP := by
  intro a ha
  simp only [wkP, List.mem_cons, List.not_mem_nil, or_false] at ha
  omega
theorem wk_ok : PkOk wkP := by
  refine ⟨few_pk (good_of_chk wk_chk wk_ints).1, ?_⟩
  have h := wk_len
  rw [packE_length] at h
  omega
def wkW (w : World) : World := ((((w.alloc (.cells #[.int .i64 (-1), .int .i64 5] 2)).alloc (.cells #[.string { data := #[97] }] 9)).alloc (.cells #[.int .u8 34] 5)).alloc (.cells #[.int .i64 0, .slice none 0 0, .slice (some ⟨w.heap.size + 1 + 1, 0, none⟩) 1 1, .int .i64 0] 43)).alloc (.cells #[.int .i64 0, .int .i64 2, .int .i64 0, .int .i64 0, .slice none 0 0, .slice (some ⟨w.heap.size + 1 + 1 + 1, 0, none⟩) 1 1] 40)
theorem wkW_size (w : World) : (wkW w).heap.size = w.heap.size + 1 + 1 + 1 + 1 + 1 := by simp [wkW]
theorem wkW_keeps (w : World) : Keeps (fun _ => False) w (wkW w) := ((((((Keeps.refl _ w).alloc _).alloc _).alloc _).alloc _).alloc _)
theorem wk_in (w : World) : PkIn (wkW w) (wkW w).heap.size wkP (some ⟨w.heap.size, 0, none⟩) (some ⟨w.heap.size + 1, 0, none⟩) (some ⟨w.heap.size + 1 + 1 + 1 + 1, 0, none⟩) := by
  have hs := wkW_size w
  have h0 : Whole (wkW w) w.heap.size 2 #[.int .i64 (-1), .int .i64 5] := ((((Whole.made w _ _).alloc _).alloc _).alloc _).alloc _
  have h1 : Whole (wkW w) (w.heap.size + 1) 9 #[.string { data := #[97] }] := by
    have h := Whole.made (w.alloc (.cells #[.int .i64 (-1), .int .i64 5] 2)) 9 #[.string { data := #[97] }]
    rw [World.size_alloc] at h
    exact ((h.alloc _).alloc _).alloc _
  have h2 : Whole (wkW w) (w.heap.size + 1 + 1) 5 #[.int .u8 34] := by
    have h := Whole.made ((w.alloc (.cells #[.int .i64 (-1), .int .i64 5] 2)).alloc (.cells #[.string { data := #[97] }] 9)) 5 #[.int .u8 34]
    rw [World.size_alloc, World.size_alloc] at h
    exact (h.alloc _).alloc _
  have h3 : Whole (wkW w) (w.heap.size + 1 + 1 + 1) 43 #[.int .i64 0, .slice none 0 0, .slice (some ⟨w.heap.size + 1 + 1, 0, none⟩) 1 1, .int .i64 0] := by
    have h := Whole.made (((w.alloc (.cells #[.int .i64 (-1), .int .i64 5] 2)).alloc (.cells #[.string { data := #[97] }] 9)).alloc (.cells #[.int .u8 34] 5)) 43 #[.int .i64 0, .slice none 0 0, .slice (some ⟨w.heap.size + 1 + 1, 0, none⟩) 1 1, .int .i64 0]
    rw [World.size_alloc, World.size_alloc, World.size_alloc] at h
    exact h.alloc _
  have h4 : Whole (wkW w) (w.heap.size + 1 + 1 + 1 + 1) 40 #[.int .i64 0, .int .i64 2, .int .i64 0, .int .i64 0, .slice none 0 0, .slice (some ⟨w.heap.size + 1 + 1 + 1, 0, none⟩) 1 1] := by
    have h := Whole.made ((((w.alloc (.cells #[.int .i64 (-1), .int .i64 5] 2)).alloc (.cells #[.string { data := #[97] }] 9)).alloc (.cells #[.int .u8 34] 5)).alloc (.cells #[.int .i64 0, .slice none 0 0, .slice (some ⟨w.heap.size + 1 + 1, 0, none⟩) 1 1, .int .i64 0] 43)) 40 #[.int .i64 0, .int .i64 2, .int .i64 0, .int .i64 0, .slice none 0 0, .slice (some ⟨w.heap.size + 1 + 1 + 1, 0, none⟩) 1 1]
    rw [World.size_alloc, World.size_alloc, World.size_alloc, World.size_alloc] at h
    exact h
  refine ⟨?_, ?_, ?_⟩
  · intro i u hu
    refine ⟨_, _, rfl, by omega, ?_⟩
    have hi : i < 2 := by
      rcases Nat.lt_or_ge i 2 with h | h
      · exact h
      · rw [List.getElem?_eq_none (by simpa [wkP] using h)] at hu; cases hu
    rw [Nat.zero_add, h0.cellAt i]
    match i, hi with
    | 0, _ => exact hu
    | 1, _ => exact hu
  · intro i u hu
    refine ⟨_, _, rfl, by omega, ?_⟩
    have hi : i < 1 := by
      rcases Nat.lt_or_ge i 1 with h | h
      · exact h
      · rw [List.getElem?_eq_none (by simpa [wkP, textsV] using h)] at hu; cases hu
    rw [Nat.zero_add, h1.cellAt i]
    match i, hi with
    | 0, _ => exact hu
  · intro i k hk
    have hi : i < 1 := by
      rcases Nat.lt_or_ge i 1 with h | h
      · exact h
      · rw [List.getElem?_eq_none (by simpa [wkP] using h)] at hk; cases hk
    match i, hi with
    | 0, _ =>
      injection hk with hk
      subst hk
      refine ⟨_, _, none, 0, some ⟨w.heap.size + 1 + 1 + 1, 0, none⟩, 1, rfl, by omega, h4.cellAt 0, h4.cellAt 1, h4.cellAt 2, h4.cellAt 3, h4.cellAt 4, h4.cellAt 5, fun _ _ h => (by cases h), ?_⟩
      intro i e he
      have hi : i < 1 := by
        rcases Nat.lt_or_ge i 1 with h | h
        · exact h
        · rw [List.getElem?_eq_none (by simpa using h)] at he; cases he
      match i, hi with
      | 0, _ =>
        injection he with he
        subst he
        refine ⟨_, _, none, 0, some ⟨w.heap.size + 1 + 1, 0, none⟩, 1, rfl, by omega, h3.cellAt 0, h3.cellAt 1, h3.cellAt 2, h3.cellAt 3, fun _ _ h => (by cases h), ?_⟩
        intro i u hu
        have hi : i < 1 := by
          rcases Nat.lt_or_ge i 1 with h | h
          · exact h
          · rw [List.getElem?_eq_none (by simpa [bytesV] using h)] at hu; cases hu
        refine ⟨_, _, rfl, by omega, ?_⟩
        rw [Nat.zero_add, h2.cellAt i]
        match i, hi with
        | 0, _ => exact hu
/-- What is known of the pack and of the memory it lies in. -/
theorem wk_known (w : World) : ∃ (P : Pk) (b : List Oct), PkIn (wkW w) (wkW w).heap.size P (some ⟨w.heap.size, 0, none⟩) (some ⟨w.heap.size + 1, 0, none⟩) (some ⟨w.heap.size + 1 + 1 + 1 + 1, 0, none⟩) ∧ PkOk P ∧ encP P = (b, 0) ∧ decP b = (P, 0, 0) ∧ b.length = 84 ∧ pkC P (some ⟨w.heap.size, 0, none⟩) (some ⟨w.heap.size + 1, 0, none⟩) (some ⟨w.heap.size + 1 + 1 + 1 + 1, 0, none⟩) 2 1 1 = #[.int .i64 9, .slice (some ⟨w.heap.size, 0, none⟩) 2 2, .slice (some ⟨w.heap.size + 1, 0, none⟩) 1 1, .slice (some ⟨w.heap.size + 1 + 1 + 1 + 1, 0, none⟩) 1 1] :=
  ⟨wkP, packE wkP, wk_in w, wk_ok, by unfold encP; rw [if_neg (by rw [wk_chk]; simp)], (dec_enc wk_chk wk_ints).1, wk_len, rfl⟩
set_option maxRecDepth 8000 in
set_option maxHeartbeats 200000 in
theorem works19_any (w : World) (hg : ErrT w) : Calls Tryz.prog 5 #[] w fun e w' => e = .returned (.bool true) ∧ Keeps (fun _ => False) w w' := by
  obtain ⟨P, b, hin, hok, henc, hdec, hlen, hpk⟩ := wk_known w
  have hk0 := (wkW_keeps w).alloc (.cells #[.int .i64 9, .slice (some ⟨w.heap.size, 0, none⟩) 2 2, .slice (some ⟨w.heap.size + 1, 0, none⟩) 1 1, .slice (some ⟨w.heap.size + 1 + 1 + 1 + 1, 0, none⟩) 1 1] 26)
  have hp0 := Whole.made (wkW w) 26 #[.int .i64 9, .slice (some ⟨w.heap.size, 0, none⟩) 2 2, .slice (some ⟨w.heap.size + 1, 0, none⟩) 1 1, .slice (some ⟨w.heap.size + 1 + 1 + 1 + 1, 0, none⟩) 1 1]
  have hx0 := hin.past ((Keeps.refl (fun _ => False) (wkW w)).alloc (.cells #[.int .i64 9, .slice (some ⟨w.heap.size, 0, none⟩) 2 2, .slice (some ⟨w.heap.size + 1, 0, none⟩) 1 1, .slice (some ⟨w.heap.size + 1 + 1 + 1 + 1, 0, none⟩) 1 1] 26))
  rw [wkW_size] at hp0
  have HE := encodeT_any P _ _ _ 2 1 1 _ hx0 hok
  rw [hpk] at HE
  replace HE := Lib.hid HE
  have HX0 := Lib.hid hx0
  have HP0 := Lib.hid hp0
  have HK0 := Lib.hid hk0
  have HG0 := Lib.hid (hg.keeps hk0)
  have HPK := Lib.hid hpk
  replace henc := Lib.hid henc
  replace hdec := Lib.hid hdec
  replace hlen := Lib.hid hlen
  clear hg hk0 hp0 hx0 hin hpk
  go_enter Tryz.func5, Tryz.ntmps5
  unfold wkW at *
  go_wp2_with fail
  refine HE.out.mono ?_
  rintro e w1 ⟨A, cap, he, hcap, hl, k1⟩
  rw [henc.out] at he hcap hl
  subst he
  simp only [] at hcap hl
  have HX1 := Lib.hid (HX0.out.past k1)
  have HP1 := Lib.hid (HP0.out.keeps k1 id)
  have HK1 := Lib.hid (HK0.out.trans k1)
  have HG1 := Lib.hid (HG0.out.keeps k1)
  have HL1 := Lib.hid hl
  simp only []
  clear HE HX0 HP0 HK0 HG0 k1 hl henc
  have hb9 : b.length ≤ 1000000000 := by have := hlen.out; omega
  go_wp2_with fail
  refine (decodeT_any b A cap w1 HL1.out hcap hb9 HG1.out).mono ?_
  rintro e w2 ⟨q, Bi, Bt, Bk, di, dt, dk, he, hq, hqi, hqo, k2⟩
  rw [hdec.out] at he hq
  subst he
  simp only [] at hq
  subst hq
  have k3 := k2.alloc (.cells (pkC q Bi Bt Bk di dt dk) 26)
  have k3' := (Keeps.refl (fun _ => False) w2).alloc (.cells (pkC q Bi Bt Bk di dt dk) 26)
  have HP2 := Lib.hid (HP1.out.keeps k3 id)
  have HT2 := Lib.hid (Whole.made w2 26 (pkC q Bi Bt Bk di dt dk))
  have HC := eqT_same q _ _ _ Bi Bt Bk 2 1 1 di dt dk _ (HX1.out.past k3) (hqi.past k3') hok.few
  rw [HPK.out] at HC
  replace HC := Lib.hid HC
  have HK2 := Lib.hid (HK1.out.trans k3)
  clear hqi hqo k2 k3 k3' HP1 HX1 HK1 HG1 HL1 HPK hok
  unfold pkC at *
  simp only []
  have hb84 : ((b.length : Int) == 84) = true := by have := hlen.out; simp; omega
  have hS : Hid ((Tryz.prog.info? 26).map (·.size) = some 4) := Lib.hid (by kernel_rfl)
  go_wp2_with (first
    | refine wpList_load_whole rfl 26 _ rfl _ rfl 26 _ _ HP2.out Tryz.underlying26 rfl hS.out ?_
    | refine wpList_load_whole rfl 26 _ rfl _ rfl 26 _ _ HT2.out Tryz.underlying26 rfl hS.out ?_)
  refine HC.out.mono ?_
  rintro e w4 ⟨rfl, k4⟩
  have HK4 := Lib.hid (HK2.out.trans k4)
  clear HC HK2 k4
  go_wp2_with fail
  go_ret
  exact ⟨rfl, HK4.out⟩
end Go.Proofs.YtcmbdnjcfneinaaGreatDoor
