/-
  What the laws of chapter 19 call, told in one form: what lies where is read alone, all that was stays. Conditions: as of the walks.
-/
import Derived.Test.YtcmbdnjcfneinaaDoorSeA
import Derived.Test.YtcmbdnjcfneinaaDoorRdP
import Derived.Test.YtcmbdnjcfneinaaDoorSzW
import Derived.Test.YtcmbdnjcfneinaaDoorWrG
namespace Go.Proofs.YtcmbdnjcfneinaaDoor
open Go.RowKit
/-- A pack that Encode and Check bear. -/
structure PkOk (p : Pk) : Prop where
  few : PkFew p
  size : sizeP p ≤ 1000000000000
theorem zeroPk_ok : PkOk zeroPk := ⟨⟨by decide, by decide, fun _ h => (by cases h), by decide, fun _ h => (by cases h), fun _ h => (by cases h)⟩, by decide⟩
theorem zeroPk_in (w : World) (B : Nat) : PkIn w B zeroPk none none none := ⟨fun _ _ h => (by cases h), fun _ _ h => (by cases h), fun _ _ h => (by cases h)⟩
theorem zeroC_pkC : zeroC = pkC zeroPk none none none 0 0 0 := rfl
theorem good_ok {p : Pk} (h : GoodPk p) (hs : sizeP p ≤ 1000000000000) : PkOk p := ⟨few_pk h, hs⟩
/-- What Encode answers. -/
def EncT (p : Pk) (w : World) (e : Ending) (w' : World) : Prop := ∃ A cap, e = .returned (.tuple #[.slice A (encP p).1.length cap, .int .i64 (encP p).2]) ∧ (encP p).1.length ≤ cap ∧ Lies w' w'.heap.size A (bytesV (encP p).1) ∧ Keeps (fun _ => False) w w'
theorem encodeT_any (p : Pk) (Ai At Ak : Option Addr) (ci ct ck : Nat) (w : World) (hx : PkIn w w.heap.size p Ai At Ak) (hm : PkOk p) :
    Calls Tryd.prog 8 #[.agg (pkC p Ai At Ak ci ct ck)] w (EncT p w) :=
  (encode_any p Ai At Ak ci ct ck w hx hm.few hm.size).mono fun e w' h => by
    obtain ⟨v, he, ho, hk⟩ := h
    obtain ⟨A, cap, rfl, hc, _⟩ := own_slice ho
    exact ⟨A, cap, he, hc, own_lies ho, hk⟩
/-- What Decode answers. -/
def DecT (b : List Oct) (w : World) (e : Ending) (w' : World) : Prop := ∃ (q : Pk) (Ai At Ak : Option Addr) (ci ct ck : Nat), e = .returned (.tuple #[.agg (pkC q Ai At Ak ci ct ck), .int .i64 (decP b).2.1, .int .i64 (decP b).2.2]) ∧ q = (decP b).1 ∧ PkIn w' w'.heap.size q Ai At Ak ∧ PkOk q ∧ Keeps (fun _ => False) w w'
theorem decodeT_any (b : List Oct) (A : Option Addr) (cap : Nat) (w : World) (hl : Lies w w.heap.size A (bytesV b)) (hcap : b.length ≤ cap) (hb : b.length ≤ 1000000000) (hg : ErrT w) :
    Calls Tryd.prog 10 #[.slice A b.length cap] w (DecT b w) :=
  (decode_any b A cap w hl hcap hb hg).mono fun e w' h => by
    obtain ⟨cs, he, hk, hbad, hgood⟩ := h
    by_cases h0 : (decP b).2.1 = 0
    · obtain ⟨p, B, rfl, hp, hs⟩ := hgood h0
      have hx := p.lies hs
      rw [p.pkC] at he
      have hd := enc_dec h0
      rw [hp] at he hx
      refine ⟨_, _, _, _, _, _, _, he, rfl, hx, ?_, hk⟩
      refine good_ok hd.2.2.2 ?_
      rw [← packE_length, hd.2.1]
      omega
    · rw [hbad h0, zeroC_pkC] at he
      exact ⟨zeroPk, none, none, none, 0, 0, 0, he, (dec_bad h0).1.symm, zeroPk_in _ _, zeroPk_ok, hk⟩
/-- What EqPack answers. -/
def EqT (x y : Pk) (w : World) (e : Ending) (w' : World) : Prop := e = .returned (.bool (@decide (x = y) (Classical.propDecidable _))) ∧ Keeps (fun _ => False) w w'
theorem eqT_any (x y : Pk) (Ai At Ak Bi Bt Bk : Option Addr) (ci ct ck di dt dk : Nat) (w : World) (h1 : PkIn w w.heap.size x Ai At Ak) (h2 : PkIn w w.heap.size y Bi Bt Bk) (hm : PkFew x) (hmy : PkFew y) :
    Calls Tryd.prog 11 #[.agg (pkC x Ai At Ak ci ct ck), .agg (pkC y Bi Bt Bk di dt dk)] w (EqT x y w) :=
  (eqPack_any x y Ai At Ak Bi Bt Bk ci ct ck di dt dk w h1 h2 hm hmy).mono fun e w' h => by
    obtain ⟨v, he, hv, hk⟩ := h
    refine ⟨?_, hk⟩
    rw [he]
    congr 2
    by_cases hxy : x = y
    · rw [hv.2 hxy, @decide_eq_true _ (Classical.propDecidable _) hxy]
    · rw [@decide_eq_false _ (Classical.propDecidable _) hxy]
      cases v with
      | false => rfl
      | true => exact absurd (hv.1 rfl) hxy
theorem eqT_same (x : Pk) (Ai At Ak Bi Bt Bk : Option Addr) (ci ct ck di dt dk : Nat) (w : World) (h1 : PkIn w w.heap.size x Ai At Ak) (h2 : PkIn w w.heap.size x Bi Bt Bk) (hm : PkFew x) :
    Calls Tryd.prog 11 #[.agg (pkC x Ai At Ak ci ct ck), .agg (pkC x Bi Bt Bk di dt dk)] w fun e w' => e = .returned (.bool true) ∧ Keeps (fun _ => False) w w' :=
  (eqT_any x x Ai At Ak Bi Bt Bk ci ct ck di dt dk w h1 h2 hm hm).mono fun e w' h => ⟨by rw [h.1, @decide_eq_true _ (Classical.propDecidable _) rfl], h.2⟩
/-- What Sealed answers. -/
def SealT (b : List Oct) (w : World) (e : Ending) (w' : World) : Prop := ∃ A cap, e = .returned (.slice A (sealedL b).length cap) ∧ (sealedL b).length ≤ cap ∧ Lies w' w'.heap.size A (bytesV (sealedL b)) ∧ Keeps (fun _ => False) w w'
theorem sealedT_any (b : List Oct) (A : Option Addr) (cap : Nat) (w : World) (hl : Lies w w.heap.size A (bytesV b)) (hm : b.length ≤ 1099511627776) :
    Calls Tryd.prog 12 #[.slice A b.length cap] w (SealT b w) :=
  (sealed_any b A _ cap w hl (Nat.le_refl _) hm).mono fun e w' h => by
    obtain ⟨A', cap', rfl, ho, hb⟩ := h
    obtain ⟨_, _, e2, hc, _⟩ := own_slice ho
    injection e2 with _ _ e2
    subst e2
    exact ⟨A', cap', rfl, hc, own_lies ho, keepsAll hb⟩
/-- What beyond answers. -/
def BeyT (p : Pk) (w : World) (e : Ending) (w' : World) : Prop := ∃ v : Bool, e = .returned (.bool v) ∧ (v = false → PkOk p) ∧ Keeps (fun _ => False) w w'
set_option maxRecDepth 4000 in
set_option maxHeartbeats 2000000 in
theorem beyond_any (p : Pk) (Ai At Ak : Option Addr) (ci ct ck : Nat) (w : World) (hx : PkIn w w.heap.size p Ai At Ak) (hm : PkBig p) :
    Calls Tryd.prog 7 #[.agg (pkC p Ai At Ak ci ct ck)] w (BeyT p w) := by
  have ka := (Keeps.refl (fun _ => False) w).alloc (.cells (pkC p Ai At Ak ci ct ck) 26)
  have HK := Lib.hid ka
  have HC := Lib.hid (sizePack_any p Ai At Ak ci ct ck _ (hx.past ka) hm)
  have HF : Hid (packW p ≤ 16777216 → PkOk p) := Lib.hid fun h => ⟨(few_of hm h).1, (few_of hm h).2⟩
  clear hx hm ka
  unfold pkC at *
  go_enter Tryd.func7, Tryd.ntmps7
  go_wp2_with fail
  generalize w.alloc _ = w0 at *
  refine HC.out.mono ?_
  rintro e w1 ⟨n, rfl, hn, k1⟩
  have HN := Lib.hid hn
  have HK1 := Lib.hid (HK.out.trans k1)
  clear HK HC hn k1
  go_wp2_with fail
  go_ret
  refine ⟨_, rfl, fun h => HF.out (HN.out ?_), HK1.out⟩
  simp only [decide_eq_false_iff_not] at h
  omega
end Go.Proofs.YtcmbdnjcfneinaaDoor
/-
  works of chapter 19: the pack that is made, written and read as itself. Conditions: errors.errorType is as Go lays it.
-/
namespace Go.Proofs.YtcmbdnjcfneinaaDoor
open Go.RowKit
def wkP : Pk := ⟨9, [-1, 5], [[97#8]], [⟨0, 2, 0, 0, [], [⟨0, [], 0, [34#8]⟩]⟩]⟩
theorem wk_chk : chk wkP = 0 := by decide +kernel
theorem wk_len : (packE wkP).length = 84 := by rw [packE_length]; decide +kernel
theorem wk_ints : Ints64 wkP := by
  intro a ha
  simp only [wkP, List.mem_cons, List.not_mem_nil, or_false] at ha
  omega
theorem wk_ok : PkOk wkP := by
  refine ⟨few_pk (good_of_chk wk_chk wk_ints).1, ?_⟩
  have h := wk_len
  rw [packE_length] at h
  omega
def wkW (w : World) : World := ((((w.alloc (.cells #[.int .i64 (-1), .int .i64 5] 2)).alloc (.cells #[.string { data := #[97] }] 9)).alloc (.cells #[.int .u8 34] 5)).alloc (.cells #[.int .i64 0, .slice none 0 0, .slice (some ⟨w.heap.size + 1 + 1, 0, none⟩) 1 1, .int .i64 0] 47)).alloc (.cells #[.int .i64 0, .int .i64 2, .int .i64 0, .int .i64 0, .slice none 0 0, .slice (some ⟨w.heap.size + 1 + 1 + 1, 0, none⟩) 1 1] 51)
theorem wkW_size (w : World) : (wkW w).heap.size = w.heap.size + 1 + 1 + 1 + 1 + 1 := by simp [wkW]
theorem wkW_keeps (w : World) : Keeps (fun _ => False) w (wkW w) := ((((((Keeps.refl _ w).alloc _).alloc _).alloc _).alloc _).alloc _)
theorem wk_in (w : World) : PkIn (wkW w) (wkW w).heap.size wkP (some ⟨w.heap.size, 0, none⟩) (some ⟨w.heap.size + 1, 0, none⟩) (some ⟨w.heap.size + 1 + 1 + 1 + 1, 0, none⟩) := by
  have hs := wkW_size w
  have h0 : Whole (wkW w) w.heap.size 2 #[.int .i64 (-1), .int .i64 5] := ((((Whole.made w _ _).alloc _).alloc _).alloc _).alloc _
  have h1 : Whole (wkW w) (w.heap.size + 1) 9 #[.string { data := #[97] }] := by
    have h := Whole.made (w.alloc (.cells #[.int .i64 (-1), .int .i64 5] 2)) 9 #[.string { data := #[97] }]
    rw [World.size_alloc] at h
    exact ((h.alloc _).alloc _).alloc _
  have h2 : Whole (wkW w) (w.heap.size + 1 + 1) 5 #[.int .u8 34] := by
    have h := Whole.made ((w.alloc (.cells #[.int .i64 (-1), .int .i64 5] 2)).alloc (.cells #[.string { data := #[97] }] 9)) 5 #[.int .u8 34]
    rw [World.size_alloc, World.size_alloc] at h
    exact (h.alloc _).alloc _
  have h3 : Whole (wkW w) (w.heap.size + 1 + 1 + 1) 47 #[.int .i64 0, .slice none 0 0, .slice (some ⟨w.heap.size + 1 + 1, 0, none⟩) 1 1, .int .i64 0] := by
    have h := Whole.made (((w.alloc (.cells #[.int .i64 (-1), .int .i64 5] 2)).alloc (.cells #[.string { data := #[97] }] 9)).alloc (.cells #[.int .u8 34] 5)) 47 #[.int .i64 0, .slice none 0 0, .slice (some ⟨w.heap.size + 1 + 1, 0, none⟩) 1 1, .int .i64 0]
    rw [World.size_alloc, World.size_alloc, World.size_alloc] at h
    exact h.alloc _
  have h4 : Whole (wkW w) (w.heap.size + 1 + 1 + 1 + 1) 51 #[.int .i64 0, .int .i64 2, .int .i64 0, .int .i64 0, .slice none 0 0, .slice (some ⟨w.heap.size + 1 + 1 + 1, 0, none⟩) 1 1] := by
    have h := Whole.made ((((w.alloc (.cells #[.int .i64 (-1), .int .i64 5] 2)).alloc (.cells #[.string { data := #[97] }] 9)).alloc (.cells #[.int .u8 34] 5)).alloc (.cells #[.int .i64 0, .slice none 0 0, .slice (some ⟨w.heap.size + 1 + 1, 0, none⟩) 1 1, .int .i64 0] 47)) 51 #[.int .i64 0, .int .i64 2, .int .i64 0, .int .i64 0, .slice none 0 0, .slice (some ⟨w.heap.size + 1 + 1 + 1, 0, none⟩) 1 1]
    rw [World.size_alloc, World.size_alloc, World.size_alloc, World.size_alloc] at h
    exact h
  refine ⟨?_, ?_, ?_⟩
  · intro i u hu
    refine ⟨_, _, rfl, by omega, ?_⟩
    have hi : i < 2 := by
      rcases Nat.lt_or_ge i 2 with h | h
      · exact h
      · rw [List.getElem?_eq_none (by simpa [wkP] using h)] at hu; cases hu
    rw [Nat.zero_add, h0.cellAt i]
    match i, hi with
    | 0, _ => exact hu
    | 1, _ => exact hu
  · intro i u hu
    refine ⟨_, _, rfl, by omega, ?_⟩
    have hi : i < 1 := by
      rcases Nat.lt_or_ge i 1 with h | h
      · exact h
      · rw [List.getElem?_eq_none (by simpa [wkP, textsV] using h)] at hu; cases hu
    rw [Nat.zero_add, h1.cellAt i]
    match i, hi with
    | 0, _ => exact hu
  · intro i k hk
    have hi : i < 1 := by
      rcases Nat.lt_or_ge i 1 with h | h
      · exact h
      · rw [List.getElem?_eq_none (by simpa [wkP] using h)] at hk; cases hk
    match i, hi with
    | 0, _ =>
      injection hk with hk
      subst hk
      refine ⟨_, _, none, 0, some ⟨w.heap.size + 1 + 1 + 1, 0, none⟩, 1, rfl, by omega, h4.cellAt 0, h4.cellAt 1, h4.cellAt 2, h4.cellAt 3, h4.cellAt 4, h4.cellAt 5, fun _ _ h => (by cases h), ?_⟩
      intro i e he
      have hi : i < 1 := by
        rcases Nat.lt_or_ge i 1 with h | h
        · exact h
        · rw [List.getElem?_eq_none (by simpa using h)] at he; cases he
      match i, hi with
      | 0, _ =>
        injection he with he
        subst he
        refine ⟨_, _, none, 0, some ⟨w.heap.size + 1 + 1, 0, none⟩, 1, rfl, by omega, h3.cellAt 0, h3.cellAt 1, h3.cellAt 2, h3.cellAt 3, fun _ _ h => (by cases h), ?_⟩
        intro i u hu
        have hi : i < 1 := by
          rcases Nat.lt_or_ge i 1 with h | h
          · exact h
          · rw [List.getElem?_eq_none (by simpa [bytesV] using h)] at hu; cases hu
        refine ⟨_, _, rfl, by omega, ?_⟩
        rw [Nat.zero_add, h2.cellAt i]
        match i, hi with
        | 0, _ => exact hu
/-- What is known of the pack and of the memory it lies in. -/
theorem wk_known (w : World) : ∃ (P : Pk) (b : List Oct), PkIn (wkW w) (wkW w).heap.size P (some ⟨w.heap.size, 0, none⟩) (some ⟨w.heap.size + 1, 0, none⟩) (some ⟨w.heap.size + 1 + 1 + 1 + 1, 0, none⟩) ∧ PkOk P ∧ encP P = (b, 0) ∧ decP b = (P, 0, 0) ∧ b.length = 84 ∧ pkC P (some ⟨w.heap.size, 0, none⟩) (some ⟨w.heap.size + 1, 0, none⟩) (some ⟨w.heap.size + 1 + 1 + 1 + 1, 0, none⟩) 2 1 1 = #[.int .i64 9, .slice (some ⟨w.heap.size, 0, none⟩) 2 2, .slice (some ⟨w.heap.size + 1, 0, none⟩) 1 1, .slice (some ⟨w.heap.size + 1 + 1 + 1 + 1, 0, none⟩) 1 1] :=
  ⟨wkP, packE wkP, wk_in w, wk_ok, by unfold encP; rw [if_neg (by rw [wk_chk]; simp)], (dec_enc wk_chk wk_ints).1, wk_len, rfl⟩
set_option maxRecDepth 8000 in
set_option maxHeartbeats 200000 in
theorem works19_any (w : World) (hg : ErrT w) : Calls Tryd.prog 6 #[] w fun e w' => e = .returned (.bool true) ∧ Keeps (fun _ => False) w w' := by
  obtain ⟨P, b, hin, hok, henc, hdec, hlen, hpk⟩ := wk_known w
  have hk0 := (wkW_keeps w).alloc (.cells #[.int .i64 9, .slice (some ⟨w.heap.size, 0, none⟩) 2 2, .slice (some ⟨w.heap.size + 1, 0, none⟩) 1 1, .slice (some ⟨w.heap.size + 1 + 1 + 1 + 1, 0, none⟩) 1 1] 26)
  have hp0 := Whole.made (wkW w) 26 #[.int .i64 9, .slice (some ⟨w.heap.size, 0, none⟩) 2 2, .slice (some ⟨w.heap.size + 1, 0, none⟩) 1 1, .slice (some ⟨w.heap.size + 1 + 1 + 1 + 1, 0, none⟩) 1 1]
  have hx0 := hin.past ((Keeps.refl (fun _ => False) (wkW w)).alloc (.cells #[.int .i64 9, .slice (some ⟨w.heap.size, 0, none⟩) 2 2, .slice (some ⟨w.heap.size + 1, 0, none⟩) 1 1, .slice (some ⟨w.heap.size + 1 + 1 + 1 + 1, 0, none⟩) 1 1] 26))
  rw [wkW_size] at hp0
  have HE := encodeT_any P _ _ _ 2 1 1 _ hx0 hok
  rw [hpk] at HE
  replace HE := Lib.hid HE
  have HX0 := Lib.hid hx0
  have HP0 := Lib.hid hp0
  have HK0 := Lib.hid hk0
  have HG0 := Lib.hid (hg.keeps hk0)
  have HPK := Lib.hid hpk
  replace henc := Lib.hid henc
  replace hdec := Lib.hid hdec
  replace hlen := Lib.hid hlen
  clear hg hk0 hp0 hx0 hin hpk
  go_enter Tryd.func6, Tryd.ntmps6
  unfold wkW at *
  go_wp2_with fail
  refine HE.out.mono ?_
  rintro e w1 ⟨A, cap, he, hcap, hl, k1⟩
  rw [henc.out] at he hcap hl
  subst he
  simp only [] at hcap hl
  have HX1 := Lib.hid (HX0.out.past k1)
  have HP1 := Lib.hid (HP0.out.keeps k1 id)
  have HK1 := Lib.hid (HK0.out.trans k1)
  have HG1 := Lib.hid (HG0.out.keeps k1)
  have HL1 := Lib.hid hl
  simp only []
  clear HE HX0 HP0 HK0 HG0 k1 hl henc
  have hb9 : b.length ≤ 1000000000 := by have := hlen.out; omega
  go_wp2_with fail
  refine (decodeT_any b A cap w1 HL1.out hcap hb9 HG1.out).mono ?_
  rintro e w2 ⟨q, Bi, Bt, Bk, di, dt, dk, he, hq, hqi, hqo, k2⟩
  rw [hdec.out] at he hq
  subst he
  simp only [] at hq
  subst hq
  have k3 := k2.alloc (.cells (pkC q Bi Bt Bk di dt dk) 26)
  have k3' := (Keeps.refl (fun _ => False) w2).alloc (.cells (pkC q Bi Bt Bk di dt dk) 26)
  have HP2 := Lib.hid (HP1.out.keeps k3 id)
  have HT2 := Lib.hid (Whole.made w2 26 (pkC q Bi Bt Bk di dt dk))
  have HC := eqT_same q _ _ _ Bi Bt Bk 2 1 1 di dt dk _ (HX1.out.past k3) (hqi.past k3') hok.few
  rw [HPK.out] at HC
  replace HC := Lib.hid HC
  have HK2 := Lib.hid (HK1.out.trans k3)
  clear hqi hqo k2 k3 k3' HP1 HX1 HK1 HG1 HL1 HPK hok
  unfold pkC at *
  simp only []
  have hb84 : ((b.length : Int) == 84) = true := by have := hlen.out; simp; omega
  have hS : Hid ((Tryd.prog.info? 26).map (·.size) = some 4) := Lib.hid (by kernel_rfl)
  go_wp2_with (first
    | refine wpList_load_whole rfl 26 _ rfl _ rfl 26 _ _ HP2.out Tryd.underlying26 rfl hS.out ?_
    | refine wpList_load_whole rfl 26 _ rfl _ rfl 26 _ _ HT2.out Tryd.underlying26 rfl hS.out ?_)
  refine HC.out.mono ?_
  rintro e w4 ⟨rfl, k4⟩
  have HK4 := Lib.hid (HK2.out.trans k4)
  clear HC HK2 k4
  go_wp2_with fail
  go_ret
  exact ⟨rfl, HK4.out⟩
end Go.Proofs.YtcmbdnjcfneinaaDoor
/-
  The laws PackBack, PackBurst, PackCut walked. Conditions: errors.errorType is as Go lays it.
-/
namespace Go.Proofs.YtcmbdnjcfneinaaDoor
open Go.RowKit
theorem encP_snd (p : Pk) : (encP p).2 = chk p := by
  unfold encP
  by_cases h : chk p = 0
  · rw [if_neg (by rw [h]; simp), h]
  · rw [if_pos h]
theorem encP_ok {p : Pk} (h : chk p = 0) : encP p = (packE p, 0) := by unfold encP; rw [if_neg (by rw [h]; simp)]
theorem encP_bad {p : Pk} (h : chk p ≠ 0) : encP p = ([], chk p) := by unfold encP; rw [if_pos h]
/-- What the laws hold: the pack in its box, its lists, the bytes; all that was stays. -/
structure LawAt (p : Pk) (Ai At Ak : Option Addr) (ci ct ck pb : Nat) (b : List Oct) (A : Option Addr) (w0 w : World) : Prop where
  box : Whole w pb 26 (pkC p Ai At Ak ci ct ck)
  pack : PkIn w w.heap.size p Ai At Ak
  bytes : Lies w w.heap.size A (bytesV b)
  err : ErrT w
  old : Keeps (fun _ => False) w0 w
theorem LawAt.past {p : Pk} {Ai At Ak : Option Addr} {ci ct ck pb : Nat} {b : List Oct} {A : Option Addr} {w0 w w' : World} (h : LawAt p Ai At Ak ci ct ck pb b A w0 w) (k : Keeps (fun _ => False) w w') : LawAt p Ai At Ak ci ct ck pb b A w0 w' :=
  ⟨h.box.keeps k id, h.pack.past k, h.bytes.pastK k, h.err.keeps k, h.old.trans k⟩
theorem sizePk : (Tryd.prog.info? 26).map (·.size) = some 4 := by kernel_rfl
set_option maxRecDepth 8000 in
set_option maxHeartbeats 4000000 in
theorem packBack_any (p : Pk) (Ai At Ak : Option Addr) (ci ct ck : Nat) (b : List Oct) (A : Option Addr) (cap : Nat) (hcap : b.length ≤ cap) (hbl : b.length ≤ 140737488355328) (sl : Bool) (w : World) (hx : PkIn w w.heap.size p Ai At Ak) (hm : PkBig p) (hl : Lies w w.heap.size A (bytesV b)) (hg : ErrT w) :
    Calls Tryd.prog 3 #[.agg (pkC p Ai At Ak ci ct ck), .slice A b.length cap, .bool sl] w fun e w' => e = .returned (.bool true) ∧ Keeps (fun _ => False) w w' := by
  have ka := (Keeps.refl (fun _ => False) w).alloc (.cells (pkC p Ai At Ak ci ct ck) 26)
  have HA0 : Hid (LawAt p Ai At Ak ci ct ck w.heap.size b A w (w.alloc (.cells (pkC p Ai At Ak ci ct ck) 26))) := Lib.hid ⟨Whole.made w _ _, hx.past ka, hl.pastK ka, hg.keeps ka, ka⟩
  have HBig := Lib.hid hm
  clear hx hl hg hm ka
  go_enter Tryd.func3, Tryd.ntmps3
  unfold pkC at HA0 ⊢
  go_wp2_with fail
  generalize w.alloc _ = w0 at *
  refine (works19_any w0 HA0.out.err).mono ?_
  rintro e w1 ⟨rfl, k1⟩
  have HA1 := Lib.hid (HA0.out.past k1)
  clear HA0 k1
  go_wp2_with (first
    | refine wpList_load_whole rfl 26 _ rfl _ rfl 26 _ _ HA1.out.box Tryd.underlying26 rfl sizePk ?_)
  refine (beyond_any p Ai At Ak ci ct ck w1 HA1.out.pack HBig.out).mono ?_
  rintro e w2 ⟨v, rfl, hv, k2⟩
  have HA2 := Lib.hid (HA1.out.past k2)
  clear HA1 k2
  cases v with
  | true =>
    clear hv
    go_wp2_with fail
    go_ret
    exact ⟨rfl, HA2.out.old⟩
  | false =>
    have HOk := Lib.hid (hv rfl)
    clear hv
    by_cases hb : b.length ≤ 4194304
    · go_wp2_with (first
    | refine wpList_load_whole rfl 26 _ rfl _ rfl 26 _ _ HA2.out.box Tryd.underlying26 rfl sizePk ?_)
      refine (encodeT_any p Ai At Ak ci ct ck w2 HA2.out.pack HOk.out).mono ?_
      rintro e w3 ⟨A1, cap1, he, hcap1, hl1, k⟩
      have HA3 := Lib.hid (HA2.out.past k)
      clear HA2 k
      by_cases hc : chk p = 0
      · have HC := Lib.hid hc
        rw [encP_ok hc] at he hcap1 hl1
        subst he
        simp only [] at hcap1 hl1 ⊢
        obtain ⟨hdec, hlen⟩ := dec_enc hc HOk.out.few.ints64
        have HD := Lib.hid hdec
        have HL3 := Lib.hid hl1
        have hlen2 : (packE p).length ≤ 1000000000 := by omega
        clear hc hdec hl1
        generalize packE p = c at *
        go_wp2_with (first
    | refine wpList_load_whole rfl 26 _ rfl _ rfl 26 _ _ HA3.out.box Tryd.underlying26 rfl sizePk ?_)
        refine (check_any p Ai At Ak ci ct ck _ HA3.out.pack HOk.out.few HOk.out.size).mono ?_
        rintro e w4 ⟨rfl, k⟩
        rw [HC.out]
        have HA4 := Lib.hid (HA3.out.past k)
        have HL4 := Lib.hid (HL3.out.pastK k)
        clear HA3 HL3 k
        go_wp2_with fail
        refine (decodeT_any c A1 cap1 w4 HL4.out hcap1 hlen2 HA4.out.err).mono ?_
        rintro e w5 ⟨q, Bi, Bt, Bk, di, dt, dk, he, hq, hqi, hqo, k⟩
        rw [HD.out] at he hq
        subst he
        simp only [] at hq ⊢
        subst hq
        have ka := (Keeps.refl (fun _ => False) w5).alloc (.cells (pkC q Bi Bt Bk di dt dk) 26)
        have HA5 := Lib.hid (HA4.out.past (k.trans ka))
        have HT := Lib.hid (Whole.made w5 26 (pkC q Bi Bt Bk di dt dk))
        have HEq := Lib.hid (eqT_same q Bi Bt Bk Ai At Ak di dt dk ci ct ck _ (hqi.past ka) HA5.out.pack HOk.out.few)
        clear hqi hqo k ka HA4 HL4
        unfold pkC at HT HA5 HEq ⊢
        go_wp2_with (first
    | refine wpList_load_whole rfl 26 _ rfl _ rfl 26 _ _ HT.out Tryd.underlying26 rfl sizePk ?_
    | refine wpList_load_whole rfl 26 _ rfl _ rfl 26 _ _ HA5.out.box Tryd.underlying26 rfl sizePk ?_)
        refine HEq.out.mono ?_
        rintro e w6 ⟨rfl, k⟩
        have HA6 := Lib.hid (HA5.out.past k)
        clear HA5 HT HEq k
        cases sl with
        | false =>
          have HB0 := Lib.hid HA6.out.bytes
          have hlen9 : b.length ≤ 1000000000 := by omega
          go_wp2_with fail
          refine (decodeT_any b A cap w6 HB0.out hcap hlen9 HA6.out.err).mono ?_
          rintro e w7 ⟨q, Bi, Bt, Bk, di, dt, dk, rfl, hq, hqi, hqo, k⟩
          have ka := (Keeps.refl (fun _ => False) w7).alloc (.cells (pkC q Bi Bt Bk di dt dk) 26)
          have HA7 := Lib.hid (HA6.out.past (k.trans ka))
          have HL7 := Lib.hid ((HB0.out).pastK (k.trans ka))
          have HT := Lib.hid (Whole.made w7 26 (pkC q Bi Bt Bk di dt dk))
          have HQ := Lib.hid (hqi.past ka)
          have HQo := Lib.hid hqo
          clear hqi hqo k ka HA6 HB0
          by_cases hf : (decP b).2.1 = 0
          · obtain ⟨hc0, hpe, _, _⟩ := enc_dec hf
            rw [← hq] at hc0 hpe
            have HC0 := Lib.hid hc0
            have HPE := Lib.hid hpe
            rw [hf]
            generalize (decP b).2.2 = at_
            clear hq hf hc0 hpe
            unfold pkC at HT HA7 HL7 HQ ⊢
            go_wp2_with (first
              | refine wpList_load_whole rfl 26 _ rfl _ rfl 26 _ _ HT.out Tryd.underlying26 rfl sizePk ?_)
            generalize w7.alloc _ = w7 at *
            refine (encodeT_any q Bi Bt Bk di dt dk _ HQ.out HQo.out).mono ?_
            rintro e w8 ⟨A2, cap2, he, hcap2, hl2, k⟩
            rw [encP_ok HC0.out] at he hcap2 hl2
            simp only [] at he hcap2 hl2
            rw [HPE.out] at he hcap2 hl2
            subst he
            have HA8 := Lib.hid (HA7.out.past k)
            have HL8 := Lib.hid (HL7.out.pastK k)
            have HD8 := Lib.hid hl2
            have HT2 := Lib.hid (HT.out.keeps k id)
            have HQ2 := Lib.hid (HQ.out.past k)
            clear HA7 HL7 HT HQ k hl2 hcap2
            go_wp2_with (first
              | refine wpList_load_whole rfl 26 _ rfl _ rfl 26 _ _ HT2.out Tryd.underlying26 rfl sizePk ?_)
            refine (check_any q Bi Bt Bk di dt dk _ HQ2.out HQo.out.few HQo.out.size).mono ?_
            rintro e w9 ⟨rfl, k⟩
            rw [HC0.out]
            have HA9 := Lib.hid (HA8.out.past k)
            have HL9 := Lib.hid (HL8.out.pastK k)
            have HD9 := Lib.hid (HD8.out.pastK k)
            clear HA8 HL8 HD8 HT2 HQ2 k
            go_wp2_with fail
            refine (eqBytes_any b b A2 A _ _ cap2 cap _ HD9.out HL9.out (by omega)).mono ?_
            rintro e w10 ⟨rfl, k⟩
            have HA10 := Lib.hid (HA9.out.past (keepsAll k))
            clear HA9 HL9 HD9 k
            rw [decide_eq_true rfl]
            go_wp2_with fail
            go_ret
            exact ⟨rfl, HA10.out.old⟩
          · obtain ⟨hz, hat⟩ := dec_bad hf
            rw [hz] at hq
            subst hq
            have hfn : (((decP b).2.1 : Int) != 0) = true := by simp [hf]
            have HEq := Lib.hid (eqT_same zeroPk _ _ _ none none none di dt dk 0 0 0 _ HQ.out (zeroPk_in _ _) zeroPk_ok.few)
            clear hz hf HQ
            generalize (decP b).2.2 = at_ at *
            generalize (decP b).2.1 = fv at *
            unfold pkC at HT HA7 HL7 HEq ⊢
            have hat0 : ((at_ : Int) ≤ (b.length : Int)) = True := eq_true (by omega)
            clear hat
            go_wp2_with (first
              | refine wpList_load_whole rfl 26 _ rfl _ rfl 26 _ _ HT.out Tryd.underlying26 rfl sizePk ?_)
            refine HEq.out.mono ?_
            rintro e w8 ⟨rfl, k⟩
            have HA8 := Lib.hid (HA7.out.past k)
            clear HA7 HL7 HEq HT k
            go_wp2_with fail
            go_ret
            exact ⟨rfl, HA8.out.old⟩
        | true =>
          go_wp2_with fail
          refine (sealedT_any b A cap _ HA6.out.bytes (by omega)).mono ?_
          rintro e w7 ⟨A9, cap9, he, hcap9, hl9, k⟩
          have hlen9 : (sealedL b).length ≤ 1000000000 := by rw [sealedL_length]; omega
          have HA7 := Lib.hid (HA6.out.past k)
          have HB0 := Lib.hid hl9
          clear HA6 hl9 k
          generalize sealedL b = bs at *
          subst he
          go_wp2_with fail
          refine (decodeT_any bs A9 cap9 w7 HB0.out hcap9 hlen9 HA7.out.err).mono ?_
          rintro e w8 ⟨q, Bi, Bt, Bk, di, dt, dk, rfl, hq, hqi, hqo, k⟩
          have ka := (Keeps.refl (fun _ => False) w8).alloc (.cells (pkC q Bi Bt Bk di dt dk) 26)
          have HA8 := Lib.hid (HA7.out.past (k.trans ka))
          have HL8 := Lib.hid ((HB0.out).pastK (k.trans ka))
          have HT := Lib.hid (Whole.made w8 26 (pkC q Bi Bt Bk di dt dk))
          have HQ := Lib.hid (hqi.past ka)
          have HQo := Lib.hid hqo
          clear hqi hqo k ka HA7 HB0
          by_cases hf : (decP bs).2.1 = 0
          · obtain ⟨hc0, hpe, _, _⟩ := enc_dec hf
            rw [← hq] at hc0 hpe
            have HC0 := Lib.hid hc0
            have HPE := Lib.hid hpe
            rw [hf]
            generalize (decP bs).2.2 = at_
            clear hq hf hc0 hpe
            unfold pkC at HT HA8 HL8 HQ ⊢
            go_wp2_with (first
              | refine wpList_load_whole rfl 26 _ rfl _ rfl 26 _ _ HT.out Tryd.underlying26 rfl sizePk ?_)
            generalize w8.alloc _ = w8 at *
            refine (encodeT_any q Bi Bt Bk di dt dk _ HQ.out HQo.out).mono ?_
            rintro e w9 ⟨A2, cap2, he, hcap2, hl2, k⟩
            rw [encP_ok HC0.out] at he hcap2 hl2
            simp only [] at he hcap2 hl2
            rw [HPE.out] at he hcap2 hl2
            subst he
            have HA9 := Lib.hid (HA8.out.past k)
            have HL9 := Lib.hid (HL8.out.pastK k)
            have HD9 := Lib.hid hl2
            have HT2 := Lib.hid (HT.out.keeps k id)
            have HQ2 := Lib.hid (HQ.out.past k)
            clear HA8 HL8 HT HQ k hl2 hcap2
            go_wp2_with (first
              | refine wpList_load_whole rfl 26 _ rfl _ rfl 26 _ _ HT2.out Tryd.underlying26 rfl sizePk ?_)
            refine (check_any q Bi Bt Bk di dt dk _ HQ2.out HQo.out.few HQo.out.size).mono ?_
            rintro e w10 ⟨rfl, k⟩
            rw [HC0.out]
            have HA10 := Lib.hid (HA9.out.past k)
            have HL10 := Lib.hid (HL9.out.pastK k)
            have HD10 := Lib.hid (HD9.out.pastK k)
            clear HA9 HL9 HD9 HT2 HQ2 k
            go_wp2_with fail
            refine (eqBytes_any bs bs A2 A9 _ _ cap2 cap9 _ HD10.out HL10.out (by omega)).mono ?_
            rintro e w11 ⟨rfl, k⟩
            have HA11 := Lib.hid (HA10.out.past (keepsAll k))
            clear HA10 HL10 HD10 k
            rw [decide_eq_true rfl]
            go_wp2_with fail
            go_ret
            exact ⟨rfl, HA11.out.old⟩
          · obtain ⟨hz, hat⟩ := dec_bad hf
            rw [hz] at hq
            subst hq
            have hfn : (((decP bs).2.1 : Int) != 0) = true := by simp [hf]
            have HEq := Lib.hid (eqT_same zeroPk _ _ _ none none none di dt dk 0 0 0 _ HQ.out (zeroPk_in _ _) zeroPk_ok.few)
            clear hz hf HQ
            generalize (decP bs).2.2 = at_ at *
            generalize (decP bs).2.1 = fv at *
            unfold pkC at HT HA8 HL8 HEq ⊢
            have hat0 : ((at_ : Int) ≤ (bs.length : Int)) = True := eq_true (by omega)
            clear hat
            go_wp2_with (first
              | refine wpList_load_whole rfl 26 _ rfl _ rfl 26 _ _ HT.out Tryd.underlying26 rfl sizePk ?_)
            refine HEq.out.mono ?_
            rintro e w9 ⟨rfl, k⟩
            have HA9 := Lib.hid (HA8.out.past k)
            clear HA8 HL8 HEq HT k
            go_wp2_with fail
            go_ret
            exact ⟨rfl, HA9.out.old⟩
      · have HC := Lib.hid hc
        rw [encP_bad hc] at he hcap1 hl1
        subst he
        clear hcap1 hl1
        have hne : ((chk p : Int) == 0) = false := by simp [hc]
        clear hc
        go_wp2_with (first
    | refine wpList_load_whole rfl 26 _ rfl _ rfl 26 _ _ HA3.out.box Tryd.underlying26 rfl sizePk ?_)
        refine (check_any p Ai At Ak ci ct ck _ HA3.out.pack HOk.out.few HOk.out.size).mono ?_
        rintro e w4 ⟨rfl, k⟩
        have HA4 := Lib.hid (HA3.out.past k)
        clear HA3 k
        generalize chk p = cv at *
        clear HC
        cases sl with
        | false =>
          have HB0 := Lib.hid HA4.out.bytes
          have hlen9 : b.length ≤ 1000000000 := by omega
          go_wp2_with fail
          refine (decodeT_any b A cap w4 HB0.out hcap hlen9 HA4.out.err).mono ?_
          rintro e w5 ⟨q, Bi, Bt, Bk, di, dt, dk, rfl, hq, hqi, hqo, k⟩
          have ka := (Keeps.refl (fun _ => False) w5).alloc (.cells (pkC q Bi Bt Bk di dt dk) 26)
          have HA5 := Lib.hid (HA4.out.past (k.trans ka))
          have HL5 := Lib.hid ((HB0.out).pastK (k.trans ka))
          have HT := Lib.hid (Whole.made w5 26 (pkC q Bi Bt Bk di dt dk))
          have HQ := Lib.hid (hqi.past ka)
          have HQo := Lib.hid hqo
          clear hqi hqo k ka HA4 HB0
          by_cases hf : (decP b).2.1 = 0
          · obtain ⟨hc0, hpe, _, _⟩ := enc_dec hf
            rw [← hq] at hc0 hpe
            have HC0 := Lib.hid hc0
            have HPE := Lib.hid hpe
            rw [hf]
            generalize (decP b).2.2 = at_
            clear hq hf hc0 hpe
            unfold pkC at HT HA5 HL5 HQ ⊢
            go_wp2_with (first
              | refine wpList_load_whole rfl 26 _ rfl _ rfl 26 _ _ HT.out Tryd.underlying26 rfl sizePk ?_)
            generalize w5.alloc _ = w5 at *
            refine (encodeT_any q Bi Bt Bk di dt dk _ HQ.out HQo.out).mono ?_
            rintro e w6 ⟨A2, cap2, he, hcap2, hl2, k⟩
            rw [encP_ok HC0.out] at he hcap2 hl2
            simp only [] at he hcap2 hl2
            rw [HPE.out] at he hcap2 hl2
            subst he
            have HA6 := Lib.hid (HA5.out.past k)
            have HL6 := Lib.hid (HL5.out.pastK k)
            have HD6 := Lib.hid hl2
            have HT2 := Lib.hid (HT.out.keeps k id)
            have HQ2 := Lib.hid (HQ.out.past k)
            clear HA5 HL5 HT HQ k hl2 hcap2
            go_wp2_with (first
              | refine wpList_load_whole rfl 26 _ rfl _ rfl 26 _ _ HT2.out Tryd.underlying26 rfl sizePk ?_)
            refine (check_any q Bi Bt Bk di dt dk _ HQ2.out HQo.out.few HQo.out.size).mono ?_
            rintro e w7 ⟨rfl, k⟩
            rw [HC0.out]
            have HA7 := Lib.hid (HA6.out.past k)
            have HL7 := Lib.hid (HL6.out.pastK k)
            have HD7 := Lib.hid (HD6.out.pastK k)
            clear HA6 HL6 HD6 HT2 HQ2 k
            go_wp2_with fail
            refine (eqBytes_any b b A2 A _ _ cap2 cap _ HD7.out HL7.out (by omega)).mono ?_
            rintro e w8 ⟨rfl, k⟩
            have HA8 := Lib.hid (HA7.out.past (keepsAll k))
            clear HA7 HL7 HD7 k
            rw [decide_eq_true rfl]
            go_wp2_with fail
            go_ret
            exact ⟨rfl, HA8.out.old⟩
          · obtain ⟨hz, hat⟩ := dec_bad hf
            rw [hz] at hq
            subst hq
            have hfn : (((decP b).2.1 : Int) != 0) = true := by simp [hf]
            have HEq := Lib.hid (eqT_same zeroPk _ _ _ none none none di dt dk 0 0 0 _ HQ.out (zeroPk_in _ _) zeroPk_ok.few)
            clear hz hf HQ
            generalize (decP b).2.2 = at_ at *
            generalize (decP b).2.1 = fv at *
            unfold pkC at HT HA5 HL5 HEq ⊢
            have hat0 : ((at_ : Int) ≤ (b.length : Int)) = True := eq_true (by omega)
            clear hat
            go_wp2_with (first
              | refine wpList_load_whole rfl 26 _ rfl _ rfl 26 _ _ HT.out Tryd.underlying26 rfl sizePk ?_)
            refine HEq.out.mono ?_
            rintro e w6 ⟨rfl, k⟩
            have HA6 := Lib.hid (HA5.out.past k)
            clear HA5 HL5 HEq HT k
            go_wp2_with fail
            go_ret
            exact ⟨rfl, HA6.out.old⟩
        | true =>
          go_wp2_with fail
          refine (sealedT_any b A cap _ HA4.out.bytes (by omega)).mono ?_
          rintro e w5 ⟨A9, cap9, he, hcap9, hl9, k⟩
          have hlen9 : (sealedL b).length ≤ 1000000000 := by rw [sealedL_length]; omega
          have HA5 := Lib.hid (HA4.out.past k)
          have HB0 := Lib.hid hl9
          clear HA4 hl9 k
          generalize sealedL b = bs at *
          subst he
          go_wp2_with fail
          refine (decodeT_any bs A9 cap9 w5 HB0.out hcap9 hlen9 HA5.out.err).mono ?_
          rintro e w6 ⟨q, Bi, Bt, Bk, di, dt, dk, rfl, hq, hqi, hqo, k⟩
          have ka := (Keeps.refl (fun _ => False) w6).alloc (.cells (pkC q Bi Bt Bk di dt dk) 26)
          have HA6 := Lib.hid (HA5.out.past (k.trans ka))
          have HL6 := Lib.hid ((HB0.out).pastK (k.trans ka))
          have HT := Lib.hid (Whole.made w6 26 (pkC q Bi Bt Bk di dt dk))
          have HQ := Lib.hid (hqi.past ka)
          have HQo := Lib.hid hqo
          clear hqi hqo k ka HA5 HB0
          by_cases hf : (decP bs).2.1 = 0
          · obtain ⟨hc0, hpe, _, _⟩ := enc_dec hf
            rw [← hq] at hc0 hpe
            have HC0 := Lib.hid hc0
            have HPE := Lib.hid hpe
            rw [hf]
            generalize (decP bs).2.2 = at_
            clear hq hf hc0 hpe
            unfold pkC at HT HA6 HL6 HQ ⊢
            go_wp2_with (first
              | refine wpList_load_whole rfl 26 _ rfl _ rfl 26 _ _ HT.out Tryd.underlying26 rfl sizePk ?_)
            generalize w6.alloc _ = w6 at *
            refine (encodeT_any q Bi Bt Bk di dt dk _ HQ.out HQo.out).mono ?_
            rintro e w7 ⟨A2, cap2, he, hcap2, hl2, k⟩
            rw [encP_ok HC0.out] at he hcap2 hl2
            simp only [] at he hcap2 hl2
            rw [HPE.out] at he hcap2 hl2
            subst he
            have HA7 := Lib.hid (HA6.out.past k)
            have HL7 := Lib.hid (HL6.out.pastK k)
            have HD7 := Lib.hid hl2
            have HT2 := Lib.hid (HT.out.keeps k id)
            have HQ2 := Lib.hid (HQ.out.past k)
            clear HA6 HL6 HT HQ k hl2 hcap2
            go_wp2_with (first
              | refine wpList_load_whole rfl 26 _ rfl _ rfl 26 _ _ HT2.out Tryd.underlying26 rfl sizePk ?_)
            refine (check_any q Bi Bt Bk di dt dk _ HQ2.out HQo.out.few HQo.out.size).mono ?_
            rintro e w8 ⟨rfl, k⟩
            rw [HC0.out]
            have HA8 := Lib.hid (HA7.out.past k)
            have HL8 := Lib.hid (HL7.out.pastK k)
            have HD8 := Lib.hid (HD7.out.pastK k)
            clear HA7 HL7 HD7 HT2 HQ2 k
            go_wp2_with fail
            refine (eqBytes_any bs bs A2 A9 _ _ cap2 cap9 _ HD8.out HL8.out (by omega)).mono ?_
            rintro e w9 ⟨rfl, k⟩
            have HA9 := Lib.hid (HA8.out.past (keepsAll k))
            clear HA8 HL8 HD8 k
            rw [decide_eq_true rfl]
            go_wp2_with fail
            go_ret
            exact ⟨rfl, HA9.out.old⟩
          · obtain ⟨hz, hat⟩ := dec_bad hf
            rw [hz] at hq
            subst hq
            have hfn : (((decP bs).2.1 : Int) != 0) = true := by simp [hf]
            have HEq := Lib.hid (eqT_same zeroPk _ _ _ none none none di dt dk 0 0 0 _ HQ.out (zeroPk_in _ _) zeroPk_ok.few)
            clear hz hf HQ
            generalize (decP bs).2.2 = at_ at *
            generalize (decP bs).2.1 = fv at *
            unfold pkC at HT HA6 HL6 HEq ⊢
            have hat0 : ((at_ : Int) ≤ (bs.length : Int)) = True := eq_true (by omega)
            clear hat
            go_wp2_with (first
              | refine wpList_load_whole rfl 26 _ rfl _ rfl 26 _ _ HT.out Tryd.underlying26 rfl sizePk ?_)
            refine HEq.out.mono ?_
            rintro e w7 ⟨rfl, k⟩
            have HA7 := Lib.hid (HA6.out.past k)
            clear HA6 HL6 HEq HT k
            go_wp2_with fail
            go_ret
            exact ⟨rfl, HA7.out.old⟩
    · go_wp2_with fail
      go_ret
      exact ⟨rfl, HA2.out.old⟩
end Go.Proofs.YtcmbdnjcfneinaaDoor
