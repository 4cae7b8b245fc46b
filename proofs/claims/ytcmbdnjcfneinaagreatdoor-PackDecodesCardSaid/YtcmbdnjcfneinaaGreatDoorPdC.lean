/-
  The law PackDecodes: the walk. Conditions: lengths within 2 ^ 47; errors.errorType and the table of powers of ten are as Go lays them.
-/
import Derived.Test.YtcmbdnjcfneinaaGreatDoorPgD
import Derived.Test.YtcmbdnjcfneinaaGreatDoorLaM
import Derived.Test.YtcmbdnjcfneinaaGreatDoorEqM
import Derived.StillTailTactics
namespace Go.Proofs.YtcmbdnjcfneinaaGreatDoor
open Go.RowKit
theorem sizePkD : (Tryz.prog.info? 26).map (·.size) = some 4 := by kernel_rfl
/-- The bytes with their marks, two packs, what they should be: each in a box. -/
structure Pd0 (wS W : World) (gi : Nat) (cs : Array Value) (x y : PPk) (B C : Nat) (p : Pk) (A1 A2 A3 : Option Addr) (c1 c2 c3 n5 b1 b2 b3 : Nat) : Prop where
  sep : Sep wS W (Loc.box gi 5 cs :: (x.locs B ++ y.locs C))
  x1 : Whole W b1 26 x.vals
  x2 : Whole W b2 26 y.vals
  x3 : Whole W b3 26 (pkC p A1 A2 A3 c1 c2 c3)
  o1 : OLo W n5 (.slice A1 p.ints.length c1) p.ints
  o2 : OTx W n5 (.slice A2 p.texts.length c2) p.texts
  o3 : OKd W n5 (.slice A3 p.kinds.length c3) p.kinds
  lt : gi < n5 ∧ gi < b1 ∧ gi < b2 ∧ gi < b3
section
variable {wS W W' : World} {gi : Nat} {cs : Array Value} {x y : PPk} {B C : Nat} {p : Pk} {A1 A2 A3 : Option Addr} {c1 c2 c3 n5 b1 b2 b3 : Nat}
theorem Pd0.calm (h : Pd0 wS W gi cs x y B C p A1 A2 A3 c1 c2 c3 n5 b1 b2 b3) (k : Keeps (fun _ => False) W W') : Pd0 wS W' gi cs x y B C p A1 A2 A3 c1 c2 c3 n5 b1 b2 b3 :=
  ⟨h.sep.past k, h.x1.keeps k id, h.x2.keeps k id, h.x3.keeps k id, h.o1.keeps k (fun _ _ => id), h.o2.keeps k (fun _ _ => id), h.o3.keeps k (fun _ _ => id), h.lt⟩
theorem Pd0.put (h : Pd0 wS W gi cs x y B C p A1 A2 A3 c1 c2 c3 n5 b1 b2 b3) (i : Nat) (u : Value) : Pd0 wS (W.setCell ⟨gi, i, none⟩ u) gi (cs.setIfInBounds i u) x y B C p A1 A2 A3 c1 c2 c3 n5 b1 b2 b3 := by
  have k : Keeps (fun k => k = gi) W (W.setCell ⟨gi, i, none⟩ u) := (Keeps.refl (fun k => k = gi) W).setCell (p := ⟨gi, i, none⟩) (fun _ => rfl) u
  have hl := h.lt
  exact ⟨h.sep.cell 0 rfl i u, h.x1.keeps k (by omega), h.x2.keeps k (by omega), h.x3.keeps k (by omega), h.o1.keeps k (fun b hb e => by omega), h.o2.keeps k (fun b hb e => by omega), h.o3.keeps k (fun b hb e => by omega), h.lt⟩
theorem Pd0.box (h : Pd0 wS W gi cs x y B C p A1 A2 A3 c1 c2 c3 n5 b1 b2 b3) : Whole W gi 5 cs := h.sep.box_at 0 rfl
theorem Pd0.two (h : Pd0 wS W gi cs x y B C p A1 A2 A3 c1 c2 c3 n5 b1 b2 b3) : Sep wS W (x.locs B ++ y.locs C) := h.sep.drop1
theorem Pd0.lx (h : Pd0 wS W gi cs x y B C p A1 A2 A3 c1 c2 c3 n5 b1 b2 b3) : Sep wS W (x.locs B) := h.two.sub (List.sublist_append_left _ _)
theorem Pd0.ly (h : Pd0 wS W gi cs x y B C p A1 A2 A3 c1 c2 c3 n5 b1 b2 b3) : Sep wS W (y.locs C) := h.two.sub (List.sublist_append_right _ _)
theorem Pd0.lp (h : Pd0 wS W gi cs x y B C p A1 A2 A3 c1 c2 c3 n5 b1 b2 b3) : PkIn W W.heap.size p A1 A2 A3 := opk_lie h.o1 h.o2 h.o3
theorem eqPk_same {z : PPk} {D : Nat} {w0 : World} (hz : Sep w0 W (z.locs D)) (hp : PkIn W W.heap.size p A1 A2 A3) (hm : PkFew (toPk z.x)) (he : toPk z.x = p) :
    Calls Tryz.prog 11 #[.agg z.vals, .agg (pkC p A1 A2 A3 c1 c2 c3)] W fun r w' => r = .returned (.bool true) ∧ Keeps (fun _ => False) W w' := by
  rw [PPk.pkC]
  refine (eqPack_any (toPk z.x) p z.Ai z.At z.Ak A1 A2 A3 z.ci z.ct z.ck c1 c2 c3 W (z.lies hz) hp hm (he ▸ hm)).mono ?_
  rintro r w' ⟨v, rfl, hv, hk⟩
  rw [hv.2 he]
  exact ⟨rfl, hk⟩
end
/-- A pack may be laid into the bag at q. -/
def PackAt (w : World) (q : Nat) (x : PPk) : Prop := Lies w q x.Ak (kndVals x.ks) ∧ ∀ k ∈ x.ks, KdAt w q k
theorem PackAt.keeps {w w' : World} {q : Nat} {x : PPk} (h : PackAt w q x) (hk : Keeps (BagG q w) w w') (hq : q ≤ w.heap.size) : PackAt w' q x :=
  ⟨h.1.keep (fun b o hb => hk.cell (by omega) (fun e => by have := e.1; omega)), fun k hk' => (h.2 k hk').keeps hk hq⟩
set_option maxRecDepth 100000 in
set_option maxHeartbeats 4000000 in
theorem packDecodes_any (b : List Oct) (sl : Bool) (A : Option Addr) (cap : Nat) (w : World) (hl : Lies w w.heap.size A (bytesV b)) (hcap : b.length ≤ cap) (hb : b.length ≤ 140737488351232) (hg : ErrT w) (hp : Pow w) :
    Calls Tryz.prog 4 #[.slice A b.length cap, .bool sl] w fun e w' => e = .returned (.bool true) ∧ Keeps (fun _ => False) w w' := by
  have HL := Lib.hid hl
  have HG := Lib.hid hg
  have HP := Lib.hid hp
  have HC := Lib.hid hcap
  clear hl hg hp hcap
  go_enter Tryz.func4, Tryz.ntmps4
  go_wp2_with fail
  refine (works19_any w HG.out).mono ?_
  rintro e w1 ⟨rfl, k1⟩
  replace HL := Lib.hid (HL.out.pastK k1)
  replace HG := Lib.hid (HG.out.keeps k1)
  replace HP := Lib.hid (HP.out.past k1)
  have KW := Lib.hid k1
  clear k1
  by_cases hbig : 4194304 < b.length
  · have hbigI : (4194304 : Int) < (b.length : Int) := by omega
    go_wp2_with fail
    go_ret
    exact ⟨rfl, KW.out⟩
  · have hbigI : ¬ (4194304 : Int) < (b.length : Int) := by omega
    cases sl with
    | false =>
      have HM : Hid (b.length ≤ 4194308) := Lib.hid (by omega)
      clear hbig hb
      have hm : b.length ≤ 4194308 := HM.out
      have hcap : b.length ≤ cap := HC.out
      go_wp2_with fail
      refine (wideBytes_any b A w1.heap.size cap w1 HL.out (Nat.le_refl _) (by omega)).mono ?_
      rintro e v1 ⟨rfl, hv1⟩
      have QS : Hid (Sep w1 v1 [Loc.box w1.heap.size 5 (wideB b)]) := Lib.hid (hv1 ▸ (Sep.start w1).make 5 (wideB b))
      clear hv1
      have HI := fun W (hW : Whole W w1.heap.size 5 (wideB b)) (hE : ErrT W) => decode_any b (some ⟨w1.heap.size, 0, none⟩) (b.length + 64) W (wideB_lies b hW hW.inside) (by omega) (by omega) hE
      have HDI := Lib.hid HI
      clear HI
      have HE1 := Lib.hid (HG.out.keeps QS.out.old)
      obtain ⟨gi, hgi⟩ : ∃ g, g = w1.heap.size := ⟨_, rfl⟩
      rw [← hgi] at QS HDI ⊢
      have HGI := Lib.hid hgi
      clear hgi
      obtain ⟨ev, hev⟩ : ∃ e, e = (decP b).2.1 := ⟨_, rfl⟩
      obtain ⟨pl, hpl⟩ : ∃ e, e = (decP b).2.2 := ⟨_, rfl⟩
      rw [← hev, ← hpl] at HDI
      have HRF := Lib.hid (fun W (hW : Lies W W.heap.size A (bytesV b)) => decode_ref b A cap W hW hcap (by omega))
      rw [← hev, ← hpl] at HRF
      clear hev hpl
      go_wp2_with fail
      refine (HDI.out v1 (QS.out.box_at 0 rfl) HE1.out).mono ?_
      rintro e v2 ⟨cs1, rfl, hdo⟩
      obtain ⟨x, B, rfl, hex, hsx, hfx, hkx, hhx⟩ := dec_own hdo
      have hva : x.vals = #[.int .i64 x.cards, .slice x.Ai x.ints.length x.ci, .slice x.At x.texts.length x.ct, .slice x.Ak x.ks.length x.ck] := rfl
      have HVx := Lib.hid hva
      have ka := (Keeps.refl (fun _ => False) v2).alloc (.cells x.vals 26)
      have Xx := Lib.hid (Whole.made v2 26 x.vals)
      replace HE1 := Lib.hid ((HE1.out.keeps hsx.old).keeps ka)
      have LTx : Hid (gi < v2.heap.size) := Lib.hid (by
        have h1 := (QS.out.box_at 0 rfl : Whole v1 gi 5 (wideB b)).inside
        have h2 := hsx.old.size
        omega)
      replace QS := Lib.hid ((QS.out.cat hsx).past ka)
      have HSx := Lib.hid (And.intro hex (And.intro hfx (And.intro hkx hhx)))
      clear hdo hex hsx hfx hkx hhx ka hva
      rw [HVx.out] at Xx QS HE1  ⊢
      go_wp2_with fail
      generalize v2.alloc _ = v3 at *
      generalize v2.heap.size = bx at *
      rw [← HVx.out] at Xx
      refine (HDI.out v3 (QS.out.box_at 0 rfl) HE1.out).mono ?_
      rintro e v4 ⟨cs3, rfl, hdo⟩
      obtain ⟨y, C, rfl, hey, hsy, hfy, hky, hhy⟩ := dec_own hdo
      have hva : y.vals = #[.int .i64 y.cards, .slice y.Ai y.ints.length y.ci, .slice y.At y.texts.length y.ct, .slice y.Ak y.ks.length y.ck] := rfl
      have HVy := Lib.hid hva
      have ka := (Keeps.refl (fun _ => False) v4).alloc (.cells y.vals 26)
      have Xy := Lib.hid (Whole.made v4 26 y.vals)
      replace Xx := Lib.hid ((Xx.out.keeps hsy.old id).keeps ka id)
      replace HE1 := Lib.hid ((HE1.out.keeps hsy.old).keeps ka)
      have LTy : Hid (gi < v4.heap.size) := Lib.hid (by
        have h1 := (QS.out.box_at 0 rfl : Whole v3 gi 5 (wideB b)).inside
        have h2 := hsy.old.size
        omega)
      replace QS := Lib.hid ((QS.out.cat hsy).past ka)
      have HSy := Lib.hid (And.intro hey (And.intro hfy (And.intro hky hhy)))
      clear hdo hey hsy hfy hky hhy ka hva
      rw [HVy.out] at Xy QS HE1 Xx ⊢
      go_wp2_with fail
      generalize v4.alloc _ = v5 at *
      generalize v4.heap.size = bq at *
      rw [← HVy.out] at Xy
      refine (HRF.out v5 ((HL.out.pastK QS.out.old))).mono ?_
      rintro e v6 ⟨p, A1, A2, A3, c1, c2, c3, rfl, hpe, o1, o2, o3, k6⟩
      have ka := (Keeps.refl (fun _ => False) v6).alloc (.cells (pkC p A1 A2 A3 c1 c2 c3) 26)
      have hxp : toPk x.x = p := HSx.out.1.trans hpe.symm
      have hyp : toPk y.x = p := HSy.out.1.trans hpe.symm
      have O : Hid (Pd0 w1 (v6.alloc (.cells (pkC p A1 A2 A3 c1 c2 c3) 26)) gi (wideB b) x y B C p A1 A2 A3 c1 c2 c3 v5.heap.size bx bq v6.heap.size) := Lib.hid ⟨by have h := (QS.out.past k6).past ka; rw [List.append_assoc] at h; exact h, (Xx.out.keeps k6 id).keeps ka id, (Xy.out.keeps k6 id).keeps ka id, Whole.made v6 _ _, o1.keeps ka (fun _ _ => id), o2.keeps ka (fun _ _ => id), o3.keeps ka (fun _ _ => id), by
        have h1 := LTx.out; have h2 := LTy.out; have h3 := k6.size
        have h4 := (QS.out.box_at 0 rfl : Whole v5 gi 5 (wideB b)).inside
        omega⟩
      have HXP := Lib.hid hxp
      have HYP := Lib.hid hyp
      have hpv : pkC p A1 A2 A3 c1 c2 c3 = #[.int .i64 p.cards, .slice A1 p.ints.length c1, .slice A2 p.texts.length c2, .slice A3 p.kinds.length c3] := rfl
      have HPV := Lib.hid hpv
      clear hpe o1 o2 o3 k6 ka hxp hyp QS Xx Xy HE1 HDI HRF LTx LTy hpv
      rw [HPV.out] at O ⊢
      go_wp2_with fail
      generalize v6.alloc _ = v7 at *
      generalize v6.heap.size = b3 at *
      generalize v5.heap.size = n5 at *
      have HEB := eqBytes_any b b (some ⟨gi, 0, none⟩) A v7.heap.size v7.heap.size (b.length + 64) cap v7 (wideB_lies b O.out.box O.out.box.inside) (HL.out.pastK O.out.two.old) (by omega)
      simp only [decide_true] at HEB
      refine HEB.mono ?_
      rintro e v8 ⟨rfl, hbe⟩
      have kk : Keeps (fun _ => False) v7 v8 := keepsAll hbe
      replace O := Lib.hid (O.out.calm kk)
      clear kk hbe HEB HL
      go_wp2_with fail
      refine (spareBytes_any b gi v8 O.out.box (by omega)).mono ?_
      rintro e v9 ⟨rfl, rfl⟩
      have qe : ((ev : Int) != (ev : Int)) = false := by simp
      have qp : ((pl : Int) != (pl : Int)) = false := by simp
      go_wp2_with (first | refine wpList_load_whole rfl 26 _ rfl _ rfl 26 _ _ O.out.x1 Tryz.underlying26 rfl sizePkD ?_ | refine wpList_load_whole rfl 26 _ rfl _ rfl 26 _ _ O.out.x3 Tryz.underlying26 rfl sizePkD ?_)
      refine (eqPk_same O.out.lx O.out.lp HSx.out.2.1 HXP.out).mono ?_
      rintro e u1 ⟨rfl, kk⟩
      replace O := Lib.hid (O.out.calm kk)
      clear kk
      go_wp2_with (first | refine wpList_load_whole rfl 26 _ rfl _ rfl 26 _ _ O.out.x2 Tryz.underlying26 rfl sizePkD ?_ | refine wpList_load_whole rfl 26 _ rfl _ rfl 26 _ _ O.out.x3 Tryz.underlying26 rfl sizePkD ?_)
      refine (eqPk_same O.out.ly O.out.lp HSy.out.2.1 HYP.out).mono ?_
      rintro e u2 ⟨rfl, kk⟩
      replace O := Lib.hid (O.out.calm kk)
      clear kk
      go_wp2_with fail
      clear qe qp
      go_loopw [17] (fun vi wr => ∃ (i : Nat) (cs : Array Value), i ≤ b.length ∧ vi = .int .i64 i ∧ cs.size = b.length + 64 ∧ Hid (Pd0 w1 wr gi cs x y B C p A1 A2 A3 c1 c2 c3 n5 bx bq b3)) (fun vi _ => b.length - (intOf vi).toNat)
      case atStart => exact ⟨0, _, Nat.zero_le _, rfl, wideB_size b, O⟩
      case round =>
        clear O
        obtain ⟨i, cs, hi, rfl, hcs, O⟩ := hrel
        by_cases hlt : i < b.length
        · obtain ⟨u, hu⟩ : ∃ u, wr.cell? ⟨gi, i, none⟩ = some u := ⟨_, (O.out.box.cellAt i).trans (Array.getElem?_eq_getElem (by omega))⟩
          have hfr := O.out.box.free i
          have O2 := Lib.hid (O.out.put i (.int .u8 238))
          clear O
          go_wp2_with fail
          go_roundw
          case rel => exact ⟨i + 1, _, by omega, by go_num, by rw [Array.size_setIfInBounds]; exact hcs, O2⟩
          case measure => simp [intOf]; omega
        · obtain rfl : i = b.length := by omega
          go_wp2_with (first | refine wpList_load_whole rfl 26 _ rfl _ rfl 26 _ _ O.out.x1 Tryz.underlying26 rfl sizePkD ?_ | refine wpList_load_whole rfl 26 _ rfl _ rfl 26 _ _ O.out.x3 Tryz.underlying26 rfl sizePkD ?_)
          refine (eqPk_same O.out.lx O.out.lp HSx.out.2.1 HXP.out).mono ?_
          rintro e u3 ⟨rfl, kk⟩
          replace O := Lib.hid (O.out.calm kk)
          clear kk
          have HB0 : Hid (w1.heap.size ≤ u3.heap.size) := Lib.hid O.out.two.old.size
          have ka := (Keeps.refl (fun _ => False) u3).alloc (.cells bagNone 67)
          obtain ⟨hBT, hlow⟩ := BagT.start HSx.out.2.1 HSy.out.2.1 O.out.two
          have BT := Lib.hid hBT
          have HLW := Lib.hid hlow
          have HAX : Hid (PackAt (u3.alloc (.cells bagNone 67)) u3.heap.size x) := Lib.hid (PackAt.keeps (x := x) (PPk.at_ O.out.lx (Nat.le_refl _) HSx.out.2.2.2) (ka.mono fun _ _ h => h.elim) (Nat.le_refl _))
          have HAY : Hid (PackAt (u3.alloc (.cells bagNone 67)) u3.heap.size y) := Lib.hid (PackAt.keeps (x := y) (PPk.at_ O.out.ly (Nat.le_refl _) HSy.out.2.2.2) (ka.mono fun _ _ h => h.elim) (Nat.le_refl _))
          replace O := Lib.hid (O.out.calm ka)
          have KB : Hid (Keeps (fun _ => False) w1 (u3.alloc (.cells bagNone 67))) := Lib.hid O.out.two.old
          clear hBT hlow ka
          unfold bagNone at BT HAX HAY O KB
          go_wp2_with (first | refine wpList_load_whole rfl 26 _ rfl _ rfl 26 _ _ O.out.x1 Tryz.underlying26 rfl sizePkD ?_)
          have HBS : Hid (w1.heap.size ≤ u3.heap.size) := Lib.hid HB0.out
          have HPU : Hid (u3.heap.size < (u3.alloc (.cells #[.slice none 0 0, .slice none 0 0, .slice none 0 0, .slice none 0 0, .slice none 0 0, .slice none 0 0, .slice none 0 0, .slice none 0 0, .slice none 0 0, .slice none 0 0, .slice none 0 0, .slice none 0 0, .slice none 0 0, .slice none 0 0, .slice none 0 0, .slice none 0 0, .slice none 0 0, .slice none 0 0, .slice none 0 0, .slice none 0 0, .slice none 0 0] 67)).heap.size) := Lib.hid (by simp)
          generalize u3.alloc _ = u4 at *
          generalize u3.heap.size = pb at *
          refine (addPack_T x HSx.out.2.2.1 HAX.out.1 HAX.out.2 BT.out).mono ?_
          rintro e u5 ⟨rfl, hb, hk⟩
          replace BT := Lib.hid hb
          have KG := Lib.hid hk
          replace HAY := Lib.hid (HAY.out.keeps hk (Nat.le_of_lt HPU.out))
          have XY := Lib.hid (BagG.box hk O.out.x2 (by decide) (by decide))
          clear hb hk O HAX
          go_wp2_with (first | refine wpList_load_whole rfl 26 _ rfl _ rfl 26 _ _ XY.out Tryz.underlying26 rfl sizePkD ?_)
          refine (addPack_T (T := nul) y HSy.out.2.2.1 HAY.out.1 HAY.out.2 (by rw [app_nul]; exact BT.out)).mono ?_
          rintro e u6 ⟨rfl, hb, hk⟩
          replace BT := Lib.hid hb
          replace KG := Lib.hid (BagG.and KG.out hk)
          have K6 : Hid (Keeps (fun _ => False) w1 u6) := Lib.hid (KB.out.and KG.out (fun k hk h => by have := h.1; have := HBS.out; omega))
          clear hb hk HAY XY KG KB
          go_wp2_with fail
          refine (BT.out.apart (fun w1 hw => HP.out.past (K6.out.and hw (fun k hk h => by have := HLW.out k h; omega)))).mono ?_
          rintro e u7 ⟨rfl, hk⟩
          have K7 := Lib.hid (KW.out.trans (K6.out.and hk (fun k hk h => by have := HLW.out k h; omega)))
          clear hk K6 BT
          go_wp2_with fail
          go_ret
          exact ⟨rfl, K7.out⟩
    | true =>
      go_wp2_with fail
      refine (sealed_any b A w1.heap.size cap w1 HL.out (Nat.le_refl _) (by omega)).mono ?_
      rintro e w2 ⟨A', cap', rfl, hown, hbl⟩
      have k2 : Keeps (fun _ => False) w1 w2 := keepsAll hbl
      have HM0 := sealedL_length b
      obtain ⟨A2', cap2', e2, hc2, hl2⟩ := own_slice hown
      injection e2 with e2 _ e3
      subst e2 e3
      replace HL := Lib.hid (own_lies_q hown)
      replace HC := Lib.hid hc2
      replace HG := Lib.hid (HG.out.keeps k2)
      replace HP := Lib.hid (HP.out.past k2)
      replace KW := Lib.hid (KW.out.trans k2)
      have HM : Hid ((sealedL b).length ≤ 4194308) := Lib.hid (by omega)
      clear hown hbl k2 hl2 hc2 hbig hbigI hb HM0
      obtain ⟨b', hb'⟩ : ∃ l, l = sealedL b := ⟨_, rfl⟩
      rw [← hb'] at HL HC HM ⊢
      clear hb'
      have hm : b'.length ≤ 4194308 := HM.out
      have hcap : b'.length ≤ cap' := HC.out
      go_wp2_with fail
      refine (wideBytes_any b' A' w2.heap.size cap' w2 HL.out (Nat.le_refl _) (by omega)).mono ?_
      rintro e v1 ⟨rfl, hv1⟩
      have QS : Hid (Sep w2 v1 [Loc.box w2.heap.size 5 (wideB b')]) := Lib.hid (hv1 ▸ (Sep.start w2).make 5 (wideB b'))
      clear hv1
      have HI := fun W (hW : Whole W w2.heap.size 5 (wideB b')) (hE : ErrT W) => decode_any b' (some ⟨w2.heap.size, 0, none⟩) (b'.length + 64) W (wideB_lies b' hW hW.inside) (by omega) (by omega) hE
      have HDI := Lib.hid HI
      clear HI
      have HE1 := Lib.hid (HG.out.keeps QS.out.old)
      obtain ⟨gi, hgi⟩ : ∃ g, g = w2.heap.size := ⟨_, rfl⟩
      rw [← hgi] at QS HDI ⊢
      have HGI := Lib.hid hgi
      clear hgi
      obtain ⟨ev, hev⟩ : ∃ e, e = (decP b').2.1 := ⟨_, rfl⟩
      obtain ⟨pl, hpl⟩ : ∃ e, e = (decP b').2.2 := ⟨_, rfl⟩
      rw [← hev, ← hpl] at HDI
      have HRF := Lib.hid (fun W (hW : Lies W W.heap.size A' (bytesV b')) => decode_ref b' A' cap' W hW hcap (by omega))
      rw [← hev, ← hpl] at HRF
      clear hev hpl
      go_wp2_with fail
      refine (HDI.out v1 (QS.out.box_at 0 rfl) HE1.out).mono ?_
      rintro e v2 ⟨cs1, rfl, hdo⟩
      obtain ⟨x, B, rfl, hex, hsx, hfx, hkx, hhx⟩ := dec_own hdo
      have hva : x.vals = #[.int .i64 x.cards, .slice x.Ai x.ints.length x.ci, .slice x.At x.texts.length x.ct, .slice x.Ak x.ks.length x.ck] := rfl
      have HVx := Lib.hid hva
      have ka := (Keeps.refl (fun _ => False) v2).alloc (.cells x.vals 26)
      have Xx := Lib.hid (Whole.made v2 26 x.vals)
      replace HE1 := Lib.hid ((HE1.out.keeps hsx.old).keeps ka)
      have LTx : Hid (gi < v2.heap.size) := Lib.hid (by
        have h1 := (QS.out.box_at 0 rfl : Whole v1 gi 5 (wideB b')).inside
        have h2 := hsx.old.size
        omega)
      replace QS := Lib.hid ((QS.out.cat hsx).past ka)
      have HSx := Lib.hid (And.intro hex (And.intro hfx (And.intro hkx hhx)))
      clear hdo hex hsx hfx hkx hhx ka hva
      rw [HVx.out] at Xx QS HE1  ⊢
      go_wp2_with fail
      generalize v2.alloc _ = v3 at *
      generalize v2.heap.size = bx at *
      rw [← HVx.out] at Xx
      refine (HDI.out v3 (QS.out.box_at 0 rfl) HE1.out).mono ?_
      rintro e v4 ⟨cs3, rfl, hdo⟩
      obtain ⟨y, C, rfl, hey, hsy, hfy, hky, hhy⟩ := dec_own hdo
      have hva : y.vals = #[.int .i64 y.cards, .slice y.Ai y.ints.length y.ci, .slice y.At y.texts.length y.ct, .slice y.Ak y.ks.length y.ck] := rfl
      have HVy := Lib.hid hva
      have ka := (Keeps.refl (fun _ => False) v4).alloc (.cells y.vals 26)
      have Xy := Lib.hid (Whole.made v4 26 y.vals)
      replace Xx := Lib.hid ((Xx.out.keeps hsy.old id).keeps ka id)
      replace HE1 := Lib.hid ((HE1.out.keeps hsy.old).keeps ka)
      have LTy : Hid (gi < v4.heap.size) := Lib.hid (by
        have h1 := (QS.out.box_at 0 rfl : Whole v3 gi 5 (wideB b')).inside
        have h2 := hsy.old.size
        omega)
      replace QS := Lib.hid ((QS.out.cat hsy).past ka)
      have HSy := Lib.hid (And.intro hey (And.intro hfy (And.intro hky hhy)))
      clear hdo hey hsy hfy hky hhy ka hva
      rw [HVy.out] at Xy QS HE1 Xx ⊢
      go_wp2_with fail
      generalize v4.alloc _ = v5 at *
      generalize v4.heap.size = bq at *
      rw [← HVy.out] at Xy
      refine (HRF.out v5 ((HL.out.pastK QS.out.old))).mono ?_
      rintro e v6 ⟨p, A1, A2, A3, c1, c2, c3, rfl, hpe, o1, o2, o3, k6⟩
      have ka := (Keeps.refl (fun _ => False) v6).alloc (.cells (pkC p A1 A2 A3 c1 c2 c3) 26)
      have hxp : toPk x.x = p := HSx.out.1.trans hpe.symm
      have hyp : toPk y.x = p := HSy.out.1.trans hpe.symm
      have O : Hid (Pd0 w2 (v6.alloc (.cells (pkC p A1 A2 A3 c1 c2 c3) 26)) gi (wideB b') x y B C p A1 A2 A3 c1 c2 c3 v5.heap.size bx bq v6.heap.size) := Lib.hid ⟨by have h := (QS.out.past k6).past ka; rw [List.append_assoc] at h; exact h, (Xx.out.keeps k6 id).keeps ka id, (Xy.out.keeps k6 id).keeps ka id, Whole.made v6 _ _, o1.keeps ka (fun _ _ => id), o2.keeps ka (fun _ _ => id), o3.keeps ka (fun _ _ => id), by
        have h1 := LTx.out; have h2 := LTy.out; have h3 := k6.size
        have h4 := (QS.out.box_at 0 rfl : Whole v5 gi 5 (wideB b')).inside
        omega⟩
      have HXP := Lib.hid hxp
      have HYP := Lib.hid hyp
      have hpv : pkC p A1 A2 A3 c1 c2 c3 = #[.int .i64 p.cards, .slice A1 p.ints.length c1, .slice A2 p.texts.length c2, .slice A3 p.kinds.length c3] := rfl
      have HPV := Lib.hid hpv
      clear hpe o1 o2 o3 k6 ka hxp hyp QS Xx Xy HE1 HDI HRF LTx LTy hpv
      rw [HPV.out] at O ⊢
      go_wp2_with fail
      generalize v6.alloc _ = v7 at *
      generalize v6.heap.size = b3 at *
      generalize v5.heap.size = n5 at *
      have HEB := eqBytes_any b' b' (some ⟨gi, 0, none⟩) A' v7.heap.size v7.heap.size (b'.length + 64) cap' v7 (wideB_lies b' O.out.box O.out.box.inside) (HL.out.pastK O.out.two.old) (by omega)
      simp only [decide_true] at HEB
      refine HEB.mono ?_
      rintro e v8 ⟨rfl, hbe⟩
      have kk : Keeps (fun _ => False) v7 v8 := keepsAll hbe
      replace O := Lib.hid (O.out.calm kk)
      clear kk hbe HEB HL
      go_wp2_with fail
      refine (spareBytes_any b' gi v8 O.out.box (by omega)).mono ?_
      rintro e v9 ⟨rfl, rfl⟩
      have qe : ((ev : Int) != (ev : Int)) = false := by simp
      have qp : ((pl : Int) != (pl : Int)) = false := by simp
      go_wp2_with (first | refine wpList_load_whole rfl 26 _ rfl _ rfl 26 _ _ O.out.x1 Tryz.underlying26 rfl sizePkD ?_ | refine wpList_load_whole rfl 26 _ rfl _ rfl 26 _ _ O.out.x3 Tryz.underlying26 rfl sizePkD ?_)
      refine (eqPk_same O.out.lx O.out.lp HSx.out.2.1 HXP.out).mono ?_
      rintro e u1 ⟨rfl, kk⟩
      replace O := Lib.hid (O.out.calm kk)
      clear kk
      go_wp2_with (first | refine wpList_load_whole rfl 26 _ rfl _ rfl 26 _ _ O.out.x2 Tryz.underlying26 rfl sizePkD ?_ | refine wpList_load_whole rfl 26 _ rfl _ rfl 26 _ _ O.out.x3 Tryz.underlying26 rfl sizePkD ?_)
      refine (eqPk_same O.out.ly O.out.lp HSy.out.2.1 HYP.out).mono ?_
      rintro e u2 ⟨rfl, kk⟩
      replace O := Lib.hid (O.out.calm kk)
      clear kk
      go_wp2_with fail
      clear qe qp
      go_loopw [17] (fun vi wr => ∃ (i : Nat) (cs : Array Value), i ≤ b'.length ∧ vi = .int .i64 i ∧ cs.size = b'.length + 64 ∧ Hid (Pd0 w2 wr gi cs x y B C p A1 A2 A3 c1 c2 c3 n5 bx bq b3)) (fun vi _ => b'.length - (intOf vi).toNat)
      case atStart => exact ⟨0, _, Nat.zero_le _, rfl, wideB_size b', O⟩
      case round =>
        clear O
        obtain ⟨i, cs, hi, rfl, hcs, O⟩ := hrel
        by_cases hlt : i < b'.length
        · obtain ⟨u, hu⟩ : ∃ u, wr.cell? ⟨gi, i, none⟩ = some u := ⟨_, (O.out.box.cellAt i).trans (Array.getElem?_eq_getElem (by omega))⟩
          have hfr := O.out.box.free i
          have O2 := Lib.hid (O.out.put i (.int .u8 238))
          clear O
          go_wp2_with fail
          go_roundw
          case rel => exact ⟨i + 1, _, by omega, by go_num, by rw [Array.size_setIfInBounds]; exact hcs, O2⟩
          case measure => simp [intOf]; omega
        · obtain rfl : i = b'.length := by omega
          go_wp2_with (first | refine wpList_load_whole rfl 26 _ rfl _ rfl 26 _ _ O.out.x1 Tryz.underlying26 rfl sizePkD ?_ | refine wpList_load_whole rfl 26 _ rfl _ rfl 26 _ _ O.out.x3 Tryz.underlying26 rfl sizePkD ?_)
          refine (eqPk_same O.out.lx O.out.lp HSx.out.2.1 HXP.out).mono ?_
          rintro e u3 ⟨rfl, kk⟩
          replace O := Lib.hid (O.out.calm kk)
          clear kk
          have HB0 : Hid (w2.heap.size ≤ u3.heap.size) := Lib.hid O.out.two.old.size
          have ka := (Keeps.refl (fun _ => False) u3).alloc (.cells bagNone 67)
          obtain ⟨hBT, hlow⟩ := BagT.start HSx.out.2.1 HSy.out.2.1 O.out.two
          have BT := Lib.hid hBT
          have HLW := Lib.hid hlow
          have HAX : Hid (PackAt (u3.alloc (.cells bagNone 67)) u3.heap.size x) := Lib.hid (PackAt.keeps (x := x) (PPk.at_ O.out.lx (Nat.le_refl _) HSx.out.2.2.2) (ka.mono fun _ _ h => h.elim) (Nat.le_refl _))
          have HAY : Hid (PackAt (u3.alloc (.cells bagNone 67)) u3.heap.size y) := Lib.hid (PackAt.keeps (x := y) (PPk.at_ O.out.ly (Nat.le_refl _) HSy.out.2.2.2) (ka.mono fun _ _ h => h.elim) (Nat.le_refl _))
          replace O := Lib.hid (O.out.calm ka)
          have KB : Hid (Keeps (fun _ => False) w2 (u3.alloc (.cells bagNone 67))) := Lib.hid O.out.two.old
          clear hBT hlow ka
          unfold bagNone at BT HAX HAY O KB
          go_wp2_with (first | refine wpList_load_whole rfl 26 _ rfl _ rfl 26 _ _ O.out.x1 Tryz.underlying26 rfl sizePkD ?_)
          have HBS : Hid (w2.heap.size ≤ u3.heap.size) := Lib.hid HB0.out
          have HPU : Hid (u3.heap.size < (u3.alloc (.cells #[.slice none 0 0, .slice none 0 0, .slice none 0 0, .slice none 0 0, .slice none 0 0, .slice none 0 0, .slice none 0 0, .slice none 0 0, .slice none 0 0, .slice none 0 0, .slice none 0 0, .slice none 0 0, .slice none 0 0, .slice none 0 0, .slice none 0 0, .slice none 0 0, .slice none 0 0, .slice none 0 0, .slice none 0 0, .slice none 0 0, .slice none 0 0] 67)).heap.size) := Lib.hid (by simp)
          generalize u3.alloc _ = u4 at *
          generalize u3.heap.size = pb at *
          refine (addPack_T x HSx.out.2.2.1 HAX.out.1 HAX.out.2 BT.out).mono ?_
          rintro e u5 ⟨rfl, hb, hk⟩
          replace BT := Lib.hid hb
          have KG := Lib.hid hk
          replace HAY := Lib.hid (HAY.out.keeps hk (Nat.le_of_lt HPU.out))
          have XY := Lib.hid (BagG.box hk O.out.x2 (by decide) (by decide))
          clear hb hk O HAX
          go_wp2_with (first | refine wpList_load_whole rfl 26 _ rfl _ rfl 26 _ _ XY.out Tryz.underlying26 rfl sizePkD ?_)
          refine (addPack_T (T := nul) y HSy.out.2.2.1 HAY.out.1 HAY.out.2 (by rw [app_nul]; exact BT.out)).mono ?_
          rintro e u6 ⟨rfl, hb, hk⟩
          replace BT := Lib.hid hb
          replace KG := Lib.hid (BagG.and KG.out hk)
          have K6 : Hid (Keeps (fun _ => False) w2 u6) := Lib.hid (KB.out.and KG.out (fun k hk h => by have := h.1; have := HBS.out; omega))
          clear hb hk HAY XY KG KB
          go_wp2_with fail
          refine (BT.out.apart (fun w1 hw => HP.out.past (K6.out.and hw (fun k hk h => by have := HLW.out k h; omega)))).mono ?_
          rintro e u7 ⟨rfl, hk⟩
          have K7 := Lib.hid (KW.out.trans (K6.out.and hk (fun k hk h => by have := HLW.out k h; omega)))
          clear hk K6 BT
          go_wp2_with fail
          go_ret
          exact ⟨rfl, K7.out⟩
end Go.Proofs.YtcmbdnjcfneinaaGreatDoor
