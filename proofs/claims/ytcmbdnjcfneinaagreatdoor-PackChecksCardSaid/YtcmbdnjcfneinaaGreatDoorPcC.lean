/-
  The law PackChecks: the walk. Conditions: lengths within 2 ^ 47; errors.errorType and the table of powers of ten are as Go lays them.
-/
import Derived.Test.YtcmbdnjcfneinaaGreatDoorPcM
import Derived.StillTailTactics
namespace Go.Proofs.YtcmbdnjcfneinaaGreatDoor
open Go.RowKit
theorem sizePkC : (Tryz.prog.info? 26).map (·.size) = some 4 := by kernel_rfl
/-- The pack that came in, in its box. -/
structure Cs0 (w W : World) (p : Pk) (Ai At Ak : Option Addr) (ci ct ck : Nat) : Prop where
  keeps : Keeps (fun _ => False) w W
  box : Whole W w.heap.size 26 (pkC p Ai At Ak ci ct ck)
  src : PkIn W W.heap.size p Ai At Ak
  pow : Pow W
theorem Cs0.calm {w W W' : World} {p : Pk} {Ai At Ak : Option Addr} {ci ct ck : Nat} (h : Cs0 w W p Ai At Ak ci ct ck) (k : Keeps (fun _ => False) W W') : Cs0 w W' p Ai At Ak ci ct ck := ⟨h.keeps.trans k, h.box.keeps k id, h.src.past k, h.pow.past k⟩
/-- The marked copy, in its box. -/
structure Ci0 (w3 W : World) (n gi : Nat) (p : Pk) (Bi Bt Bk : Option Addr) (di dt dk : Nat) : Prop where
  keeps : Keeps (fun _ => False) w3 W
  box : Whole W gi 26 (pkC p Bi Bt Bk di dt dk)
  wide : WPk w3 n p Bi Bt Bk di dt dk
theorem Ci0.calm {w3 W W' : World} {n gi : Nat} {p : Pk} {Bi Bt Bk : Option Addr} {di dt dk : Nat} (h : Ci0 w3 W n gi p Bi Bt Bk di dt dk) (k : Keeps (fun _ => False) W W') : Ci0 w3 W' n gi p Bi Bt Bk di dt dk := ⟨h.keeps.trans k, h.box.keeps k id, h.wide⟩
theorem Ci0.lie {w3 W : World} {n gi : Nat} {p : Pk} {Bi Bt Bk : Option Addr} {di dt dk : Nat} (h : Ci0 w3 W n gi p Bi Bt Bk di dt dk) : PkIn W W.heap.size p Bi Bt Bk := (h.wide.keeps h.keeps (fun _ _ => id)).lie
theorem rng_i64 (z : Int) (h : InKind .i64 z) : InKind .i64 (z.tdiv 2) := by
  have h1 : -9223372036854775808 ≤ z := h.1
  have h2 : z ≤ 9223372036854775807 := h.2
  show -9223372036854775808 ≤ z.tdiv 2 ∧ z.tdiv 2 ≤ 9223372036854775807
  rcases Int.le_total 0 z with hz | hz
  · rw [Int.tdiv_eq_ediv_of_nonneg hz]; omega
  · have := Int.neg_tdiv z 2
    have h3 : (-z).tdiv 2 = (-z) / 2 := Int.tdiv_eq_ediv_of_nonneg (by omega)
    omega
theorem rng_bits (a b : Int) : InKind .i64 (bits .xor .i64 a b) := by
  show -9223372036854775808 ≤ bits .xor .i64 a b ∧ bits .xor .i64 a b ≤ 9223372036854775807
  unfold bits
  simp only [IntKind.wrap, IntKind.signed, IntKind.bits]
  simp
  split <;> omega
set_option maxRecDepth 100000 in
set_option maxHeartbeats 4000000 in
theorem packChecks_any (p : Pk) (Ai At Ak : Option Addr) (ci ct ck : Nat) (w : World) (hx : PkIn w w.heap.size p Ai At Ak) (hm : PkBig p) (hg : ErrT w) (hp : Pow w) :
    Calls Tryz.prog 3 #[.agg (pkC p Ai At Ak ci ct ck)] w fun e w' => e = .returned (.bool true) ∧ Keeps (fun _ => False) w w' := by
  have ka := (Keeps.refl (fun _ => False) w).alloc (.cells (pkC p Ai At Ak ci ct ck) 26)
  have S : Hid (Cs0 w (w.alloc (.cells (pkC p Ai At Ak ci ct ck) 26)) p Ai At Ak ci ct ck) := Lib.hid ⟨ka, Whole.made w _ _, hx.past ka, hp.past ka⟩
  have HG := Lib.hid (hg.keeps ka)
  have HBig := Lib.hid hm
  clear hx hm hg hp ka
  have hpkC : pkC p Ai At Ak ci ct ck = #[.int .i64 p.cards, .slice Ai p.ints.length ci, .slice At p.texts.length ct, .slice Ak p.kinds.length ck] := rfl
  have HPK := Lib.hid hpkC
  clear hpkC
  go_enter Tryz.func3, Tryz.ntmps3
  rw [HPK.out]
  rw [HPK.out] at S HG
  go_wp2_with fail
  generalize w.alloc _ = w0 at *
  refine (works19_any w0 HG.out).mono ?_
  rintro e w1 ⟨rfl, k1⟩
  replace S := Lib.hid (S.out.calm k1)
  clear HG k1
  go_wp2_with (first | refine wpList_load_whole rfl 26 _ rfl _ rfl 26 _ _ S.out.box Tryz.underlying26 rfl sizePkC ?_)
  refine (beyond_any p Ai At Ak ci ct ck w1 S.out.src HBig.out).mono ?_
  rintro e w2 ⟨v, rfl, hv, k2⟩
  replace S := Lib.hid (S.out.calm k2)
  clear k2
  cases v with
  | true =>
    clear hv
    go_wp2_with fail
    go_ret
    exact ⟨rfl, S.out.keeps⟩
  | false =>
    have HOk := Lib.hid (hv rfl)
    clear hv HBig
    go_wp2_with (first | refine wpList_load_whole rfl 26 _ rfl _ rfl 26 _ _ S.out.box Tryz.underlying26 rfl sizePkC ?_)
    refine (widePack_any p Ai At Ak ci ct ck w2 S.out.src.ints S.out.src.texts S.out.src.kinds HOk.out.few S.out.pow).mono ?_
    rintro e w3 ⟨Bi, Bt, Bk, di, dt, dk, rfl, q1, q2, q3, k3⟩
    have ka := (Keeps.refl (fun _ => False) w3).alloc (.cells (pkC p Bi Bt Bk di dt dk) 26)
    have D : Hid (Ci0 w3 (w3.alloc (.cells (pkC p Bi Bt Bk di dt dk) 26)) w2.heap.size w3.heap.size p Bi Bt Bk di dt dk) := Lib.hid ⟨ka, Whole.made w3 _ _, ⟨q1, q2, q3⟩⟩
    have hn0 : w.heap.size < w2.heap.size := S.out.box.inside
    have hn3 : w2.heap.size ≤ w3.heap.size := k3.size
    have HWB : Hid (w.heap.size ≤ w2.heap.size) := Lib.hid (Nat.le_of_lt hn0)
    replace S := Lib.hid (S.out.calm (k3.trans ka))
    have HZ4 : Hid (w3.heap.size + 1 ≤ (w3.alloc (.cells (pkC p Bi Bt Bk di dt dk) 26)).heap.size) := Lib.hid (by simp)
    clear q1 q2 q3 k3 ka
    have HPI : Hid (pkC p Bi Bt Bk di dt dk = #[.int .i64 p.cards, .slice Bi p.ints.length di, .slice Bt p.texts.length dt, .slice Bk p.kinds.length dk]) := Lib.hid rfl
    rw [HPI.out] at D S HZ4 ⊢
    have hgi : ∃ g, g = w3.heap.size := ⟨_, rfl⟩
    generalize w2.heap.size = n0 at *
    go_wp2_with (first | refine wpList_load_whole rfl 26 _ rfl _ rfl 26 _ _ D.out.box Tryz.underlying26 rfl sizePkC ?_)
    generalize w3.alloc _ = w4 at *
    refine (check_any p Bi Bt Bk di dt dk w4 D.out.lie HOk.out.few HOk.out.size).mono ?_
    rintro e w5 ⟨rfl, kk⟩
    replace S := Lib.hid (S.out.calm kk)
    replace D := Lib.hid (D.out.calm kk)
    have HZ5 := Lib.hid (Nat.le_trans HZ4.out kk.size)
    clear kk HZ4
    have HLL := encP_len p
    have HE := Lib.hid (fun W (A D Z : Option Addr) (a d z : Nat) (h : PkIn W W.heap.size p A D Z) => encodeO_any p A D Z a d z W h HOk.out)
    have HR := Lib.hid (fun W (A D Z : Option Addr) (a d z : Nat) (h : PkIn W W.heap.size p A D Z) => encode_ref p A D Z a d z W h HOk.out.few HOk.out.size)
    unfold EncO at HE HR
    rw [encP_two p] at HE HR
    generalize (encP p).1 = l at *
    generalize chk p = z at *
    go_wp2_with (first | refine wpList_load_whole rfl 26 _ rfl _ rfl 26 _ _ D.out.box Tryz.underlying26 rfl sizePkC ?_)
    refine (HE.out w5 _ _ _ _ _ _ D.out.lie).mono ?_
    rintro e w6 ⟨A1, c1, rfl, hb, kk⟩
    replace S := Lib.hid (S.out.calm kk)
    replace D := Lib.hid (D.out.calm kk)
    have P1 := Lib.hid hb
    have L1 := Lib.hid (Byt.lt_ hb)
    have HZ6 := Lib.hid (Nat.le_trans HZ5.out kk.size)
    have HS6 := Lib.hid kk.size
    clear hb kk
    go_wp2_with (first | refine wpList_load_whole rfl 26 _ rfl _ rfl 26 _ _ D.out.box Tryz.underlying26 rfl sizePkC ?_)
    refine (HE.out w6 _ _ _ _ _ _ D.out.lie).mono ?_
    rintro e w7 ⟨A2, c2, rfl, hb, kk⟩
    replace S := Lib.hid (S.out.calm kk)
    replace D := Lib.hid (D.out.calm kk)
    have P2 := Lib.hid hb
    have L2 := Lib.hid (Byt.lt_ hb)
    have HZ7 := Lib.hid (Nat.le_trans HZ6.out kk.size)
    have HS7 := Lib.hid kk.size
    replace P1 := Lib.hid (own_keepsS P1.out kk (fun _ _ => id))
    clear hb kk
    go_wp2_with (first | refine wpList_load_whole rfl 26 _ rfl _ rfl 26 _ _ S.out.box Tryz.underlying26 rfl sizePkC ?_)
    refine (HR.out w7 _ _ _ _ _ _ S.out.src).mono ?_
    rintro e w8 ⟨A3, c3, rfl, hb, kk⟩
    replace S := Lib.hid (S.out.calm kk)
    replace D := Lib.hid (D.out.calm kk)
    have P3 := Lib.hid hb
    have L3 := Lib.hid (Byt.lt_ hb)
    have HZ8 := Lib.hid (Nat.le_trans HZ7.out kk.size)
    have HS8 := Lib.hid kk.size
    replace P1 := Lib.hid (own_keepsS P1.out kk (fun _ _ => id))
    replace P2 := Lib.hid (own_keepsS P2.out kk (fun _ _ => id))
    clear hb kk
    clear HE HR
    go_wp2_with (first | refine wpList_load_whole rfl 26 _ rfl _ rfl 26 _ _ D.out.box Tryz.underlying26 rfl sizePkC ?_ | refine wpList_load_whole rfl 26 _ rfl _ rfl 26 _ _ S.out.box Tryz.underlying26 rfl sizePkC ?_)
    refine (eqT_same p Bi Bt Bk Ai At Ak di dt dk ci ct ck w8 D.out.lie S.out.src HOk.out.few).mono ?_
    rintro e w9 ⟨rfl, kk⟩
    replace S := Lib.hid (S.out.calm kk)
    replace D := Lib.hid (D.out.calm kk)
    replace P1 := Lib.hid (own_keepsS P1.out kk (fun _ _ => id))
    replace P2 := Lib.hid (own_keepsS P2.out kk (fun _ _ => id))
    replace P3 := Lib.hid (own_keepsS P3.out kk (fun _ _ => id))
    have HZ9 := Lib.hid (Nat.le_trans HZ8.out kk.size)
    have HT : Hid (w7.heap.size ≤ w9.heap.size) := Lib.hid (Nat.le_trans HS8.out kk.size)
    clear kk
    go_wp2_with (first | refine wpList_load_whole rfl 26 _ rfl _ rfl 26 _ _ D.out.box Tryz.underlying26 rfl sizePkC ?_)
    have HWD := D.out.wide.keeps D.out.keeps (fun _ _ => id)
    refine (sparePack_any p Bi Bt Bk di dt dk w9 n0 HWD.ints HWD.texts HWD.kinds HOk.out.few S.out.pow).mono ?_
    clear HWD
    rintro e w10 ⟨rfl, kk⟩
    replace S := Lib.hid (S.out.calm kk)
    replace D := Lib.hid (D.out.calm kk)
    replace P1 := Lib.hid (own_keepsS P1.out kk (fun _ _ => id))
    replace P2 := Lib.hid (own_keepsS P2.out kk (fun _ _ => id))
    replace P3 := Lib.hid (own_keepsS P3.out kk (fun _ _ => id))
    have HZ10 := Lib.hid (Nat.le_trans HZ9.out kk.size)
    replace HT := Lib.hid (Nat.le_trans HT.out kk.size)
    clear kk HZ9
    have qz : ((z : Int) == (z : Int)) = true := by simp
    go_wp2_with fail
    have HEB := eqBytes_any l l A1 A3 w10.heap.size w10.heap.size c1 c3 w10 (own_lies P1.out) (own_lies P3.out) (by omega)
    simp only [decide_true] at HEB
    refine HEB.mono ?_
    rintro e w11 ⟨rfl, hbe⟩
    have kk : Keeps (fun _ => False) w10 w11 := keepsAll hbe
    replace S := Lib.hid (S.out.calm kk)
    replace D := Lib.hid (D.out.calm kk)
    replace P1 := Lib.hid (own_keepsS P1.out kk (fun _ _ => id))
    replace P2 := Lib.hid (own_keepsS P2.out kk (fun _ _ => id))
    replace P3 := Lib.hid (own_keepsS P3.out kk (fun _ _ => id))
    have HZ11 := Lib.hid (Nat.le_trans HZ10.out kk.size)
    replace HT := Lib.hid (Nat.le_trans HT.out kk.size)
    clear kk hbe HEB HZ10
    go_wp2_with fail
    have HEB := eqBytes_any l l A2 A3 w11.heap.size w11.heap.size c2 c3 w11 (own_lies P2.out) (own_lies P3.out) (by omega)
    simp only [decide_true] at HEB
    refine HEB.mono ?_
    rintro e w12 ⟨rfl, hbe⟩
    have kk : Keeps (fun _ => False) w11 w12 := keepsAll hbe
    replace S := Lib.hid (S.out.calm kk)
    replace D := Lib.hid (D.out.calm kk)
    replace P1 := Lib.hid (own_keepsS P1.out kk (fun _ _ => id))
    replace P2 := Lib.hid (own_keepsS P2.out kk (fun _ _ => id))
    replace P3 := Lib.hid (own_keepsS P3.out kk (fun _ _ => id))
    have HZ12 := Lib.hid (Nat.le_trans HZ11.out kk.size)
    replace HT := Lib.hid (Nat.le_trans HT.out kk.size)
    clear kk hbe HEB HZ11
    go_wp2_with fail
    have IB : Hid (Whole w12 w3.heap.size 26 #[.int .i64 p.cards, .slice Bi p.ints.length di, .slice Bt p.texts.length dt, .slice Bk p.kinds.length dk]) := Lib.hid D.out.box
    have O := Lib.hid (Ov.start (n := n0) D.out.keeps)
    have WP := Lib.hid D.out.wide
    clear D
    obtain ⟨gI, eI, hnI, hwI⟩ := WP.out.ints
    injection eI with eI1 _ eI2
    subst eI1 eI2
    obtain ⟨gK, csK, eK, hnK, hwK⟩ := WP.out.kinds
    injection eK with eK1 _ eK2
    subst eK1 eK2
    have hiI := hwI.inside
    have hiK := hwK.whole.inside
    have HWI := Lib.hid hwI
    have HWK := Lib.hid hwK
    have hmi := HOk.out.few.ints
    have hmk := HOk.out.few.kinds
    clear hwI hwK qz hgi
    go_loopw [13] (fun vi wr => ∃ (i : Nat), i ≤ p.ints.length ∧ vi = .int .i64 i ∧ Hid (Ov n0 w3 w12 wr)) (fun vi _ => p.ints.length - (intOf vi).toNat)
    case atStart => exact ⟨0, by omega, rfl, O⟩
    case round =>
      clear O
      obtain ⟨i, hi, rfl, O⟩ := hrel
      have IBr := Lib.hid (IB.out.keeps O.out.ks (fun h => Nat.lt_irrefl _ h.2))
      obtain ⟨a0, a1, a2, a3⟩ := four IBr.out
      by_cases hlt : i < p.ints.length
      · have hc3 := (HWI.out.cellAt i).trans (wideL_low p.ints i hlt)
        obtain ⟨v', hcv, ht⟩ := O.out.whole HWI.out i _ (wideL_low p.ints i hlt)
        obtain ⟨z', rfl, hz'⟩ := ht.int (HOk.out.few.ints64 _ (List.getElem_mem hlt))
        have hfr := O.out.free HWI.out i
        have HZ' := Lib.hid (rng_i64 z' hz')
        have HC3 := Lib.hid hc3
        have hzl : -9223372036854775808 ≤ z' := hz'.1
        have hzr : z' ≤ 9223372036854775807 := hz'.2
        clear ht hc3 hz'
        generalize p.ints[i] = x at *
        go_wp2_with fail
        go_still_tail 10, (by kernel_rfl)
        change wpList _ _ _ _ _ wr.drew
        go_wp2_with fail
        go_roundw
        case rel => exact ⟨i + 1, by omega, by go_num, Lib.hid (O.out.drew.set hnI hiI HC3.out HZ'.out)⟩
        case measure => simp [intOf]; omega
      · go_wp2_with fail
        clear a0 a1 a2 a3 IBr hi hlt
        go_loopw [14] (fun vi wr => ∃ (i : Nat), i ≤ p.kinds.length ∧ vi = .int .i64 i ∧ Hid (Ov n0 w3 w12 wr)) (fun vi _ => p.kinds.length - (intOf vi).toNat)
        case atStart => exact ⟨0, by omega, rfl, O⟩
        case round =>
          clear O
          obtain ⟨i, hi, rfl, O⟩ := hrel
          have IBr := Lib.hid (IB.out.keeps O.out.ks (fun h => Nat.lt_irrefl _ h.2))
          obtain ⟨a0, a1, a2, a3⟩ := four IBr.out
          by_cases hlt : i < p.kinds.length
          · have hxi : p.kinds[i]? = some p.kinds[i] := List.getElem?_eq_getElem hlt
            have hkf := HOk.out.few.each _ (List.getElem_mem hlt)
            generalize p.kinds[i] = x at *
            obtain ⟨v, hv, ⟨X1, X2, x1, x2, rfl, E1, E2⟩, hc⟩ := HWK.out.el i x (by omega) hxi
            obtain ⟨gE, csE, eE, hnE, hwE⟩ := E2
            injection eE with eE1 _ eE2
            subst eE1 eE2
            have hwK := HWK.out
            obtain ⟨v2, k2, t2⟩ := O.out.whole hwK.whole _ _ (hc 2 (by omega))
            obtain ⟨zp, rfl⟩ := t2.num
            have hfr := O.out.free hwK.whole (i * 6 + 2)
            have HC3 := Lib.hid ((hwK.whole.cellAt (i * 6 + 2)).trans (hc 2 (by omega)))
            have HC5 := Lib.hid (hc 5 (by omega))
            have HWE := Lib.hid hwE
            have hiE := hwE.whole.inside
            have hme := hkf.effs
            clear t2 hxi hc hv E1 hwK hwE
            go_wp2_with fail
            go_still_tail 12, (by kernel_rfl)
            change wpList _ _ _ _ _ wr.drew
            go_wp2_with fail
            replace O := Lib.hid ((O.out.set hnK hiK HC3.out (rng_bits zp 1)).drew)
            clear k2 hfr a0 a1 a2 a3 IBr HC3
            generalize (wr.setCell ⟨gK, i * 6 + 2, none⟩ (.int .i64 (bits .xor .i64 zp 1))).drew = V at *
            go_loopw [15] (fun vj wr => ∃ (j : Nat), j ≤ x.effs.length ∧ vj = .int .i64 j ∧ Hid (Ov n0 w3 w12 wr)) (fun vj _ => x.effs.length - (intOf vj).toNat)
            case atStart => exact ⟨0, by omega, rfl, O⟩
            case round =>
              clear O
              obtain ⟨j, hj, rfl, O⟩ := hrel
              have IBr := Lib.hid (IB.out.keeps O.out.ks (fun h => Nat.lt_irrefl _ h.2))
              obtain ⟨a0, a1, a2, a3⟩ := four IBr.out
              obtain ⟨u5, k5, t5⟩ := O.out.whole HWK.out.whole _ _ HC5.out
              rw [t5.slice] at k5
              clear t5
              by_cases hlj : j < x.effs.length
              · have hxe : x.effs[j]? = some x.effs[j] := List.getElem?_eq_getElem hlj
                have hef := hkf.each _ (List.getElem_mem hlj)
                generalize x.effs[j] = y at *
                obtain ⟨v, hv, ⟨Y1, Y2, y1, y2, rfl, F1, F2⟩, hd⟩ := HWE.out.el j y (by omega) hxe
                obtain ⟨gC, eC, hnC, hwC⟩ := F2
                injection eC with eC1 _ eC2
                subst eC1 eC2
                have HD2 := Lib.hid (hd 2 (by omega))
                have HWC := Lib.hid hwC
                have hiC := hwC.inside
                have hec := hef.code
                obtain ⟨u2, m2, s2⟩ := O.out.whole HWE.out.whole _ _ HD2.out
                rw [s2.slice] at m2
                clear hxe hv F1 hd hwC hef s2
                go_wp2_with fail
                clear a0 a1 a2 a3 IBr k5 m2
                go_loopw [16] (fun vz wr => ∃ (z : Nat), z ≤ y.code.length ∧ vz = .int .i64 z ∧ Hid (Ov n0 w3 w12 wr)) (fun vz _ => y.code.length - (intOf vz).toNat)
                case atStart => exact ⟨0, by omega, rfl, O⟩
                case round =>
                  clear O
                  obtain ⟨z, hzc, rfl, O⟩ := hrel
                  have IBr := Lib.hid (IB.out.keeps O.out.ks (fun h => Nat.lt_irrefl _ h.2))
                  obtain ⟨a0, a1, a2, a3⟩ := four IBr.out
                  obtain ⟨u5, k5, t5⟩ := O.out.whole HWK.out.whole _ _ HC5.out
                  rw [t5.slice] at k5
                  clear t5
                  obtain ⟨u2, m2, s2⟩ := O.out.whole HWE.out.whole _ _ HD2.out
                  rw [s2.slice] at m2
                  clear s2
                  by_cases hlz : z < y.code.length
                  · have hcc : (wideB y.code)[z]? = some (.int .u8 ((y.code[z]).toNat : Int)) := (wideB_get y.code z (by omega)).trans (by rw [wideAt_in y.code z hlz])
                    obtain ⟨v', hcv, ht⟩ := O.out.whole HWC.out z _ hcc
                    obtain ⟨zz, rfl⟩ := ht.num
                    have hfr := O.out.free HWC.out z
                    have HCC := Lib.hid ((HWC.out.cellAt z).trans hcc)
                    clear ht hcc
                    go_wp2_with fail
                    go_roundw
                    case rel => exact ⟨z + 1, by omega, by go_num, Lib.hid (O.out.set (by omega) hiC HCC.out (show 0 ≤ (77 : Int) ∧ (77 : Int) ≤ 255 by omega))⟩
                    case measure => simp [intOf]; omega
                  · go_wp2_with fail
                    go_roundw
                    case rel => exact ⟨j + 1, by omega, by go_num, O⟩
                    case measure => simp [intOf]; omega
              · go_wp2_with fail
                go_roundw
                case rel => exact ⟨i + 1, by omega, by go_num, O⟩
                case measure => simp [intOf]; omega
          · go_wp2_with fail
            clear a0 a1 a2 a3 hi hlt
            obtain ⟨q, hq1, hq2, hq3, hq4, hqi, hqf, hqs⟩ := O.out.pack WP.out HOk.out.few
            have QI := Lib.hid hqi
            have QO : Hid (PkOk q) := Lib.hid ⟨hqf, by rw [hqs]; exact HOk.out.size⟩
            have HQV : Hid (pkC q (some ⟨gI, 0, none⟩) Bt (some ⟨gK, 0, none⟩) (p.ints.length + 64) dt (p.kinds.length + 64) = #[.int .i64 p.cards, .slice (some ⟨gI, 0, none⟩) p.ints.length (p.ints.length + 64), .slice Bt p.texts.length dt, .slice (some ⟨gK, 0, none⟩) p.kinds.length (p.kinds.length + 64)]) := Lib.hid (by unfold pkC; rw [hq1, hq2, hq3, hq4])
            have KW : Hid (Keeps (fun _ => False) w wr) := Lib.hid (S.out.keeps.and O.out.ks (fun k hk h => by have := HWB.out; omega))
            have hl5 := HZ5.out
            have hl6 := HZ6.out
            have hl7 := HZ7.out
            replace P1 := Lib.hid (own_keepsS P1.out O.out.ks (fun b hb h => by have := (L1.out b hb).1; omega))
            replace P2 := Lib.hid (own_keepsS P2.out O.out.ks (fun b hb h => by have := (L2.out b hb).1; omega))
            replace P3 := Lib.hid (own_keepsS P3.out O.out.ks (fun b hb h => by have := (L3.out b hb).1; omega))
            have HWR : Hid (w12.heap.size ≤ wr.heap.size) := Lib.hid O.out.ks.size
            clear hqi hqf hq1 hq2 hq3 hq4 hqs O WP S hl5 hl6 hl7
            have HEB := eqBytes_any l l A1 A3 wr.heap.size wr.heap.size c1 c3 wr (own_lies P1.out) (own_lies P3.out) (by omega)
            simp only [decide_true] at HEB
            refine HEB.mono ?_
            rintro e v1 ⟨rfl, hbe⟩
            have kk : Keeps (fun _ => False) wr v1 := keepsAll hbe
            replace KW := Lib.hid (KW.out.trans kk)
            replace P1 := Lib.hid (own_keepsS P1.out kk (fun _ _ => id))
            replace P2 := Lib.hid (own_keepsS P2.out kk (fun _ _ => id))
            replace QI := Lib.hid (QI.out.past kk)
            replace IBr := Lib.hid (IBr.out.keeps kk id)
            replace HWR := Lib.hid (Nat.le_trans HWR.out kk.size)
            clear kk hbe HEB P3
            have HCP := Lib.hid (fun W (h : PkIn W W.heap.size q (some ⟨gI, 0, none⟩) Bt (some ⟨gK, 0, none⟩)) => copyPack_any q (some ⟨gI, 0, none⟩) Bt (some ⟨gK, 0, none⟩) (p.ints.length + 64) dt (p.kinds.length + 64) W h.ints h.texts h.kinds QO.out.few)
            have HE := Lib.hid (fun W (h : PkIn W W.heap.size q (some ⟨gI, 0, none⟩) Bt (some ⟨gK, 0, none⟩)) => encodeO_any q (some ⟨gI, 0, none⟩) Bt (some ⟨gK, 0, none⟩) (p.ints.length + 64) dt (p.kinds.length + 64) W h QO.out)
            have HR := Lib.hid (fun W (A D Z : Option Addr) (a d z : Nat) (h : PkIn W W.heap.size q A D Z) => encode_ref q A D Z a d z W h QO.out.few QO.out.size)
            unfold EncO at HE HR
            rw [encP_two q] at HE HR
            rw [HQV.out] at HCP HE
            have HLM := encP_len q
            generalize (encP q).1 = m at *
            generalize chk q = y at *
            go_wp2_with (first | refine wpList_load_whole rfl 26 _ rfl _ rfl 26 _ _ IBr.out Tryz.underlying26 rfl sizePkC ?_)
            refine (HCP.out v1 QI.out).mono ?_
            rintro e v2 ⟨C1, C2, C3, r1, r2, r3, rfl, q1, q2, q3, kk⟩
            replace kk := kk.trans ((Keeps.refl (fun _ => False) v2).alloc (.cells (pkC q C1 C2 C3 r1 r2 r3) 26))
            have OB := Lib.hid (Whole.made v2 26 (pkC q C1 C2 C3 r1 r2 r3))
            have OL := Lib.hid ((opk_lie q1 q2 q3).past ((Keeps.refl (fun _ => False) v2).alloc (.cells (pkC q C1 C2 C3 r1 r2 r3) 26)))
            clear q1 q2 q3 HCP
            replace KW := Lib.hid (KW.out.trans kk)
            replace P1 := Lib.hid (own_keepsS P1.out kk (fun _ _ => id))
            replace P2 := Lib.hid (own_keepsS P2.out kk (fun _ _ => id))
            replace QI := Lib.hid (QI.out.past kk)
            replace IBr := Lib.hid (IBr.out.keeps kk id)
            replace HWR := Lib.hid (Nat.le_trans HWR.out kk.size)
            clear kk
            have hqv2 : pkC q C1 C2 C3 r1 r2 r3 = #[.int .i64 q.cards, .slice C1 q.ints.length r1, .slice C2 q.texts.length r2, .slice C3 q.kinds.length r3] := rfl
            have HQ2 := Lib.hid hqv2
            clear hqv2
            rw [HQ2.out] at OB OL KW P1 P2 QI IBr HWR ⊢
            go_wp2_with (first | refine wpList_load_whole rfl 26 _ rfl _ rfl 26 _ _ IBr.out Tryz.underlying26 rfl sizePkC ?_)
            generalize v2.alloc _ = v3 at *
            generalize v2.heap.size = go at *
            refine (HE.out v3 QI.out).mono ?_
            rintro e v4 ⟨A4, c4, rfl, hb, kk⟩
            replace KW := Lib.hid (KW.out.trans kk)
            replace P1 := Lib.hid (own_keepsS P1.out kk (fun _ _ => id))
            replace P2 := Lib.hid (own_keepsS P2.out kk (fun _ _ => id))
            have P4 := Lib.hid hb
            have L4 := Lib.hid (Byt.lt_ hb)
            replace OB := Lib.hid (OB.out.keeps kk id)
            replace OL := Lib.hid (OL.out.past kk)
            clear kk hb HE IBr QI
            go_wp2_with (first | refine wpList_load_whole rfl 26 _ rfl _ rfl 26 _ _ OB.out Tryz.underlying26 rfl sizePkC ?_)
            refine (HR.out v4 _ _ _ _ _ _ OL.out).mono ?_
            rintro e v5 ⟨A5, c5, rfl, hb, kk⟩
            replace KW := Lib.hid (KW.out.trans kk)
            replace P1 := Lib.hid (own_keepsS P1.out kk (fun _ _ => id))
            replace P2 := Lib.hid (own_keepsS P2.out kk (fun _ _ => id))
            replace P4 := Lib.hid (own_keepsS P4.out kk (fun _ _ => id))
            have P5 := Lib.hid hb
            clear kk hb HR OB OL
            have qy : ((y : Int) == (y : Int)) = true := by simp
            go_wp2_with fail
            have HEB := eqBytes_any m m A4 A5 v5.heap.size v5.heap.size c4 c5 v5 (own_lies P4.out) (own_lies P5.out) (by omega)
            simp only [decide_true] at HEB
            refine HEB.mono ?_
            rintro e v6 ⟨rfl, hbe⟩
            have kk : Keeps (fun _ => False) v5 v6 := keepsAll hbe
            replace KW := Lib.hid (KW.out.trans kk)
            replace P1 := Lib.hid (own_keepsS P1.out kk (fun _ _ => id))
            replace P2 := Lib.hid (own_keepsS P2.out kk (fun _ _ => id))
            replace P4 := Lib.hid (own_keepsS P4.out kk (fun _ _ => id))
            have PA := Lib.hid (Byt.lt_ P1.out)
            have PB := Lib.hid (Byt.lt_ P2.out)
            have PC := Lib.hid (Byt.lt_ P4.out)
            have HW6 : Hid (w.heap.size ≤ v6.heap.size) := Lib.hid KW.out.size
            clear kk hbe HEB P5 qy
            have kk := (Keeps.refl (fun _ => False) v6).alloc (.cells bagNone 67)
            have BG := Lib.hid (BagYn.start v6)
            replace KW := Lib.hid (KW.out.trans kk)
            replace P1 := Lib.hid (own_keepsS P1.out kk (fun _ _ => id))
            replace P2 := Lib.hid (own_keepsS P2.out kk (fun _ _ => id))
            replace P4 := Lib.hid (own_keepsS P4.out kk (fun _ _ => id))
            clear kk
            unfold bagNone at BG KW P1 P2 P4
            go_wp2_with fail
            generalize v6.alloc _ = v7 at *
            generalize v6.heap.size = pb at *
            have hsl : ∀ (W : World) (n c : Nat) (A : Option Addr) (l : List Byte), Byt W n A c l → W.ownsRow 0 5 1 (Sl.mk A l.length c).val (Sl.mk A l.length c).len (bytesV l) := fun _ _ _ _ _ h => own_base h (fun _ _ => Nat.zero_le _)
            have HSL := Lib.hid hsl
            clear hsl
            have HA := addBytes1 ⟨A1, l.length, c1⟩ BG.out (by decide) (HSL.out _ _ _ _ _ P1.out) (fun b hb => ⟨fun ⟨_, _, h, _⟩ => by simp at h, (PA.out b hb).2⟩)
            refine HA.mono ?_
            clear HA
            rintro e v8 ⟨rfl, B1, d1, hbg, hk⟩
            replace BG := Lib.hid hbg
            replace P2 := Lib.hid (own_keepsS P2.out hk (fun b hb e => by have := (PB.out b hb).2; omega))
            replace P4 := Lib.hid (own_keepsS P4.out hk (fun b hb e => by have := (PC.out b hb).2; omega))
            replace KW := Lib.hid (KW.out.and hk (fun b hb e => by have := HW6.out; omega))
            clear hbg hk P1
            go_wp2_with fail
            have HA := addBytes1 ⟨A2, l.length, c2⟩ BG.out (by simp) (HSL.out _ _ _ _ _ P2.out) (fun b hb => ⟨fun h => by
              rcases blks_last h with h | h
              · obtain ⟨_, _, h, _⟩ := h; simp at h
              · have h1 := L1.out b h; have h2 := (PB.out b hb).1; omega, (PB.out b hb).2⟩)
            refine HA.mono ?_
            clear HA
            rintro e v9 ⟨rfl, B2, d2, hbg, hk⟩
            replace BG := Lib.hid hbg
            replace P4 := Lib.hid (own_keepsS P4.out hk (fun b hb e => by have := (PC.out b hb).2; omega))
            replace KW := Lib.hid (KW.out.and hk (fun b hb e => by have := HW6.out; omega))
            clear hbg hk P2
            go_wp2_with fail
            have HA := addBytes1 ⟨A4, m.length, c4⟩ BG.out (by simp) (HSL.out _ _ _ _ _ P4.out) (fun b hb => ⟨fun h => by
              have h2 := (L4.out b hb).1
              have h3 := HWR.out
              have h4 := HT.out
              have h5 := HS7.out
              rcases blks_last h with h | h
              · rcases blks_last h with h | h
                · obtain ⟨_, _, h, _⟩ := h; simp at h
                · have h1 := L1.out b h; omega
              · have h1 := L2.out b h; omega, (PC.out b hb).2⟩)
            refine HA.mono ?_
            clear HA
            rintro e va ⟨rfl, B3, d3, hbg, hk⟩
            replace BG := Lib.hid hbg
            replace KW := Lib.hid (KW.out.and hk (fun b hb e => by have := HW6.out; omega))
            clear hbg hk P4
            go_wp2_with fail
            refine (BG.out.apart (by simp) (fun k r hr => by
              have hm := List.mem_of_getElem? hr
              simp only [List.nil_append, List.mem_append, List.mem_singleton] at hm
              rcases hm with (rfl | rfl) | rfl
              · show l.length ≤ _; omega
              · show l.length ≤ _; omega
              · show m.length ≤ _; omega)).mono ?_
            rintro e vb ⟨rfl, hk⟩
            replace KW := Lib.hid (KW.out.and hk (fun b hb h => by
              have h4 := HZ5.out
              have h5 := HS6.out
              have h6 := HS7.out
              have h7 := HWR.out
              have h8 := HWB.out
              have h9 := HT.out
              rcases blks_last h with h | h
              · rcases blks_last h with h | h
                · rcases blks_last h with h | h
                  · obtain ⟨_, _, h, _⟩ := h; simp at h
                  · have h1 := L1.out b h; omega
                · have h1 := L2.out b h; omega
              · have h1 := L4.out b h; omega))
            clear hk BG
            go_wp2_with fail
            go_ret
            exact ⟨rfl, KW.out⟩
end Go.Proofs.YtcmbdnjcfneinaaGreatDoor
