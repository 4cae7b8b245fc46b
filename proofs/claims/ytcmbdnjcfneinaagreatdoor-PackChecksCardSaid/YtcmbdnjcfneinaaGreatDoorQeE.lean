/-
  The reference of chapter 19: Encode: the walk. Conditions: lengths within 10 ^ 9, a size within 10 ^ 12.
-/
import Derived.Test.YtcmbdnjcfneinaaGreatDoorQeM
import Derived.Test.YtcmbdnjcfneinaaGreatDoorQrM
import Derived.Test.YtcmbdnjcfneinaaGreatDoorSeA
namespace Go.Proofs.YtcmbdnjcfneinaaGreatDoor
open Go.RowKit
/-- A text's bytes put behind a row of bytes, as an operation. -/
theorem wpList_app_str {w : World} {ops : Array Oper} {rest : List Oper} {o : Oper} {a : Act} {Q : Exit → Act → World → Prop} (hgd : o.guard = none) (s x : Operand)
    (ho : o.op = .call { callee := .builtin .append, args := #[s, x], argTypes := #[32, 9] })
    (base : Nat) (A : Option Addr) (cap : Nat) (l : List Byte) (hs : a.eval s = .slice A l.length cap) (hown : Byt w base A cap l)
    (t : List Oct) (hx : a.eval x = .string (strB t)) (hlen : l.length + t.length ≤ 140737488355328) (hbase : base ≤ w.heap.size)
    (h : ∀ A' cap' w', Byt w' base A' cap' (l ++ t) → Gw w w' (.slice A l.length cap) (.slice A' (l ++ t).length cap') → wpList Tryz.prog ops Q rest (a.put o.dst (.slice A' (l ++ t).length cap')) w') : wpList Tryz.prog ops Q (o :: rest) a w := by
  refine wpList_plain hgd fun K hK => ?_
  obtain ⟨A', cap', w', hr, h2, h3⟩ := run_app_str o.type t hown hlen hbase
  unfold Oper.wp execOp
  simp only [ho, resolve, invoke, builtin, Sem.run_bind, Sem.run_pure, Result.andThen_ok, List.map_toArray, List.map_cons, List.map_nil, hs, hx, hr]
  exact hK _ _ (h A' cap' w' h2 h3)
theorem pack_lens {p : Pk} (h : chk p = 0) : (intsE p.ints).length ≤ 2000000 ∧ (textsE p.texts).length ≤ 2000000 ∧ (kindsE p.kinds).length ≤ 2000000 := by
  have h1 := packE_length p
  have h2 : sizeP p ≤ 1048576 := by
    unfold chk at h
    repeat' split at h
    all_goals first | omega | (exfalso; omega)
  unfold packE secsE at h1
  rw [sealedL_length] at h1
  simp only [List.length_append, secE_length] at h1
  omega
theorem row_new {w : World} {base : Nat} (y : List Byte) (hb : base ≤ w.heap.size) (hy : y.length ≤ 1000) : Byt (w.alloc (.cells (bytesV y).toArray 5)) base (some ⟨w.heap.size, 0, none⟩) y.length y :=
  ⟨by simp [bytesV_length], .inr ⟨w.heap.size, y.length, (bytesV y).toArray, rfl, hb, Whole.made w _ _, Nat.le_refl _, by simp only [maxLen]; omega, by simp [bytesV_length], by simp only [Nat.mul_one]; exact List.take_of_length_le (by rw [bytesV_length]; exact Nat.le_refl _)⟩⟩
theorem apv_new {w : World} {base cap c : Nat} {A B : Option Addr} {l y : List Byte} (h : Byt w base A cap l) (hg : ∀ k, (Value.slice B y.length c).ownBlock = some k → w.heap.size ≤ k) : Apv (.slice A l.length cap) (.slice B y.length c) := fun k h1 h2 => by
  have := (Byt.lt_ h k h1).2
  have := hg k h2
  omega
theorem gw_nil {w w' : World} {v' : Value} (h : Gw w w' (.slice none 0 0) v') : Keeps (fun _ => False) w w' ∧ ∀ k, v'.ownBlock = some k → w.heap.size ≤ k :=
  ⟨h.keeps.mono (fun k _ e => by cases e), fun k e => (h.own k e).resolve_left (fun e => by cases e)⟩
theorem refSec_lit (N : Int) (b : Oct) (hN : N = (b.toNat : Int)) (y : List Byte) (base base' : Nat) (A B : Option Addr) (cap cb : Nat) (l : List Byte) (w : World) (ho : Byt w base A cap l) (hb : base ≤ w.heap.size) (hy : Byt w base' B cb y) (ha : Apv (.slice A l.length cap) (.slice B y.length cb)) (hl : l.length ≤ 100000000000) (hly : y.length ≤ 100000000000) :
    Calls Tryz.prog 42 #[.slice A l.length cap, .int .u8 N, .slice B y.length cb] w fun e w' => ∃ A' cap', e = .returned (.slice A' (l ++ secE b y).length cap') ∧ Byt w' base A' cap' (l ++ secE b y) ∧ Gw w w' (.slice A l.length cap) (.slice A' (l ++ secE b y).length cap') := by
  subst hN
  exact section_ref b y base base' A B cap cb l w ho hb hy ha hl hly
theorem headP_le : headP.length ≤ 100000000000 := by show (5 : Nat) ≤ _; omega
/-- What the reference's Encode answers, and that the row is its own. -/
def EncO (p : Pk) (w : World) (e : Ending) (w' : World) : Prop := ∃ A cap, e = .returned (.tuple #[.slice A (encP p).1.length cap, .int .i64 (encP p).2]) ∧ Byt w' w.heap.size A cap (encP p).1 ∧ Keeps (fun _ => False) w w'
set_option maxRecDepth 100000 in
set_option maxHeartbeats 800000 in
theorem encode_ref (p : Pk) (Ai At Ak : Option Addr) (ci ct ck : Nat) (w : World) (hx : PkIn w w.heap.size p Ai At Ak) (hm : PkFew p) (hz : sizeP p ≤ 1000000000000) :
    Calls Tryz.prog 10 #[.agg (pkC p Ai At Ak ci ct ck)] w (EncO p w) := by
  have BX : Hid (Whole (w.alloc (.cells (pkC p Ai At Ak ci ct ck) 26)) w.heap.size 26 (pkC p Ai At Ak ci ct ck)) := Lib.hid (Whole.made w _ _)
  have KP : Hid (Keeps (fun _ => False) w (w.alloc (.cells (pkC p Ai At Ak ci ct ck) 26))) := Lib.hid ((Keeps.refl _ w).alloc _)
  have HX := Lib.hid hx
  have HF := Lib.hid hm
  have hmi := hm.ints
  have hmt := hm.texts
  have hmk := hm.kinds
  have HCK := Lib.hid (fun W (h : PkIn W W.heap.size p Ai At Ak) => check_ref p Ai At Ak ci ct ck W h hm hz)
  clear hx hm hz
  unfold pkC at *
  go_enter Tryz.func10, Tryz.ntmps10
  go_wp2_with fail
  generalize w.alloc _ = w0 at *
  obtain ⟨a0, a1, a2, a3⟩ := four BX.out
  go_wp2_with fail
  refine (HCK.out w0 (HX.out.past KP.out)).mono ?_
  rintro r w1 ⟨rfl, hk1⟩
  replace BX := Lib.hid (BX.out.keeps hk1 id)
  replace KP := Lib.hid (KP.out.trans hk1)
  clear HCK hk1 a0 a1 a2 a3
  by_cases hc : chk p = 0
  case neg =>
    have HE : Hid (encP p = ([], chk p)) := Lib.hid (by unfold encP; rw [if_pos hc])
    generalize chk p = z at *
    have hzi : ¬ ((z : Int) = 0) := by omega
    have hze : ((z : Int) == 0) = false := by simp; exact hc
    go_wp2_with fail
    go_ret2
    refine ⟨none, 0, ?_, ?_, KP.out⟩
    · rw [HE.out]; rfl
    · rw [HE.out]; exact byt_nil _ _
  case pos =>
    have HC := Lib.hid hc
    rw [hc, show ((0 : Nat) : Int) = 0 from rfl]
    obtain ⟨hTi, hTt, hTk⟩ := pack_lens hc
    clear hc
    have hk2 := (Keeps.refl (fun _ => False) w1).alloc (.cells (bytesV headP).toArray 5)
    have BB : Hid (Byt _ w.heap.size (some ⟨w1.heap.size, 0, none⟩) headP.length headP) := Lib.hid (row_new headP KP.out.size (by decide))
    have hhv : (bytesV headP).toArray = #[.int .u8 84, .int .u8 66, .int .u8 76, .int .u8 88, .int .u8 1] := by simp [bytesV, byteV, headP]
    rw [hhv] at BB hk2
    replace BX := Lib.hid (BX.out.keeps hk2 id)
    replace KP := Lib.hid (KP.out.trans hk2)
    clear hk2 hhv
    obtain ⟨a0, a1, a2, a3⟩ := four BX.out
    go_wp2_with fail
    generalize w1.alloc _ = W0 at *
    refine (refPut_lit (p.cards) 2 2 rfl _ (by first | rfl | exact wrap_mod _ | exact wrap_len _ (by omega)) w.heap.size none 0 [] W0 (byt_nil _ _) KP.out.size (by decide) (by simp)).mono ?_
    rintro e Y1 ⟨B1, d1, rfl, h1, h2⟩
    generalize he : [] ++ be 2 (p.cards) = y1 at h1 h2 ⊢
    have hy1 : y1.length ≤ 2 := by rw [← he]; simp [be_length]
    have HY1 : Hid (y1 = be 2 (p.cards)) := Lib.hid (by rw [← he]; rfl)
    obtain ⟨kg, ng⟩ := gw_nil h2
    have BY := Lib.hid h1
    have AP := Lib.hid (apv_new BB.out ng).symm
    replace BB := Lib.hid (own_keepsS BB.out kg (fun _ _ => id))
    replace BX := Lib.hid (BX.out.keeps kg id)
    replace KP := Lib.hid (KP.out.trans kg)
    clear he h1 h2 kg ng
    clear a0 a1 a2 a3
    go_wp2_with fail
    refine (refSec_lit 1 1#8 rfl y1 w.heap.size w.heap.size (some ⟨w1.heap.size, 0, none⟩) B1 headP.length d1 headP Y1 BB.out KP.out.size BY.out AP.out.symm (by first | exact headP_le | omega) (by omega)).mono ?_
    rintro e S1 ⟨C1, q1, rfl, h1, h2⟩
    generalize he : headP ++ secE 1#8 y1 = l1 at h1 h2 ⊢
    have hl1 : l1.length ≤ headP.length + (5 + y1.length) := by rw [← he, List.length_append, secE_length]; exact Nat.le_refl _
    have HL1 : Hid (l1 = headP ++ secE 1#8 y1) := Lib.hid he.symm
    replace KP := Lib.hid (KP.out.and h2.keeps (fun k hk e => by have := (Byt.lt_ BB.out k e).1; omega))
    replace BX := Lib.hid (whole_far BX.out BB.out h2 (by decide))
    replace BB := Lib.hid h1
    clear he h1 h2 BY AP
    have hl1b : l1.length ≤ 12 := by have h5 : headP.length = 5 := rfl; omega
    clear hl1
    obtain ⟨a0, a1, a2, a3⟩ := four BX.out
    go_wp2_with fail
    refine (refPut_lit (p.ints.length) 2 2 rfl _ (by first | rfl | exact wrap_mod _ | exact wrap_len _ (by omega)) w.heap.size none 0 [] S1 (byt_nil _ _) KP.out.size (by decide) (by simp)).mono ?_
    rintro e Y2 ⟨B2, d2, rfl, h1, h2⟩
    generalize he : [] ++ be 2 (p.ints.length) = y2 at h1 h2 ⊢
    have hy2 : y2.length ≤ 2 := by rw [← he]; simp [be_length]
    have HY2 : Hid (y2 = be 2 (p.ints.length)) := Lib.hid (by rw [← he]; rfl)
    obtain ⟨kg, ng⟩ := gw_nil h2
    have BY := Lib.hid h1
    have AP := Lib.hid (apv_new BB.out ng).symm
    replace BB := Lib.hid (own_keepsS BB.out kg (fun _ _ => id))
    replace BX := Lib.hid (BX.out.keeps kg id)
    replace KP := Lib.hid (KP.out.trans kg)
    clear he h1 h2 kg ng
    clear a0 a1 a2 a3
    obtain ⟨T, hTe⟩ : ∃ T, T = intsE p.ints := ⟨_, rfl⟩
    rw [← hTe] at hTi
    have HM : Hid (T = y2 ++ (p.ints.drop 0).flatMap (be 8)) := Lib.hid (by rw [hTe, HY2.out]; rfl)
    have HTI := Lib.hid hTe
    clear hTe
    go_wp2_with fail
    go_loopw [6, 7] (fun vb vi wr => ∃ (i : Nat) (m : List Byte) (A' : Option Addr) (c : Nat), i ≤ p.ints.length ∧ vi = .int .i64 i ∧ vb = .slice A' m.length c ∧ Hid (T = m ++ (p.ints.drop i).flatMap (be 8)) ∧ Hid (Byt wr w.heap.size A' c m) ∧ Hid (Keeps (fun _ => False) w wr) ∧ Hid (Whole wr w.heap.size 26 #[.int .i64 p.cards, .slice Ai p.ints.length ci, .slice At p.texts.length ct, .slice Ak p.kinds.length ck]) ∧ Hid (Byt wr w.heap.size C1 q1 l1) ∧ Hid (Apv (.slice A' m.length c) (.slice C1 l1.length q1))) (fun _ vi _ => p.ints.length - (intOf vi).toNat)
    case atStart => exact ⟨0, y2, B2, d2, by omega, rfl, rfl, HM, BY, KP, BX, BB, AP⟩
    case round =>
      clear HM BY KP BX BB AP HY2 hy2
      obtain ⟨i, m, A', c, hi, rfl, rfl, HM, BY, KP, BX, BB, AP⟩ := hrel
      have hlm := len_of HM.out hTi
      obtain ⟨a0, a1, a2, a3⟩ := four BX.out
      by_cases hlt : i < p.ints.length
      · obtain ⟨g, off, hgA, hg, hc0⟩ := HX.out.ints i (.int .i64 p.ints[i]) (by simp [hlt])
        have hc := (KP.out.cell (b := g) (o := off + i) hg id).trans hc0
        have hRk := fm_drop (be 8) p.ints i p.ints[i] (List.getElem?_eq_getElem hlt)
        subst hgA
        clear hc0
        generalize p.ints[i] = x at *
        replace HM : Hid (T = m ++ (be 8 x ++ (p.ints.drop (i + 1)).flatMap (be 8))) := Lib.hid (by rw [HM.out, hRk])
        clear hRk
        go_wp2_with fail
        refine (refPut_lit (x) 8 8 rfl _ (by first | rfl | exact wrap_mod _ | exact wrap_len _ (by omega)) (w.heap.size) A' c m wr BY.out KP.out.size (by decide) (by omega)).mono ?_
        rintro e W1 ⟨A1, c1, rfl, h1, h2⟩
        generalize he : m ++ be 8 (x) = m1 at h1 h2 ⊢
        replace KP := Lib.hid (KP.out.and h2.keeps (fun k hk e => by have := (Byt.lt_ BY.out k e).1; omega))
        replace BX := Lib.hid (whole_far BX.out BY.out h2 (by decide))
        have hapn := Apv.grow AP.out h2 (fun k hk => (Byt.lt_ BB.out k hk).2)
        replace BB := Lib.hid (Byt.far BB.out h2 AP.out)
        replace AP := Lib.hid hapn
        clear hapn
        replace HM : Hid (T = m1 ++ (p.ints.drop (i + 1)).flatMap (be 8)) := Lib.hid (by rw [HM.out, ← he]; simp only [List.append_assoc])
        replace BY := Lib.hid h1
        have hlm1 := len_of HM.out hTi
        clear he h1 h2
        clear hc a0 a1 a2 a3
        go_wp2_with fail
        go_roundw
        case rel => exact ⟨i + 1, m1, A1, c1, by omega, by go_num, rfl, HM, BY, KP, BX, BB, AP⟩
        case measure => simp [intOf]; omega
      · have hme : T = m := by rw [HM.out, fm_done (be 8) _ _ (by omega), List.append_nil]
        subst hme
        clear HM hlm
        go_wp2_with fail
        refine (refSec_lit 2 2#8 rfl T w.heap.size w.heap.size C1 A' q1 c l1 wr BB.out KP.out.size BY.out AP.out.symm (by first | exact headP_le | omega) (by omega)).mono ?_
        rintro e S2 ⟨C2, q2, rfl, h1, h2⟩
        generalize he : l1 ++ secE 2#8 T = l2 at h1 h2 ⊢
        have hl2 : l2.length ≤ l1.length + (5 + T.length) := by rw [← he, List.length_append, secE_length]; exact Nat.le_refl _
        have HL2 : Hid (l2 = l1 ++ secE 2#8 T) := Lib.hid he.symm
        replace KP := Lib.hid (KP.out.and h2.keeps (fun k hk e => by have := (Byt.lt_ BB.out k e).1; omega))
        replace BX := Lib.hid (whole_far BX.out BB.out h2 (by decide))
        replace BB := Lib.hid h1
        clear he h1 h2 BY AP
        clear a0 a1 a2 a3
        obtain ⟨a0, a1, a2, a3⟩ := four BX.out
        go_wp2_with fail
        refine (refPut_lit (p.texts.length) 2 2 rfl _ (by first | rfl | exact wrap_mod _ | exact wrap_len _ (by omega)) w.heap.size none 0 [] S2 (byt_nil _ _) KP.out.size (by decide) (by simp)).mono ?_
        rintro e Y3 ⟨B3, d3, rfl, h1, h2⟩
        generalize he : [] ++ be 2 (p.texts.length) = y3 at h1 h2 ⊢
        have hy3 : y3.length ≤ 2 := by rw [← he]; simp [be_length]
        have HY3 : Hid (y3 = be 2 (p.texts.length)) := Lib.hid (by rw [← he]; rfl)
        obtain ⟨kg, ng⟩ := gw_nil h2
        have BY := Lib.hid h1
        have AP := Lib.hid (apv_new BB.out ng).symm
        replace BB := Lib.hid (own_keepsS BB.out kg (fun _ _ => id))
        replace BX := Lib.hid (BX.out.keeps kg id)
        replace KP := Lib.hid (KP.out.trans kg)
        clear he h1 h2 kg ng
        clear a0 a1 a2 a3
        obtain ⟨U, hUe⟩ : ∃ U, U = textsE p.texts := ⟨_, rfl⟩
        rw [← hUe] at hTt
        have HM : Hid (U = y3 ++ (p.texts.drop 0).flatMap textE) := Lib.hid (by rw [hUe, HY3.out]; rfl)
        have HTT := Lib.hid hUe
        clear hUe
        go_wp2_with fail
        go_loopw [6, 8] (fun vb vi wr => ∃ (j : Nat) (m : List Byte) (A' : Option Addr) (c : Nat), j ≤ p.texts.length ∧ vi = .int .i64 j ∧ vb = .slice A' m.length c ∧ Hid (U = m ++ (p.texts.drop j).flatMap textE) ∧ Hid (Byt wr w.heap.size A' c m) ∧ Hid (Keeps (fun _ => False) w wr) ∧ Hid (Whole wr w.heap.size 26 #[.int .i64 p.cards, .slice Ai p.ints.length ci, .slice At p.texts.length ct, .slice Ak p.kinds.length ck]) ∧ Hid (Byt wr w.heap.size C2 q2 l2) ∧ Hid (Apv (.slice A' m.length c) (.slice C2 l2.length q2))) (fun _ vi _ => p.texts.length - (intOf vi).toNat)
        case atStart => exact ⟨0, y3, B3, d3, by omega, rfl, rfl, HM, BY, KP, BX, BB, AP⟩
        case round =>
          clear HM BY KP BX BB AP HY3 hy3
          obtain ⟨j, m, A', c, hj, rfl, rfl, HM, BY, KP, BX, BB, AP⟩ := hrel
          have hlm := len_of HM.out hTt
          obtain ⟨a0, a1, a2, a3⟩ := four BX.out
          by_cases hltj : j < p.texts.length
          · obtain ⟨g, off, hgA, hg, hc0⟩ := HX.out.texts j (.string (strB p.texts[j])) (by simp [textsV, hltj])
            have hc := (KP.out.cell (b := g) (o := off + j) hg id).trans hc0
            have hRk := fm_drop textE p.texts j p.texts[j] (List.getElem?_eq_getElem hltj)
            have hfew := HF.out.text _ (List.getElem_mem hltj)
            subst hgA
            clear hc0
            generalize p.texts[j] = x at *
            replace HM : Hid (U = m ++ (be 1 x.length ++ (x ++ (p.texts.drop (j + 1)).flatMap textE))) := Lib.hid (by
              rw [HM.out, hRk]
              unfold textE
              simp only [List.append_assoc])
            have HSX := Lib.hid (strB_size x)
            clear hRk
            have ka := (Keeps.refl (fun _ => False) wr).alloc (.cells #[.int .u8 (((strB x).size : Int) % 256)] 5)
            have HO : Hid (Byt (wr.alloc (.cells #[.int .u8 (((strB x).size : Int) % 256)] 5)) (w.heap.size) A' c m) := Lib.hid (own_keepsS BY.out ka (fun _ _ => id))
            have HL : Hid (Lies (wr.alloc (.cells #[.int .u8 (((strB x).size : Int) % 256)] 5)) (wr.heap.size + 1) (some ⟨wr.heap.size, 0, none⟩) [.int .u8 (((strB x).size : Int) % 256)]) := Lib.hid (Lies.row (fr := (0, 0)) (xs := [.int .u8 (((strB x).size : Int) % 256)]) (by have hwm := Whole.made wr 5 #[.int .u8 (((strB x).size : Int) % 256)]; exact hwm) (Nat.lt_succ_self _))
            have HV : Hid ([.int .u8 (((strB x).size : Int) % 256)] = bytesV (be 1 (x.length))) := Lib.hid (by rw [be1V, HSX.out])
            have HZ := Lib.hid (Nat.le_trans KP.out.size ka.size)
            have HKA := Lib.hid ka
            clear ka
            go_wp2_with (first | (at_builtin; (refine wpList_app rfl _ _ rfl (w.heap.size) A' c m rfl HO.out (wr.heap.size + 1) (some ⟨wr.heap.size, 0, none⟩) 1 1 [.int .u8 (((strB x).size : Int) % 256)] rfl HL.out (be 1 (x.length)) HV.out rfl (by omega) HZ.out ?_); intro A2 c2 W2 h1 h2; generalize he : m ++ (be 1 (x.length)) = m2 at h1 h2 ⊢; obtain ⟨b0, b1, b2, b3⟩ := four (whole_far BX.out BY.out (Gw.ahead HKA.out h2) (by decide)); have hcn := ((Gw.ahead HKA.out h2).keeps.cell (o := off + j) (by have := KP.out.size; omega) (fun e => by have := (Byt.lt_ BY.out _ e).1; omega)).trans hc; have hq2 : m2.length ≤ 2000001 := (by rw [← he, List.length_append]; simp [be_length]; omega)) | (at_builtin; (refine wpList_app_str rfl _ _ rfl (w.heap.size) A2 c2 m2 rfl h1 x rfl (by omega) (Nat.le_trans KP.out.size (Gw.ahead HKA.out h2).keeps.size) ?_); intro A3 c3 W3 g1 g2; generalize hf : m2 ++ x = m3 at g1 g2 ⊢))
            have hg := Gw.ahead HKA.out h2
            clear HO HL HV HZ HKA
            replace KP := Lib.hid (KP.out.and hg.keeps (fun k hk e => by have := (Byt.lt_ BY.out k e).1; omega))
            replace BX := Lib.hid (whole_far BX.out BY.out hg (by decide))
            have hapn := Apv.grow AP.out hg (fun k hk => (Byt.lt_ BB.out k hk).2)
            replace BB := Lib.hid (Byt.far BB.out hg AP.out)
            replace AP := Lib.hid hapn
            clear hapn
            replace HM : Hid (U = m2 ++ (x ++ (p.texts.drop (j + 1)).flatMap textE)) := Lib.hid (by rw [HM.out, ← he]; simp only [List.append_assoc])
            replace BY := Lib.hid h1
            have hlm2 := len_of HM.out hTt
            clear he h1 h2 hg
            replace KP := Lib.hid (KP.out.and g2.keeps (fun k hk e => by have := (Byt.lt_ BY.out k e).1; omega))
            replace BX := Lib.hid (whole_far BX.out BY.out g2 (by decide))
            have hapn := Apv.grow AP.out g2 (fun k hk => (Byt.lt_ BB.out k hk).2)
            replace BB := Lib.hid (Byt.far BB.out g2 AP.out)
            replace AP := Lib.hid hapn
            clear hapn
            replace HM : Hid (U = m3 ++ (p.texts.drop (j + 1)).flatMap textE) := Lib.hid (by rw [HM.out, ← hf]; simp only [List.append_assoc])
            replace BY := Lib.hid g1
            have hlm3 := len_of HM.out hTt
            clear hf g1 g2
            clear hc hcn b0 b1 b2 b3
            go_wp2_with fail
            go_roundw
            case rel => exact ⟨j + 1, m3, A3, c3, by omega, by go_num, rfl, HM, BY, KP, BX, BB, AP⟩
            case measure => simp [intOf]; omega
          · have hme : U = m := by rw [HM.out, fm_done textE _ _ (by omega), List.append_nil]
            subst hme
            clear HM hlm
            go_wp2_with fail
            refine (refSec_lit 3 3#8 rfl U w.heap.size w.heap.size C2 A' q2 c l2 wr BB.out KP.out.size BY.out AP.out.symm (by first | exact headP_le | omega) (by omega)).mono ?_
            rintro e S3 ⟨C3, q3, rfl, h1, h2⟩
            generalize he : l2 ++ secE 3#8 U = l3 at h1 h2 ⊢
            have hl3 : l3.length ≤ l2.length + (5 + U.length) := by rw [← he, List.length_append, secE_length]; exact Nat.le_refl _
            have HL3 : Hid (l3 = l2 ++ secE 3#8 U) := Lib.hid he.symm
            replace KP := Lib.hid (KP.out.and h2.keeps (fun k hk e => by have := (Byt.lt_ BB.out k e).1; omega))
            replace BX := Lib.hid (whole_far BX.out BB.out h2 (by decide))
            replace BB := Lib.hid h1
            clear he h1 h2 BY AP
            clear a0 a1 a2 a3
            obtain ⟨a0, a1, a2, a3⟩ := four BX.out
            go_wp2_with fail
            refine (kinds_ref p.kinds Ak ck S3 ((HX.out.past KP.out).kinds) hmk HF.out.each (by omega)).mono ?_
            rintro e Z1 ⟨D1, z1, rfl, h1, kg⟩
            have AP := Lib.hid (apv_new BB.out (fun k hk => (Byt.lt_ h1 k hk).1)).symm
            have BY : Hid (Byt Z1 w.heap.size D1 z1 (kindsE p.kinds)) := Lib.hid (World.ownsRow.mono h1 KP.out.size)
            replace BB := Lib.hid (own_keepsS BB.out kg (fun _ _ => id))
            replace BX := Lib.hid (BX.out.keeps kg id)
            replace KP := Lib.hid (KP.out.trans kg)
            obtain ⟨y4, hy4⟩ : ∃ y, y = kindsE p.kinds := ⟨_, rfl⟩
            rw [← hy4] at BY AP hTk ⊢
            have HY4 := Lib.hid hy4
            clear hy4 h1 kg a0 a1 a2 a3
            go_wp2_with fail
            refine (refSec_lit 4 4#8 rfl y4 w.heap.size w.heap.size C3 D1 q3 z1 l3 Z1 BB.out KP.out.size BY.out AP.out.symm (by first | exact headP_le | omega) (by omega)).mono ?_
            rintro e S4 ⟨C4, q4, rfl, h1, h2⟩
            generalize he : l3 ++ secE 4#8 y4 = l4 at h1 h2 ⊢
            have hl4 : l4.length ≤ l3.length + (5 + y4.length) := by rw [← he, List.length_append, secE_length]; exact Nat.le_refl _
            have HL4 : Hid (l4 = l3 ++ secE 4#8 y4) := Lib.hid he.symm
            replace KP := Lib.hid (KP.out.and h2.keeps (fun k hk e => by have := (Byt.lt_ BB.out k e).1; omega))
            replace BX := Lib.hid (whole_far BX.out BB.out h2 (by decide))
            replace BB := Lib.hid h1
            clear he h1 h2 BY AP
            go_wp2_with fail
            refine (sealed_any l4 C4 _ q4 S4 (own_lies BB.out) (Nat.le_refl _) (by omega)).mono ?_
            rintro e Z2 ⟨D2, z2, rfl, h1, h2⟩
            have HE : Hid (encP p = (sealedL l4, 0)) := Lib.hid (by
              unfold encP packE secsE
              rw [if_neg (by rw [HC.out]; simp), HL4.out, HL3.out, HL2.out, HL1.out, HY1.out, HTI.out, HTT.out, HY4.out]
              simp only [List.append_assoc])
            have BR : Hid (Byt Z2 w.heap.size D2 z2 (sealedL l4)) := Lib.hid (World.ownsRow.mono h1 KP.out.size)
            replace KP := Lib.hid (KP.out.trans (keepsAll h2))
            clear h1 h2
            generalize sealedL l4 = R at *
            go_wp2_with fail
            go_ret2
            refine ⟨D2, z2, ?_, ?_, KP.out⟩
            · rw [HE.out]; rfl
            · rw [HE.out]; exact BR.out
end Go.Proofs.YtcmbdnjcfneinaaGreatDoor
