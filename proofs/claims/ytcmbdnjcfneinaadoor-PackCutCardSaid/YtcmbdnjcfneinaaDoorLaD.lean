/-
  The law PackCut walked. Conditions: errors.errorType is as Go lays it.
-/
import Derived.Test.YtcmbdnjcfneinaaDoorLaM
namespace Go.Proofs.YtcmbdnjcfneinaaDoor
open Go.RowKit
theorem cut_lies {w : World} {B : Nat} {A : Option Addr} {b : List Oct} (n : Nat) (h : Lies w B A (bytesV b)) : Lies w B A (bytesV (b.take n)) := by
  have hb : bytesV b = bytesV (b.take n) ++ bytesV (b.drop n) := by rw [← bytesV_append, List.take_append_drop]
  intro k u hu
  refine h k u ?_
  rw [hb, List.getElem?_append_left]
  · exact hu
  · rcases Nat.lt_or_ge k (bytesV (b.take n)).length with h | h
    · exact h
    · rw [List.getElem?_eq_none h] at hu; cases hu
theorem cut_ones (l : List Oct) : ∀ u ∈ bytesV l, u.oneCell' = true := by simp [bytesV, byteV]; intros; rfl
set_option maxRecDepth 8000 in
set_option maxHeartbeats 4000000 in
theorem packCut_any (p : Pk) (Ai At Ak : Option Addr) (ci ct ck : Nat) (more : List Oct) (A : Option Addr) (cut : Int) (cap : Nat) (hbl : more.length ≤ 140737488355328) (w : World) (hx : PkIn w w.heap.size p Ai At Ak) (hm : PkBig p) (hl : Lies w w.heap.size A (bytesV more)) (hg : ErrT w) :
    Calls Tryd.prog 5 #[.agg (pkC p Ai At Ak ci ct ck), .int .i64 cut, .slice A more.length cap] w fun e w' => e = .returned (.bool true) ∧ Keeps (fun _ => False) w w' := by
  have ka := (Keeps.refl (fun _ => False) w).alloc (.cells (pkC p Ai At Ak ci ct ck) 26)
  have HA0 : Hid (LawAt p Ai At Ak ci ct ck w.heap.size more A w (w.alloc (.cells (pkC p Ai At Ak ci ct ck) 26))) := Lib.hid ⟨Whole.made w _ _, hx.past ka, hl.pastK ka, hg.keeps ka, ka⟩
  have HBig := Lib.hid hm
  clear hx hl hg hm ka
  go_enter Tryd.func5, Tryd.ntmps5
  unfold pkC at HA0 ⊢
  go_wp2_with fail
  generalize w.alloc _ = w0 at *
  refine (works19_any w0 HA0.out.err).mono ?_
  rintro e w1 ⟨rfl, k1⟩
  have HA1 := Lib.hid (HA0.out.past k1)
  clear HA0 k1
  go_wp2_with (first
    | refine wpList_load_whole rfl 26 _ rfl _ rfl 26 _ _ HA1.out.box Tryd.underlying26 rfl sizePk ?_)
  refine (beyond_any p Ai At Ak ci ct ck w1 HA1.out.pack HBig.out).mono ?_
  rintro e w2 ⟨v, rfl, hv, k2⟩
  have HA2 := Lib.hid (HA1.out.past k2)
  clear HA1 k2
  cases v with
  | true =>
    clear hv
    go_wp2_with fail
    go_ret
    exact ⟨rfl, HA2.out.old⟩
  | false =>
    have HOk := Lib.hid (hv rfl)
    clear hv
    by_cases hb : more.length ≤ 1048576
    · have hbi : ((1048576 : Int) < more.length) = False := eq_false (by omega)
      go_wp2_with (first
          | refine wpList_load_whole rfl 26 _ rfl _ rfl 26 _ _ HA2.out.box Tryd.underlying26 rfl sizePk ?_)
      refine (encodeT_any p Ai At Ak ci ct ck w2 HA2.out.pack HOk.out).mono ?_
      rintro e w3 ⟨A1, cap1, he, hcap1, hl1, k⟩
      have HA3 := Lib.hid (HA2.out.past k)
      clear HA2 k
      by_cases hc : chk p = 0
      · rw [encP_ok hc] at he hcap1 hl1
        subst he
        simp only [] at hcap1 hl1 ⊢
        obtain ⟨hdec, hlen⟩ := dec_enc hc HOk.out.few.ints64
        have HL3 := Lib.hid hl1
        have hlen2 : (packE p).length ≤ 1000000000 := by omega
        have hlen4 : 4 ≤ (packE p).length := by rw [packE_length]; unfold sizeP; omega
        have HCut : Hid (∀ n : Nat, n < (packE p).length → (decP ((packE p).take n)).2.1 ≠ 0) := Lib.hid (fun n hn => dec_cut hc HOk.out.few.ints64 hn)
        have HM : Hid (more ≠ [] → (packE p).length + more.length ≤ 1048576 → decP (sealedL ((packE p).take ((packE p).length - 4) ++ more)) = (zeroPk, 55, (packE p).length - 4)) := Lib.hid (fun h1 h2 => dec_more hc HOk.out.few.ints64 h1 h2)
        clear hc hdec hl1 hlen
        generalize packE p = c at *
        obtain ⟨g1, o1, rfl⟩ : ∃ g o, A1 = some ⟨g, o, none⟩ := by
          obtain ⟨g, off, e, _⟩ := HL3.out 0 _ (bytesV_get c 0 (by omega))
          exact ⟨g, off, e⟩
        by_cases hcut : 0 ≤ cut ∧ cut < c.length
        · obtain ⟨n, rfl⟩ : ∃ n : Nat, cut = n := ⟨cut.toNat, by omega⟩
          have hnc : n < c.length := by omega
          have hnt : (c.take n).length = n := by rw [List.length_take]; omega
          have HT3 := Lib.hid (cut_lies n HL3.out)
          have HDec := decodeT_any (c.take n) (some ⟨g1, o1, none⟩) cap1 w3 HT3.out (by omega) (by omega) HA3.out.err
          rw [hnt] at HDec
          replace HDec := Lib.hid HDec
          have hf := HCut.out n hnc
          have hncap : n ≤ cap1 := by omega
          have hcut0 : ((0 : Int) ≤ n) = True := eq_true (by omega)
          have hcutc : ((n : Int) < c.length) = True := eq_true (by omega)
          clear hcut hnt HT3 HCut
          generalize c.take n = cn at *
          go_wp2_with fail
          refine HDec.out.mono ?_
          rintro e w4 ⟨q, Bi, Bt, Bk, di, dt, dk, rfl, hq, hqi, hqo, k⟩
          have hfe : (((decP cn).2.1 : Int) == 0) = false := by simp [hf]
          have HA4 := Lib.hid (HA3.out.past k)
          have HL4 := Lib.hid (HL3.out.pastK k)
          clear hqi hqo k HA3 HL3 HDec hq hf
          generalize (decP cn).2.1 = fv at *
          generalize (decP cn).2.2 = fa at *
          unfold pkC at HA4 ⊢
          have ka := (Keeps.refl (fun _ => False) w4).alloc (.cells #[.int .i64 q.cards, .slice Bi q.ints.length di, .slice Bt q.texts.length dt, .slice Bk q.kinds.length dk] 26)
          have HA5 := Lib.hid (HA4.out.past ka)
          have HL5 := Lib.hid (HL4.out.pastK ka)
          clear ka HA4 HL4
          by_cases hm0 : more = []
          · subst hm0
            clear HM
            go_wp2_with fail; generalize w4.alloc _ = w5 at *
            go_ret
            exact ⟨rfl, HA5.out.old⟩
          by_cases hml : c.length + more.length ≤ 1048576
          · have HD := Lib.hid (HM.out hm0 hml)
            have hmp : 0 < more.length := List.length_pos_iff.2 hm0
            have hmz : ((more.length : Int) == 0) = false := beq_eq_false_iff_ne.2 (by omega)
            have hmz2 : ((more.length : Int) = 0) = False := eq_false (by omega)
            have hmz3 : (more.length = 0) = False := eq_false (by omega)
            have hmz4 : (more = []) = False := eq_false hm0
            have hn4 : ((c.length : Int) - 4 < 0) = False := eq_false (by omega)
            have hzc : Hid ((((c.length - 4 : Nat) : Int) == (c.length : Int) - 4) = true) := Lib.hid (by simp; omega)
            have hzl : c.length - 4 ≤ cap1 := by omega
            have hzt : (c.take (c.length - 4)).length = c.length - 4 := by rw [List.length_take]; omega
            have HT4 := Lib.hid (cut_lies (c.length - 4) HL5.out)
            have HCp := copyBytes_any (c.take (c.length - 4)) (some ⟨g1, o1, none⟩) _ cap1 _ HT4.out (by omega)
            rw [hzt] at HCp
            replace HCp := Lib.hid HCp
            have HZ := Lib.hid hzt
            have hz9 : c.length - 4 + more.length ≤ 1048576 := by omega
            clear hm0 hzt HM HT4 HL5
            go_wp2_with fail; generalize w4.alloc _ = w5 at *
            have hzc' := hzc.out
            generalize hzz : c.length - 4 = z at *
            generalize c.take z = ct at *
            clear hzz hzc
            refine HCp.out.mono ?_
            rintro e w6 ⟨A5, cap5, rfl, ho, _, hb⟩
            have hb' : Below w5.heap.size w5 w6 := hb
            have HL5 := Lib.hid ((HA5.out.past (keepsAll hb)).bytes)
            have hown : w6.ownsRow w5.heap.size 5 1 (.slice A5 z cap5) z (bytesV ct) := ho
            clear ho hb HCp
            go_wp2_with (first
              | (at_builtin
                 refine wpList_append_lies _ rfl _ _ 27 rfl w5.heap.size 5 (.int .u8 0) 1 Tryd.underlying27 info_u8 rfl (.slice A5 z cap5) z (bytesV ct) rfl hown _ A more.length cap (bytesV more) rfl HL5.out (bytesV_length more) (cut_ones more) (by simp only [maxLen]; omega) (by omega) hb'.size ?_
                 intro A6 cap6 w7 hown2 hg2 _ _))
            have HA7 := Lib.hid (HA5.out.past (keepsAll (hb'.grown hg2 hb'.size (fun k hk => (hown.lt k hk).1))))
            have HS := Lib.hid (own_lies hown2)
            have HSl := Lib.hid (by rw [List.length_append, HZ.out] : (ct ++ more).length = z + more.length)
            have HSe := sealedT_any (ct ++ more) A6 cap6 w7 (by rw [bytesV_append]; exact HS.out) (by rw [HSl.out]; omega)
            rw [HSl.out] at HSe
            replace HSe := Lib.hid HSe
            clear HS hown hown2 hg2 HL5 hb' HA5
            go_wp2_with fail
            refine HSe.out.mono ?_
            rintro e w8 ⟨A7, cap7, he, hcap7, hl7, k⟩
            have HA8 := Lib.hid (HA7.out.past k)
            have HS7 := Lib.hid hl7
            have hs9 : (sealedL (ct ++ more)).length ≤ 1000000000 := by rw [sealedL_length, HSl.out]; omega
            clear hl7 k HA7 HSe HSl
            generalize sealedL (ct ++ more) = bs at *
            subst he
            go_wp2_with fail
            refine (decodeT_any bs A7 cap7 _ HS7.out hcap7 hs9 HA8.out.err).mono ?_
            rintro e w9 ⟨q, Bi, Bt, Bk, di, dt, dk, he, hq, hqi, hqo, k⟩
            rw [HD.out] at he
            subst he
            have HA9 := Lib.hid (HA8.out.past k)
            clear hqi hqo k HA8 HS7 HD hq
            unfold pkC at HA9 ⊢
            have ka := (Keeps.refl (fun _ => False) w9).alloc (.cells #[.int .i64 q.cards, .slice Bi q.ints.length di, .slice Bt q.texts.length dt, .slice Bk q.kinds.length dk] 26)
            have HA10 := Lib.hid (HA9.out.past ka)
            clear ka
            go_wp2_with fail
            go_ret
            exact ⟨rfl, HA10.out.old⟩
          · have hmg : (1048576 : Int) < (c.length : Int) + more.length := by omega
            have hmz : ((more.length : Int) == 0) = false := by
              have := List.length_pos_iff.2 hm0
              simp; omega
            clear HM hml
            go_wp2_with fail; generalize w4.alloc _ = w5 at *
            go_ret
            exact ⟨rfl, HA5.out.old⟩
        · clear HCut
          have hcut0 : (decide ((0 : Int) ≤ cut) && decide (cut < c.length)) = false := by
            rw [Bool.and_eq_false_iff, decide_eq_false_iff_not, decide_eq_false_iff_not]; omega
          by_cases hc0 : 0 ≤ cut
          · have hcc : (cut < (c.length : Int)) = False := eq_false (by omega)
            clear hcut hcut0
            by_cases hm0 : more = []
            · subst hm0
              clear HM
              go_wp2_with fail
              go_ret
              exact ⟨rfl, HA3.out.old⟩
            by_cases hml : c.length + more.length ≤ 1048576
            · have HD := Lib.hid (HM.out hm0 hml)
              have hmp : 0 < more.length := List.length_pos_iff.2 hm0
              have hmz : ((more.length : Int) == 0) = false := beq_eq_false_iff_ne.2 (by omega)
              have hmz2 : ((more.length : Int) = 0) = False := eq_false (by omega)
              have hmz3 : (more.length = 0) = False := eq_false (by omega)
              have hmz4 : (more = []) = False := eq_false hm0
              have hn4 : ((c.length : Int) - 4 < 0) = False := eq_false (by omega)
              have hzc : Hid ((((c.length - 4 : Nat) : Int) == (c.length : Int) - 4) = true) := Lib.hid (by simp; omega)
              have hzl : c.length - 4 ≤ cap1 := by omega
              have hzt : (c.take (c.length - 4)).length = c.length - 4 := by rw [List.length_take]; omega
              have HT4 := Lib.hid (cut_lies (c.length - 4) HL3.out)
              have HCp := copyBytes_any (c.take (c.length - 4)) (some ⟨g1, o1, none⟩) _ cap1 _ HT4.out (by omega)
              rw [hzt] at HCp
              replace HCp := Lib.hid HCp
              have HZ := Lib.hid hzt
              have hz9 : c.length - 4 + more.length ≤ 1048576 := by omega
              clear hm0 hzt HM HT4 HL3
              go_wp2_with fail
              have hzc' := hzc.out
              generalize hzz : c.length - 4 = z at *
              generalize c.take z = ct at *
              clear hzz hzc
              refine HCp.out.mono ?_
              rintro e w4 ⟨A5, cap5, rfl, ho, _, hb⟩
              have hb' : Below w3.heap.size w3 w4 := hb
              have HL5 := Lib.hid ((HA3.out.past (keepsAll hb)).bytes)
              have hown : w4.ownsRow w3.heap.size 5 1 (.slice A5 z cap5) z (bytesV ct) := ho
              clear ho hb HCp
              go_wp2_with (first
                | (at_builtin
                   refine wpList_append_lies _ rfl _ _ 27 rfl w3.heap.size 5 (.int .u8 0) 1 Tryd.underlying27 info_u8 rfl (.slice A5 z cap5) z (bytesV ct) rfl hown _ A more.length cap (bytesV more) rfl HL5.out (bytesV_length more) (cut_ones more) (by simp only [maxLen]; omega) (by omega) hb'.size ?_
                   intro A6 cap6 w5 hown2 hg2 _ _))
              have HA5 := Lib.hid (HA3.out.past (keepsAll (hb'.grown hg2 hb'.size (fun k hk => (hown.lt k hk).1))))
              have HS := Lib.hid (own_lies hown2)
              have HSl := Lib.hid (by rw [List.length_append, HZ.out] : (ct ++ more).length = z + more.length)
              have HSe := sealedT_any (ct ++ more) A6 cap6 w5 (by rw [bytesV_append]; exact HS.out) (by rw [HSl.out]; omega)
              rw [HSl.out] at HSe
              replace HSe := Lib.hid HSe
              clear HS hown hown2 hg2 HL5 hb' HA3
              go_wp2_with fail
              refine HSe.out.mono ?_
              rintro e w6 ⟨A7, cap7, he, hcap7, hl7, k⟩
              have HA6 := Lib.hid (HA5.out.past k)
              have HS7 := Lib.hid hl7
              have hs9 : (sealedL (ct ++ more)).length ≤ 1000000000 := by rw [sealedL_length, HSl.out]; omega
              clear hl7 k HA5 HSe HSl
              generalize sealedL (ct ++ more) = bs at *
              subst he
              go_wp2_with fail
              refine (decodeT_any bs A7 cap7 _ HS7.out hcap7 hs9 HA6.out.err).mono ?_
              rintro e w7 ⟨q, Bi, Bt, Bk, di, dt, dk, he, hq, hqi, hqo, k⟩
              rw [HD.out] at he
              subst he
              have HA7 := Lib.hid (HA6.out.past k)
              clear hqi hqo k HA6 HS7 HD hq
              unfold pkC at HA7 ⊢
              have ka := (Keeps.refl (fun _ => False) w7).alloc (.cells #[.int .i64 q.cards, .slice Bi q.ints.length di, .slice Bt q.texts.length dt, .slice Bk q.kinds.length dk] 26)
              have HA8 := Lib.hid (HA7.out.past ka)
              clear ka
              go_wp2_with fail
              go_ret
              exact ⟨rfl, HA8.out.old⟩
            · have hmg : (1048576 : Int) < (c.length : Int) + more.length := by omega
              have hmz : ((more.length : Int) == 0) = false := by
                have := List.length_pos_iff.2 hm0
                simp; omega
              clear HM hml
              go_wp2_with fail
              go_ret
              exact ⟨rfl, HA3.out.old⟩
          · clear hcut hcut0
            by_cases hm0 : more = []
            · subst hm0
              clear HM
              go_wp2_with fail
              go_ret
              exact ⟨rfl, HA3.out.old⟩
            by_cases hml : c.length + more.length ≤ 1048576
            · have HD := Lib.hid (HM.out hm0 hml)
              have hmp : 0 < more.length := List.length_pos_iff.2 hm0
              have hmz : ((more.length : Int) == 0) = false := beq_eq_false_iff_ne.2 (by omega)
              have hmz2 : ((more.length : Int) = 0) = False := eq_false (by omega)
              have hmz3 : (more.length = 0) = False := eq_false (by omega)
              have hmz4 : (more = []) = False := eq_false hm0
              have hn4 : ((c.length : Int) - 4 < 0) = False := eq_false (by omega)
              have hzc : Hid ((((c.length - 4 : Nat) : Int) == (c.length : Int) - 4) = true) := Lib.hid (by simp; omega)
              have hzl : c.length - 4 ≤ cap1 := by omega
              have hzt : (c.take (c.length - 4)).length = c.length - 4 := by rw [List.length_take]; omega
              have HT4 := Lib.hid (cut_lies (c.length - 4) HL3.out)
              have HCp := copyBytes_any (c.take (c.length - 4)) (some ⟨g1, o1, none⟩) _ cap1 _ HT4.out (by omega)
              rw [hzt] at HCp
              replace HCp := Lib.hid HCp
              have HZ := Lib.hid hzt
              have hz9 : c.length - 4 + more.length ≤ 1048576 := by omega
              clear hm0 hzt HM HT4 HL3
              go_wp2_with fail
              have hzc' := hzc.out
              generalize hzz : c.length - 4 = z at *
              generalize c.take z = ct at *
              clear hzz hzc
              refine HCp.out.mono ?_
              rintro e w4 ⟨A5, cap5, rfl, ho, _, hb⟩
              have hb' : Below w3.heap.size w3 w4 := hb
              have HL5 := Lib.hid ((HA3.out.past (keepsAll hb)).bytes)
              have hown : w4.ownsRow w3.heap.size 5 1 (.slice A5 z cap5) z (bytesV ct) := ho
              clear ho hb HCp
              go_wp2_with (first
                | (at_builtin
                   refine wpList_append_lies _ rfl _ _ 27 rfl w3.heap.size 5 (.int .u8 0) 1 Tryd.underlying27 info_u8 rfl (.slice A5 z cap5) z (bytesV ct) rfl hown _ A more.length cap (bytesV more) rfl HL5.out (bytesV_length more) (cut_ones more) (by simp only [maxLen]; omega) (by omega) hb'.size ?_
                   intro A6 cap6 w5 hown2 hg2 _ _))
              have HA5 := Lib.hid (HA3.out.past (keepsAll (hb'.grown hg2 hb'.size (fun k hk => (hown.lt k hk).1))))
              have HS := Lib.hid (own_lies hown2)
              have HSl := Lib.hid (by rw [List.length_append, HZ.out] : (ct ++ more).length = z + more.length)
              have HSe := sealedT_any (ct ++ more) A6 cap6 w5 (by rw [bytesV_append]; exact HS.out) (by rw [HSl.out]; omega)
              rw [HSl.out] at HSe
              replace HSe := Lib.hid HSe
              clear HS hown hown2 hg2 HL5 hb' HA3
              go_wp2_with fail
              refine HSe.out.mono ?_
              rintro e w6 ⟨A7, cap7, he, hcap7, hl7, k⟩
              have HA6 := Lib.hid (HA5.out.past k)
              have HS7 := Lib.hid hl7
              have hs9 : (sealedL (ct ++ more)).length ≤ 1000000000 := by rw [sealedL_length, HSl.out]; omega
              clear hl7 k HA5 HSe HSl
              generalize sealedL (ct ++ more) = bs at *
              subst he
              go_wp2_with fail
              refine (decodeT_any bs A7 cap7 _ HS7.out hcap7 hs9 HA6.out.err).mono ?_
              rintro e w7 ⟨q, Bi, Bt, Bk, di, dt, dk, he, hq, hqi, hqo, k⟩
              rw [HD.out] at he
              subst he
              have HA7 := Lib.hid (HA6.out.past k)
              clear hqi hqo k HA6 HS7 HD hq
              unfold pkC at HA7 ⊢
              have ka := (Keeps.refl (fun _ => False) w7).alloc (.cells #[.int .i64 q.cards, .slice Bi q.ints.length di, .slice Bt q.texts.length dt, .slice Bk q.kinds.length dk] 26)
              have HA8 := Lib.hid (HA7.out.past ka)
              clear ka
              go_wp2_with fail
              go_ret
              exact ⟨rfl, HA8.out.old⟩
            · have hmg : (1048576 : Int) < (c.length : Int) + more.length := by omega
              have hmz : ((more.length : Int) == 0) = false := by
                have := List.length_pos_iff.2 hm0
                simp; omega
              clear HM hml
              go_wp2_with fail
              go_ret
              exact ⟨rfl, HA3.out.old⟩
      · rw [encP_bad hc] at he hcap1 hl1
        subst he
        clear hcap1 hl1
        have hne : ((chk p : Int) != 0) = true := by simp [hc]
        clear hc
        generalize chk p = cv at *
        go_wp2_with fail
        go_ret
        exact ⟨rfl, HA3.out.old⟩
    · have hbi : ((1048576 : Int) < more.length) = True := eq_true (by omega)
      clear hb
      go_wp2_with fail
      go_ret
      exact ⟨rfl, HA2.out.old⟩
end Go.Proofs.YtcmbdnjcfneinaaDoor
