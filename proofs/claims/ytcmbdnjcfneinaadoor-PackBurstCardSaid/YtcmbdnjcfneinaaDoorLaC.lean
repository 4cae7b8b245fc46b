/-
  The law PackBurst walked. Conditions: errors.errorType is as Go lays it.
-/
import Derived.Test.YtcmbdnjcfneinaaDoorLaM
namespace Go.Proofs.YtcmbdnjcfneinaaDoor
open Go.RowKit
set_option maxRecDepth 8000 in
set_option maxHeartbeats 4000000 in
theorem packBurst_any (p : Pk) (Ai At Ak : Option Addr) (ci ct ck : Nat) (b : List Oct) (A : Option Addr) (at_ : Int) (T : Crc.W) (w : World) (hx : PkIn w w.heap.size p Ai At Ak) (hm : PkBig p) (hl : Lies w w.heap.size A (bytesV b)) (hg : ErrT w) :
    Calls Tryd.prog 4 #[.agg (pkC p Ai At Ak ci ct ck), .int .i64 at_, .int .u32 (wn T)] w fun e w' => e = .returned (.bool true) ∧ Keeps (fun _ => False) w w' := by
  have ka := (Keeps.refl (fun _ => False) w).alloc (.cells (pkC p Ai At Ak ci ct ck) 26)
  have HA0 : Hid (LawAt p Ai At Ak ci ct ck w.heap.size b A w (w.alloc (.cells (pkC p Ai At Ak ci ct ck) 26))) := Lib.hid ⟨Whole.made w _ _, hx.past ka, hl.pastK ka, hg.keeps ka, ka⟩
  have HBig := Lib.hid hm
  clear hx hl hg hm ka
  go_enter Tryd.func4, Tryd.ntmps4
  unfold pkC at HA0 ⊢
  go_wp2_with fail
  generalize w.alloc _ = w0 at *
  refine (works19_any w0 HA0.out.err).mono ?_
  rintro e w1 ⟨rfl, k1⟩
  have HA1 := Lib.hid (HA0.out.past k1)
  clear HA0 k1
  go_wp2_with (first
    | refine wpList_load_whole rfl 26 _ rfl _ rfl 26 _ _ HA1.out.box Tryd.underlying26 rfl sizePk ?_)
  refine (beyond_any p Ai At Ak ci ct ck w1 HA1.out.pack HBig.out).mono ?_
  rintro e w2 ⟨v, rfl, hv, k2⟩
  have HA2 := Lib.hid (HA1.out.past k2)
  clear HA1 k2
  cases v with
  | true =>
    clear hv
    go_wp2_with fail
    go_ret
    exact ⟨rfl, HA2.out.old⟩
  | false =>
    have HOk := Lib.hid (hv rfl)
    clear hv
    by_cases h40 : at_ < 40
    · go_wp2_with fail
      go_ret
      exact ⟨rfl, HA2.out.old⟩
    by_cases h24 : 16777216 < at_
    · go_wp2_with fail
      go_ret
      exact ⟨rfl, HA2.out.old⟩
    obtain ⟨n, rfl⟩ : ∃ n : Nat, at_ = n := ⟨at_.toNat, by omega⟩
    have hn40 : 40 ≤ n := by omega
    have hn24 : n ≤ 16777216 := by omega
    have HN40 := Lib.hid hn40
    have HN24 := Lib.hid hn24
    have hd40 : ((n : Int) < 40) = False := eq_false h40
    have hd24 : ((16777216 : Int) < n) = False := eq_false h24
    clear h40 h24 hn40 hn24
    go_wp2_with (first
        | refine wpList_load_whole rfl 26 _ rfl _ rfl 26 _ _ HA2.out.box Tryd.underlying26 rfl sizePk ?_)
    refine (encodeT_any p Ai At Ak ci ct ck w2 HA2.out.pack HOk.out).mono ?_
    rintro e w3 ⟨A1, cap1, he, hcap1, hl1, k⟩
    have HA3 := Lib.hid (HA2.out.past k)
    clear HA2 k
    by_cases hc : chk p = 0
    · rw [encP_ok hc] at he hcap1 hl1
      subst he
      simp only [] at hcap1 hl1 ⊢
      obtain ⟨hdec, hlen⟩ := dec_enc hc HOk.out.few.ints64
      have HL3 := Lib.hid hl1
      have hlen2 : (packE p).length ≤ 1000000000 := by omega
      have hlen4 : 4 ≤ (packE p).length := by rw [packE_length]; unfold sizeP; omega
      have hB : Hid (∀ y, TurnedTo (packE p) n T 32 y → T ≠ 0#32 → decP y = (zeroPk, 53, (packE p).length - 4)) := Lib.hid (fun y hy hT => by
        have h := dec_burst hc HOk.out.few.ints64 (at_ := n) HN40.out hy.len.symm (fun m hd => hy.window m hd) (hy.other hT)
        rw [h, hy.len])
      clear hc hdec hl1 hlen
      generalize packE p = c at *
      go_wp2_with fail
      refine (turned_any c n T A1 _ cap1 w3 HL3.out (by omega) (by omega) HN24.out).mono ?_
      rintro e w4 ⟨A4, cap4, is, y, rfl, ho, hy, hb⟩
      have HA4 := Lib.hid (HA3.out.past (keepsAll hb))
      have HY := Lib.hid (own_lies ho)
      obtain ⟨A5, c5, e2, hcap4, _⟩ := own_slice ho
      obtain ⟨rfl, rfl⟩ : A4 = A5 ∧ cap4 = c5 := by
        injection e2 with h1 h2 h3
        exact ⟨h1, h3⟩
      clear HA3 HL3 ho hb hcap1
      cases is with
      | false =>
        clear hy HY hB
        go_wp2_with fail
        go_ret
        exact ⟨rfl, HA4.out.old⟩
      | true =>
        obtain ⟨hy1, hy2⟩ := hy rfl
        have HD := Lib.hid (hB.out y hy1 hy2)
        have hyl := hy1.len
        clear hy hy1 hy2 hB
        have HDec := decodeT_any y A4 cap4 w4 HY.out (by omega) (by omega) HA4.out.err
        rw [hyl] at HDec
        replace HDec := Lib.hid HDec
        clear hyl
        go_wp2_with fail
        refine HDec.out.mono ?_
        rintro e w5 ⟨q, Bi, Bt, Bk, di, dt, dk, he, hq, hqi, hqo, k⟩
        rw [HD.out] at he hq
        subst he
        simp only [] at hq ⊢
        subst hq
        have ka := (Keeps.refl (fun _ => False) w5).alloc (.cells (pkC zeroPk Bi Bt Bk di dt dk) 26)
        have HA5 := Lib.hid (HA4.out.past (k.trans ka))
        have HT := Lib.hid (Whole.made w5 26 (pkC zeroPk Bi Bt Bk di dt dk))
        have HEq := Lib.hid (eqT_same zeroPk Bi Bt Bk none none none di dt dk 0 0 0 _ (hqi.past ka) (zeroPk_in _ _) zeroPk_ok.few)
        have hsub : (((c.length - 4 : Nat) : Int) == (c.length : Int) - 4) = true := by simp; omega
        clear hqi hqo k ka HA4 HY HD HDec
        unfold pkC at HT HA5 HEq ⊢
        generalize (c.length - 4 : Nat) = z at *
        go_wp2_with (first
    | refine wpList_load_whole rfl 26 _ rfl _ rfl 26 _ _ HT.out Tryd.underlying26 rfl sizePk ?_)
        refine HEq.out.mono ?_
        rintro e w6 ⟨rfl, k⟩
        have HA6 := Lib.hid (HA5.out.past k)
        clear HA5 HT HEq k
        go_wp2_with fail
        go_ret
        exact ⟨rfl, HA6.out.old⟩
    · rw [encP_bad hc] at he hcap1 hl1
      subst he
      clear hcap1 hl1
      have hne : ((chk p : Int) != 0) = true := by simp [hc]
      clear hc
      generalize chk p = cv at *
      go_wp2_with fail
      go_ret
      exact ⟨rfl, HA3.out.old⟩
end Go.Proofs.YtcmbdnjcfneinaaDoor
