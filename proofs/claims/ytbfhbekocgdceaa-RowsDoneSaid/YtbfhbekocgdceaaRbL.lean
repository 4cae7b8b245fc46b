/-
  RowsBack: the law's function is true at every pairs, place, pair and numbers: the walk. Conditions: the lists within what memory holds.
-/
import Derived.Test.YtbfhbekocgdceaaCuP
import Derived.Test.YtbfhbekocgdceaaPrB
import Derived.Test.YtbfhbekocgdceaaRoC
import Derived.Test.YtbfhbekocgdceaaRcM
namespace Go.Proofs.Ytbfhbekocgdceaa
open Go.RowKit
theorem samePairs_eq (x : List (Int × ByteArray)) (A A' : Option Addr) (B B' cap cap' : Nat) (w : World) (hx : PrLies w B A x) (hy : PrLies w B' A' x) (hm : x.length ≤ 1000000000) :
    Calls Try.prog 51 #[.slice A x.length cap, .slice A' x.length cap'] w fun e w' => e = .returned (.bool true) ∧ Keeps (fun _ => False) w w' :=
  (samePairs_any x x A A' B B' cap cap' w hx hy hm).mono fun e w' h => by
    obtain ⟨he, n, rfl⟩ := h
    exact ⟨by simpa using he, (Keeps.refl _ _).drewN n⟩
/-- Put in range, whatever list. -/
theorem putP_any (l : List (Int × ByteArray)) (x : Int × ByteArray) (A : Option Addr) (cap k : Nat) (w : World) (hx : PrLies w w.heap.size A l) (hA : (A = none ∧ cap = 0) ∨ ∃ g off, A = some ⟨g, off, none⟩) (hc : l.length ≤ cap) (hl : l.length ≤ 400000000) (hk : k ≤ l.length) :
    Calls Try.prog 53 #[.slice A l.length cap, .int .i64 k, .agg #[.int .i8 x.1, .string x.2]] w fun e w' => ∃ A' c', e = .returned (.tuple #[.slice A' (l.take k ++ x :: l.drop k).length c', .bool true]) ∧ MadeP w w' A' c' (l.take k ++ x :: l.drop k) := by
  have hlen : (l.take k ++ x :: l.drop k).length = l.length + 1 := by simp; omega
  rcases hA with ⟨rfl, rfl⟩ | ⟨g, off, rfl⟩
  · obtain rfl : l = [] := List.eq_nil_of_length_eq_zero (by omega)
    obtain rfl : k = 0 := by simpa using hk
    refine (putP_nil x w).mono ?_
    rintro e w' ⟨A', c', rfl, ho, hk'⟩
    exact ⟨A', c', rfl, ⟨ho, hk'⟩⟩
  · refine (putP_in l x g off cap k w hx.cells hc hl hk).mono ?_
    rintro e w' ⟨A', c', rfl, ho, hk'⟩
    exact ⟨A', c', by rw [hlen], ⟨by rw [hlen]; exact ho, hk'⟩⟩
/-- The pair is cut out again. -/
theorem cut_back (l : List (Int × ByteArray)) (x : Int × ByteArray) (k : Nat) (hk : k ≤ l.length) : (l.take k ++ x :: l.drop k).take k ++ (l.take k ++ x :: l.drop k).drop (k + 1) = l ∧ (l.take k ++ x :: l.drop k)[k]? = some x := by
  have h1 : (l.take k).length = k := by rw [List.length_take]; omega
  constructor
  · rw [List.take_append_of_le_length (by omega), List.take_of_length_le (by omega), List.drop_append, List.drop_of_length_le (by omega), h1]
    simp
  · rw [List.getElem?_append_right (by omega), h1]; simp
/-- Where the pair that was put in is found. -/
theorem find_put (m : List (Int × ByteArray)) (x : Int × ByteArray) (k : Nat) (hk : m[k]? = some x) : ∃ q : Nat, findP m x = q ∧ q ≤ k ∧ m[q]? = some x ∧ findP (m.take q) x = -1 := by
  obtain ⟨hkl, hkx⟩ := List.getElem?_eq_some_iff.1 hk
  cases hf : m.findIdx? (fun y => decide (y = x)) with
  | none =>
    rw [List.findIdx?_eq_none_iff] at hf
    have := hf m[k] (List.getElem_mem hkl)
    simp [hkx] at this
  | some q =>
    have hq := hf
    rw [List.findIdx?_eq_some_iff_getElem] at hq
    obtain ⟨h1, h2, h3⟩ := hq
    have h2 : m[q] = x := by simpa using h2
    refine ⟨q, by unfold findP; rw [hf], ?_, by rw [List.getElem?_eq_getElem h1, h2], ?_⟩
    · rcases Nat.lt_or_ge k q with h | h
      · have := h3 k h
        simp [hkx] at this
      · exact h
    · refine findP_none (fun j hj => ?_)
      rw [List.length_take] at hj
      rw [List.getElem_take]
      have := h3 j (by omega)
      simpa using this
set_option maxRecDepth 100000 in
set_option maxHeartbeats 8000000 in
theorem rowsBack_any (l : List (Int × ByteArray)) (at_ : Int) (x : Int × ByteArray) (o : List Int) (A C : Option Addr) (cap cc : Nat) (w : World) (hx : PrLies w w.heap.size A l) (hc : Lies w w.heap.size C (o.map (Value.int .i64))) (hA : (A = none ∧ cap = 0) ∨ ∃ g off, A = some ⟨g, off, none⟩) (hcap : l.length ≤ cap) (hll : l.length ≤ 1000000000000000) (hol : o.length ≤ 1000000000000000) :
    Calls Try.prog 9 #[.slice A l.length cap, .int .i64 at_, .agg #[.int .i8 x.1, .string x.2], .slice C o.length cc] w fun e w' => e = .returned (.bool true) ∧ Below w.heap.size w w' := by
  have HX := Lib.hid hx
  have HC := Lib.hid hc
  have HA := Lib.hid hA
  clear hx hc hA
  go_enter Try.func9, Try.ntmps9
  go_wp2_with fail
  obtain ⟨w0, hw0⟩ : ∃ z, z = w.alloc (.cells #[.int .i8 x.1, .string x.2] 49) := ⟨_, rfl⟩
  have K0 : Hid (Keeps (fun _ => False) w w0) := Lib.hid (by rw [hw0]; exact (Keeps.refl _ _).alloc _)
  have WX0 : Hid (Whole w0 w.heap.size 49 #[.int .i8 x.1, .string x.2]) := Lib.hid (by rw [hw0]; exact Whole.made _ _ _)
  rw [← hw0]
  clear hw0
  obtain ⟨xb, hxb⟩ : ∃ z, z = w.heap.size := ⟨_, rfl⟩
  rw [← hxb] at WX0 ⊢
  clear hxb
  refine (rworks_any w0).mono ?_
  rintro e w1 ⟨rfl, k1⟩
  have K1 := Lib.hid (K0.out.trans k1)
  have WX := Lib.hid (WX0.out.keeps k1 id)
  clear k1 K0 WX0
  by_cases hbig : 4096 < l.length + o.length
  · have hb : (4096 : Int) < (l.length : Int) + (o.length : Int) := by omega
    go_wp2_with fail
    go_ret
    exact ⟨rfl, K1.out.below (Nat.le_refl _) (fun _ h => h.elim)⟩
  · have hlb : l.length ≤ 1000000000 := by omega
    have hob : o.length ≤ 4096 := by omega
    have hl4 : l.length ≤ 4096 := by omega
    have hb : ¬ (4096 : Int) < (l.length : Int) + (o.length : Int) := by omega
    have X1 : Hid (PrLies w1 w1.heap.size A l) := Lib.hid ((HX.out.keep (fun b o h => K1.out.cell h id)).more K1.out.size)
    have x0 := WX.out.cellAt 0
    have x1 := WX.out.cellAt 1
    simp at x0 x1
    clear hbig hll hol
    by_cases hneg : at_ < 0
    · have hge : ¬ (0 ≤ at_) := by omega
      have HP := Lib.hid (putP_out A l.length cap at_ x w1 (.inl hneg))
      clear hneg
      go_wp2_with fail
      refine HP.out.mono ?_
      rintro e w2 ⟨rfl, k2⟩
      have K2 := Lib.hid (K1.out.trans k2)
      clear k2 K1 x0 x1 HP WX X1
      have XA : Hid (PrLies w2 w2.heap.size A l ∧ Lies w2 w2.heap.size C (o.map (Value.int .i64))) := Lib.hid ⟨(HX.out.keep (fun b o h => K2.out.cell h id)).more K2.out.size, (HC.out.keep (fun b o h => K2.out.cell h id)).more K2.out.size⟩
      go_wp2_with fail
      refine (rorderP_any l o A C cap cc w2 XA.out.1 XA.out.2 (by omega) (by omega)).mono ?_
      rintro e u1 ⟨Ao, co, rfl, hm⟩
      have MO := Lib.hid hm
      have U1 := Lib.hid (K2.out.trans hm.keeps)
      have XB : Hid (Lies u1 u1.heap.size C (o.map (Value.int .i64))) := Lib.hid ((HC.out.keep (fun b o h => U1.out.cell h id)).more U1.out.size)
      clear hm
      go_wp2_with fail
      refine (back_any o C cc u1 XB.out (by omega)).mono ?_
      rintro e u2 ⟨Ab, cb, rfl, hm⟩
      have MB := Lib.hid hm
      have U2 := Lib.hid (U1.out.trans hm.keeps)
      have XC : Hid (Lies u2 u2.heap.size C (o.map (Value.int .i64))) := Lib.hid ((HC.out.keep (fun b o h => U2.out.cell h id)).more U2.out.size)
      clear hm
      go_wp2_with fail
      refine (is_any o C cc u2 XC.out (by omega)).mono ?_
      rintro e u3 ⟨rfl, k3⟩
      have K3 := Lib.hid k3
      have U3 := Lib.hid (U2.out.trans k3)
      clear k3 XA XB XC
      cases hio : isO o
      · have HE : Hid (backL o = [] ∧ orderP l o = []) := Lib.hid ⟨by unfold backL; rw [hio]; rfl, by unfold orderP; rw [hio]; simp⟩
        have hob : ordB l o = false := by unfold ordB; rw [hio]; simp
        have hl1 : (backL o).length = 0 := by rw [HE.out.1]; rfl
        have hl2 : (orderP l o).length = 0 := by rw [HE.out.2]; rfl
        rw [hob]
        generalize backL o = bl at *
        generalize orderP l o = ol at *
        clear hob hio
        go_wp2_with fail
        go_ret
        exact ⟨rfl, U3.out.below (Nat.le_refl _) (fun _ h => h.elim)⟩
      · have hbl := backL_len hio
        have hbi := backL_isO hio
        have hbb := back_back hio
        have HBI := Lib.hid hbi
        have HBB := Lib.hid hbb
        have MB2 := Lib.hid (MB.out.later K3.out).1
        have HBL := Lib.hid hbl
        have HOB : Hid (l.length = o.length → orderP (orderP l o) (backL o) = l ∧ ordB (orderP l o) (backL o) = true) := Lib.hid (fun h => order_back hio h)
        clear hbi hbb hbl
        by_cases hlen : l.length = o.length
        · have hob : ordB l o = true := by unfold ordB; rw [hio, decide_eq_true hlen]; rfl
          have HON : Hid ((orderP l o).length = o.length) := Lib.hid (by rw [orderP_of hlen hio]; simp)
          have HLE := Lib.hid hlen
          rw [hob]
          have hle1 : ((o.length : Int) == (l.length : Int)) = true := by rw [hlen]; simp
          clear hob hio hlen
          go_wp2_with fail
          refine (back_any (backL o) Ab cb u3 (own_lies MB2.out) (by rw [HBL.out]; omega)).mono ?_
          rintro e u4 ⟨Ac, cc', rfl, hm⟩
          rw [HBB.out] at hm ⊢
          rw [HBI.out]
          have MC := Lib.hid hm
          have U4 := Lib.hid (U3.out.trans hm.keeps)
          have MB4 := Lib.hid (own_keepsS MB2.out hm.keeps (fun _ _ h => h))
          clear hm
          go_wp2_with fail
          refine (rsame_eq o Ac C u4.heap.size u4.heap.size cc' cc u4 (own_lies MC.out.own) ((HC.out.keep (fun b o h => U4.out.cell h id)).more U4.out.size) (by omega)).mono ?_
          rintro e u5 ⟨rfl, k5⟩
          have K5 := Lib.hid k5
          have U5 := Lib.hid (U4.out.trans k5)
          have MB5 := Lib.hid (own_keepsS MB4.out k5 (fun _ _ h => h))
          clear k5
          go_wp2_with fail
          refine (is_any (backL o) Ab cb u5 (own_lies MB5.out) (by rw [HBL.out]; omega)).mono ?_
          rintro e u6 ⟨rfl, k6⟩
          rw [HBI.out]
          have U6 := Lib.hid (U5.out.trans k6)
          have MB6 := Lib.hid (own_keepsS MB5.out k6 (fun _ _ h => h))
          have MO6 := Lib.hid (MO.out.later (MB.out.keeps.trans (K3.out.trans (MC.out.keeps.trans (K5.out.trans k6)))))
          clear k6
          go_wp2_with fail
          refine (rorderP_any (orderP l o) (backL o) Ao Ab co cb u6 MO6.out (own_lies MB6.out) (by rw [HON.out]; omega) (by rw [HBL.out]; omega)).mono ?_
          rintro e u7 ⟨Ad, cd, rfl, hm⟩
          obtain ⟨e1, e2⟩ := HOB.out HLE.out
          rw [e1] at hm ⊢
          rw [e2]
          have MD := Lib.hid hm
          have U7 := Lib.hid (U6.out.trans hm.keeps)
          clear hm e1 e2
          go_wp2_with fail
          refine (samePairs_eq l Ad A u7.heap.size u7.heap.size cd cap u7 (MD.out.later (Keeps.refl _ _)) ((HX.out.keep (fun b o h => U7.out.cell h id)).more U7.out.size) (by omega)).mono ?_
          rintro e u8 ⟨rfl, k8⟩
          have U8 := Lib.hid (U7.out.trans k8)
          clear k8
          go_wp2_with fail
          go_ret
          exact ⟨rfl, U8.out.below (Nat.le_refl _) (fun _ h => h.elim)⟩
        · have hob : ordB l o = false := by unfold ordB; rw [decide_eq_false hlen]; rfl
          have hol : (orderP l o).length = 0 := by unfold orderP; rw [if_neg (fun h => hlen h.1)]; rfl
          rw [hob]
          generalize orderP l o = ol at *
          have hle1 : ((o.length : Int) == (l.length : Int)) = false := by rw [beq_eq_false_iff_ne]; omega
          clear hob hio hlen
          go_wp2_with fail
          refine (back_any (backL o) Ab cb u3 (own_lies MB2.out) (by rw [HBL.out]; omega)).mono ?_
          rintro e u4 ⟨Ac, cc', rfl, hm⟩
          rw [HBB.out] at hm ⊢
          rw [HBI.out]
          have MC := Lib.hid hm
          have U4 := Lib.hid (U3.out.trans hm.keeps)
          have MB4 := Lib.hid (own_keepsS MB2.out hm.keeps (fun _ _ h => h))
          clear hm
          go_wp2_with fail
          refine (rsame_eq o Ac C u4.heap.size u4.heap.size cc' cc u4 (own_lies MC.out.own) ((HC.out.keep (fun b o h => U4.out.cell h id)).more U4.out.size) (by omega)).mono ?_
          rintro e u5 ⟨rfl, k5⟩
          have U5 := Lib.hid (U4.out.trans k5)
          have MB5 := Lib.hid (own_keepsS MB4.out k5 (fun _ _ h => h))
          clear k5
          go_wp2_with fail
          refine (is_any (backL o) Ab cb u5 (own_lies MB5.out) (by rw [HBL.out]; omega)).mono ?_
          rintro e u6 ⟨rfl, k6⟩
          rw [HBI.out]
          have U6 := Lib.hid (U5.out.trans k6)
          clear k6
          go_wp2_with fail
          go_ret
          exact ⟨rfl, U6.out.below (Nat.le_refl _) (fun _ h => h.elim)⟩
    · by_cases hgt : (l.length : Int) < at_
      · have hge : (0 : Int) ≤ at_ := by omega
        have hle : ¬ (at_ ≤ (l.length : Int)) := by omega
        have HP := Lib.hid (putP_out A l.length cap at_ x w1 (.inr hgt))
        clear hneg hgt
        go_wp2_with fail
        refine HP.out.mono ?_
        rintro e w2 ⟨rfl, k2⟩
        have K2 := Lib.hid (K1.out.trans k2)
        clear k2 K1 x0 x1 HP WX X1
        have XA : Hid (PrLies w2 w2.heap.size A l ∧ Lies w2 w2.heap.size C (o.map (Value.int .i64))) := Lib.hid ⟨(HX.out.keep (fun b o h => K2.out.cell h id)).more K2.out.size, (HC.out.keep (fun b o h => K2.out.cell h id)).more K2.out.size⟩
        go_wp2_with fail
        refine (rorderP_any l o A C cap cc w2 XA.out.1 XA.out.2 (by omega) (by omega)).mono ?_
        rintro e u1 ⟨Ao, co, rfl, hm⟩
        have MO := Lib.hid hm
        have U1 := Lib.hid (K2.out.trans hm.keeps)
        have XB : Hid (Lies u1 u1.heap.size C (o.map (Value.int .i64))) := Lib.hid ((HC.out.keep (fun b o h => U1.out.cell h id)).more U1.out.size)
        clear hm
        go_wp2_with fail
        refine (back_any o C cc u1 XB.out (by omega)).mono ?_
        rintro e u2 ⟨Ab, cb, rfl, hm⟩
        have MB := Lib.hid hm
        have U2 := Lib.hid (U1.out.trans hm.keeps)
        have XC : Hid (Lies u2 u2.heap.size C (o.map (Value.int .i64))) := Lib.hid ((HC.out.keep (fun b o h => U2.out.cell h id)).more U2.out.size)
        clear hm
        go_wp2_with fail
        refine (is_any o C cc u2 XC.out (by omega)).mono ?_
        rintro e u3 ⟨rfl, k3⟩
        have K3 := Lib.hid k3
        have U3 := Lib.hid (U2.out.trans k3)
        clear k3 XA XB XC
        cases hio : isO o
        · have HE : Hid (backL o = [] ∧ orderP l o = []) := Lib.hid ⟨by unfold backL; rw [hio]; rfl, by unfold orderP; rw [hio]; simp⟩
          have hob : ordB l o = false := by unfold ordB; rw [hio]; simp
          have hl1 : (backL o).length = 0 := by rw [HE.out.1]; rfl
          have hl2 : (orderP l o).length = 0 := by rw [HE.out.2]; rfl
          rw [hob]
          generalize backL o = bl at *
          generalize orderP l o = ol at *
          clear hob hio
          go_wp2_with fail
          go_ret
          exact ⟨rfl, U3.out.below (Nat.le_refl _) (fun _ h => h.elim)⟩
        · have hbl := backL_len hio
          have hbi := backL_isO hio
          have hbb := back_back hio
          have HBI := Lib.hid hbi
          have HBB := Lib.hid hbb
          have MB2 := Lib.hid (MB.out.later K3.out).1
          have HBL := Lib.hid hbl
          have HOB : Hid (l.length = o.length → orderP (orderP l o) (backL o) = l ∧ ordB (orderP l o) (backL o) = true) := Lib.hid (fun h => order_back hio h)
          clear hbi hbb hbl
          by_cases hlen : l.length = o.length
          · have hob : ordB l o = true := by unfold ordB; rw [hio, decide_eq_true hlen]; rfl
            have HON : Hid ((orderP l o).length = o.length) := Lib.hid (by rw [orderP_of hlen hio]; simp)
            have HLE := Lib.hid hlen
            rw [hob]
            have hle1 : ((o.length : Int) == (l.length : Int)) = true := by rw [hlen]; simp
            clear hob hio hlen
            go_wp2_with fail
            refine (back_any (backL o) Ab cb u3 (own_lies MB2.out) (by rw [HBL.out]; omega)).mono ?_
            rintro e u4 ⟨Ac, cc', rfl, hm⟩
            rw [HBB.out] at hm ⊢
            rw [HBI.out]
            have MC := Lib.hid hm
            have U4 := Lib.hid (U3.out.trans hm.keeps)
            have MB4 := Lib.hid (own_keepsS MB2.out hm.keeps (fun _ _ h => h))
            clear hm
            go_wp2_with fail
            refine (rsame_eq o Ac C u4.heap.size u4.heap.size cc' cc u4 (own_lies MC.out.own) ((HC.out.keep (fun b o h => U4.out.cell h id)).more U4.out.size) (by omega)).mono ?_
            rintro e u5 ⟨rfl, k5⟩
            have K5 := Lib.hid k5
            have U5 := Lib.hid (U4.out.trans k5)
            have MB5 := Lib.hid (own_keepsS MB4.out k5 (fun _ _ h => h))
            clear k5
            go_wp2_with fail
            refine (is_any (backL o) Ab cb u5 (own_lies MB5.out) (by rw [HBL.out]; omega)).mono ?_
            rintro e u6 ⟨rfl, k6⟩
            rw [HBI.out]
            have U6 := Lib.hid (U5.out.trans k6)
            have MB6 := Lib.hid (own_keepsS MB5.out k6 (fun _ _ h => h))
            have MO6 := Lib.hid (MO.out.later (MB.out.keeps.trans (K3.out.trans (MC.out.keeps.trans (K5.out.trans k6)))))
            clear k6
            go_wp2_with fail
            refine (rorderP_any (orderP l o) (backL o) Ao Ab co cb u6 MO6.out (own_lies MB6.out) (by rw [HON.out]; omega) (by rw [HBL.out]; omega)).mono ?_
            rintro e u7 ⟨Ad, cd, rfl, hm⟩
            obtain ⟨e1, e2⟩ := HOB.out HLE.out
            rw [e1] at hm ⊢
            rw [e2]
            have MD := Lib.hid hm
            have U7 := Lib.hid (U6.out.trans hm.keeps)
            clear hm e1 e2
            go_wp2_with fail
            refine (samePairs_eq l Ad A u7.heap.size u7.heap.size cd cap u7 (MD.out.later (Keeps.refl _ _)) ((HX.out.keep (fun b o h => U7.out.cell h id)).more U7.out.size) (by omega)).mono ?_
            rintro e u8 ⟨rfl, k8⟩
            have U8 := Lib.hid (U7.out.trans k8)
            clear k8
            go_wp2_with fail
            go_ret
            exact ⟨rfl, U8.out.below (Nat.le_refl _) (fun _ h => h.elim)⟩
          · have hob : ordB l o = false := by unfold ordB; rw [decide_eq_false hlen]; rfl
            have hol : (orderP l o).length = 0 := by unfold orderP; rw [if_neg (fun h => hlen h.1)]; rfl
            rw [hob]
            generalize orderP l o = ol at *
            have hle1 : ((o.length : Int) == (l.length : Int)) = false := by rw [beq_eq_false_iff_ne]; omega
            clear hob hio hlen
            go_wp2_with fail
            refine (back_any (backL o) Ab cb u3 (own_lies MB2.out) (by rw [HBL.out]; omega)).mono ?_
            rintro e u4 ⟨Ac, cc', rfl, hm⟩
            rw [HBB.out] at hm ⊢
            rw [HBI.out]
            have MC := Lib.hid hm
            have U4 := Lib.hid (U3.out.trans hm.keeps)
            have MB4 := Lib.hid (own_keepsS MB2.out hm.keeps (fun _ _ h => h))
            clear hm
            go_wp2_with fail
            refine (rsame_eq o Ac C u4.heap.size u4.heap.size cc' cc u4 (own_lies MC.out.own) ((HC.out.keep (fun b o h => U4.out.cell h id)).more U4.out.size) (by omega)).mono ?_
            rintro e u5 ⟨rfl, k5⟩
            have U5 := Lib.hid (U4.out.trans k5)
            have MB5 := Lib.hid (own_keepsS MB4.out k5 (fun _ _ h => h))
            clear k5
            go_wp2_with fail
            refine (is_any (backL o) Ab cb u5 (own_lies MB5.out) (by rw [HBL.out]; omega)).mono ?_
            rintro e u6 ⟨rfl, k6⟩
            rw [HBI.out]
            have U6 := Lib.hid (U5.out.trans k6)
            clear k6
            go_wp2_with fail
            go_ret
            exact ⟨rfl, U6.out.below (Nat.le_refl _) (fun _ h => h.elim)⟩
      · obtain ⟨k, rfl⟩ : ∃ k : Nat, at_ = k := ⟨at_.toNat, by omega⟩
        have hkl : k ≤ l.length := by omega
        have HP := Lib.hid (putP_any l x A cap k w1 X1.out HA.out hcap (by omega) hkl)
        obtain ⟨hcb, hmk⟩ := cut_back l x k hkl
        obtain ⟨q, hfq, hqk, hmq, hfn⟩ := find_put _ x k hmk
        have hml : (l.take k ++ x :: l.drop k).length = l.length + 1 := by simp; omega
        have HCB := Lib.hid hcb
        have HMK := Lib.hid hmk
        have HFQ := Lib.hid hfq
        have HMQ := Lib.hid hmq
        have HFN := Lib.hid hfn
        have HML := Lib.hid hml
        clear hcb hmk hfq hmq hfn hml hneg hgt
        generalize l.take k ++ x :: l.drop k = m at *
        go_wp2_with fail
        refine HP.out.mono ?_
        rintro e w2 ⟨Am, cm, rfl, hm⟩
        have MM := Lib.hid hm
        have K2 := Lib.hid (K1.out.trans hm.keeps)
        have WX2 := Lib.hid (WX.out.keeps hm.keeps id)
        have x0 := WX2.out.cellAt 0
        have x1 := WX2.out.cellAt 1
        simp at x0 x1
        obtain ⟨gm, om, hAm, _⟩ := (hm.later (Keeps.refl _ _)) k x HMK.out
        subst hAm
        have PM := Lib.hid (hm.later (Keeps.refl _ _))
        have hcm := hm.cap.1
        clear hm HP K1 WX X1
        have HCT := Lib.hid (cutP_in m x gm om cm k w2 PM.out.cells hcm (by rw [HML.out]; omega) HMK.out)
        go_wp2_with fail
        refine HCT.out.mono ?_
        rintro e w3 ⟨Ak, ck, rfl, ho, k3⟩
        have hm1 : m.length - 1 = l.length := by rw [HML.out]; omega
        rw [hm1, HCB.out] at ho
        rw [hm1]
        have MK : Hid (MadeP w2 w3 Ak ck l) := Lib.hid ⟨ho, k3⟩
        have hq := fun w => ne_pair x x w
        simp only [decide_true, Bool.not_true] at hq
        have HQ := Lib.hid hq
        have WX3 := Lib.hid (WX2.out.keeps k3 id)
        clear ho k3 hm1 HCT x0 x1 hq
        have x0 : ∀ o, (w3.alloc o).cell? ⟨xb, 0, none⟩ = some (.int .i8 x.1) := fun o => (WX3.out.alloc o).cellAt 0
        have x1 : ∀ o, (w3.alloc o).cell? ⟨xb, 1, none⟩ = some (.string x.2) := fun o => (WX3.out.alloc o).cellAt 1
        go_wp2_with fail
        clear x0 x1
        obtain ⟨w4, hw4⟩ : ∃ z, z = w3.alloc (.cells #[.int .i8 x.1, .string x.2] 49) := ⟨_, rfl⟩
        have K4 : Hid (Keeps (fun _ => False) w3 w4) := Lib.hid (by rw [hw4]; exact (Keeps.refl _ _).alloc _)
        have WY : Hid (Whole w4 w3.heap.size 49 #[.int .i8 x.1, .string x.2]) := Lib.hid (by rw [hw4]; exact Whole.made _ _ _)
        rw [← hw4]
        clear hw4
        obtain ⟨yb, hyb⟩ : ∃ z, z = w3.heap.size := ⟨_, rfl⟩
        rw [← hyb] at WY ⊢
        clear hyb
        have K24 : Hid (Keeps (fun _ => False) w2 w4) := Lib.hid (MK.out.keeps.trans K4.out)
        have WX4 := Lib.hid (WX2.out.keeps K24.out id)
        have PM4 : Hid (PrLies w4 w4.heap.size (some ⟨gm, om, none⟩) m) := Lib.hid ((PM.out.keep (fun b o h => K24.out.cell h id)).more K24.out.size)
        have HFD := Lib.hid (rfindP_any m x (some ⟨gm, om, none⟩) cm w4 PM4.out (by rw [HML.out]; omega))
        refine HFD.out.mono ?_
        rintro e w5 ⟨rfl, k5⟩
        rw [HFQ.out]
        have K45 := Lib.hid k5
        have K25 : Hid (Keeps (fun _ => False) w2 w5) := Lib.hid (K24.out.trans k5)
        have K5 : Hid (Keeps (fun _ => False) w w5) := Lib.hid (K2.out.trans K25.out)
        clear k5 HFD
        obtain ⟨gq, oq, hgq, hgq2, hc0, hc1⟩ := PM4.out q x HMQ.out
        obtain ⟨rfl, rfl⟩ : gm = gq ∧ om = oq := by injection hgq with e; injection e with e1 e2; exact ⟨e1, e2⟩
        have HF : ∀ W, Keeps (fun _ => False) w5 W → W.cell? ⟨gm, om + q * 2, none⟩ = some (.int .i8 x.1) ∧ W.cell? ⟨gm, om + q * 2 + 1, none⟩ = some (.string x.2) ∧ W.cell? ⟨yb, 0, none⟩ = some (.int .i8 x.1) ∧ W.cell? ⟨yb, 1, none⟩ = some (.string x.2) ∧ W.cell? ⟨xb, 0, none⟩ = some (.int .i8 x.1) ∧ W.cell? ⟨xb, 1, none⟩ = some (.string x.2) := fun W hW => by
          have hk := K45.out.trans hW
          have h1 := WY.out.keeps hk id
          have h2 := WX4.out.keeps hk id
          exact ⟨(hk.cell hgq2 id).trans hc0, (hk.cell hgq2 id).trans hc1, h1.cellAt 0, h1.cellAt 1, h2.cellAt 0, h2.cellAt 1⟩
        have KL : Hid (∀ W, Keeps (fun _ => False) w5 W → PrLies W w5.heap.size Ak l) := Lib.hid (fun W hW => ((MK.out.later (K4.out.trans K45.out))).keep (fun b o h => hW.cell h id))
        have XL : Hid (∀ W, Keeps (fun _ => False) w5 W → PrLies W w.heap.size A l) := Lib.hid (fun W hW => HX.out.keep (fun b o h => (K5.out.trans hW).cell h id))
        have HFM : Hid (∀ W, Keeps (fun _ => False) w5 W → Calls Try.prog 55 #[.slice (some ⟨gm, om, none⟩) q cm, .agg #[.int .i8 x.1, .string x.2]] W fun e w' => e = .returned (.int .i64 (-1)) ∧ Keeps (fun _ => False) W w') := Lib.hid (fun W hW => by
          have hqm : q < m.length := (List.getElem?_eq_some_iff.1 HMQ.out).1
          have hk := K45.out.trans hW
          have h1 : PrLies W W.heap.size (some ⟨gm, om, none⟩) (m.take q) := fun j y hy => by
            have hj : m[j]? = some y := by
              rw [List.getElem?_take] at hy
              split at hy
              · exact hy
              · cases hy
            obtain ⟨g', o', e, h2, h3, h4⟩ := PM4.out j y hj
            exact ⟨g', o', e, Nat.lt_of_lt_of_le h2 hk.size, (hk.cell h2 id).trans h3, (hk.cell h2 id).trans h4⟩
          have h2 := rfindP_any (m.take q) x (some ⟨gm, om, none⟩) cm W h1 (by rw [List.length_take, HML.out]; omega)
          rw [HFN.out, List.length_take, Nat.min_eq_left (by omega)] at h2
          exact h2)
        have hq := fun w => HQ.out w
        have hqI : (q : Int) < (m.length : Int) := by have := (List.getElem?_eq_some_iff.1 HMQ.out).1; omega
        have hqc : (q : Int) ≤ (cm : Int) := by omega
        have hqc2 : q ≤ cm := by omega
        have hkq : ¬ (k : Int) < (q : Int) := by omega
        have hkq2 : ¬ k < q := by omega
        have hq0 : ¬ (q : Int) < 0 := by omega
        have hq1 : (0 : Int) ≤ (q : Int) := by omega
        clear hgq hgq2 hc0 hc1 hcm
        go_wp2_with fail
        refine wp_region_held_drew (S := fun W => Keeps (fun _ => False) w5 W) (by kernel_rfl) ((Keeps.refl _ w5).drew) ?_
        intro hSn
        refine wpAnyH_take (i := 0) (v := ?v1) rfl (by kernel_rfl) (by kernel_rfl) (by kernel_rfl) (fun _ _ _ h => by first | exact h | exact absurd h.1 (fun e => by cases e)) (Or.inl ⟨by rfl, ?hy1⟩) (by assumption) ?rest1
        case hy1 =>
          intro w hSw
          obtain ⟨c0, c1, b0, b1, y0, y1⟩ := HF w hSw
          go_simp
          try with_reducible rfl
        go_simp
        refine wpAnyH_take (i := 1) (v := ?v2) rfl (by kernel_rfl) (by kernel_rfl) (by kernel_rfl) (fun _ _ _ h => by first | exact h | exact absurd h.1 (fun e => by cases e)) (Or.inl ⟨by rfl, ?hy2⟩) (by assumption) ?rest2
        case hy2 =>
          intro w hSw
          obtain ⟨c0, c1, b0, b1, y0, y1⟩ := HF w hSw
          go_simp
          try with_reducible rfl
        go_simp
        refine wpAnyH_take (i := 2) (v := ?v3) rfl (by kernel_rfl) (by kernel_rfl) (by kernel_rfl) (fun _ _ _ h => by first | exact h | exact absurd h.1 (fun e => by cases e)) (Or.inl ⟨by rfl, ?hy3⟩) (by assumption) ?rest3
        case hy3 =>
          intro w hSw
          obtain ⟨c0, c1, b0, b1, y0, y1⟩ := HF w hSw
          go_simp
          try with_reducible rfl
        go_simp
        refine wpAnyH_take (i := 3) (v := ?v4) rfl (by kernel_rfl) (by kernel_rfl) (by kernel_rfl) (fun _ _ _ h => by first | exact h | exact absurd h.1 (fun e => by cases e)) (Or.inl ⟨by rfl, ?hy4⟩) (by assumption) ?rest4
        case hy4 =>
          intro w hSw
          obtain ⟨c0, c1, b0, b1, y0, y1⟩ := HF w hSw
          go_simp
          try with_reducible rfl
        go_simp
        refine wpAnyH_take (i := 4) (v := ?v5) rfl (by kernel_rfl) (by kernel_rfl) (by kernel_rfl) (fun _ _ _ h => by first | exact h | exact absurd h.1 (fun e => by cases e)) (Or.inl ⟨by rfl, ?hy5⟩) (by assumption) ?rest5
        case hy5 =>
          intro w hSw
          obtain ⟨c0, c1, b0, b1, y0, y1⟩ := HF w hSw
          go_simp
          try with_reducible rfl
        go_simp
        refine wpAnyH_take (i := 5) (v := ?v6) rfl (by kernel_rfl) (by kernel_rfl) (by kernel_rfl) (fun _ _ _ h => by first | exact h | exact absurd h.1 (fun e => by cases e)) (Or.inl ⟨by rfl, ?hy6⟩) (by assumption) ?rest6
        case hy6 =>
          intro w hSw
          obtain ⟨c0, c1, b0, b1, y0, y1⟩ := HF w hSw
          go_simp
          try with_reducible rfl
        go_simp
        refine wpAnyH_take (i := 6) (v := ?v7) rfl (by kernel_rfl) (by kernel_rfl) (by kernel_rfl) (fun _ _ _ h => by first | exact h | exact absurd h.1 (fun e => by cases e)) (Or.inl ⟨by rfl, ?hy7⟩) (by assumption) ?rest7
        case hy7 =>
          intro w hSw
          obtain ⟨c0, c1, b0, b1, y0, y1⟩ := HF w hSw
          go_simp
          try with_reducible rfl
        go_simp
        refine wpAnyH_take (i := 7) (v := ?v8) rfl (by kernel_rfl) (by kernel_rfl) (by kernel_rfl) (fun _ _ _ h => by first | exact h | exact absurd h.1 (fun e => by cases e)) (Or.inl ⟨by rfl, ?hy8⟩) (by assumption) ?rest8
        case hy8 =>
          intro w hSw
          obtain ⟨c0, c1, b0, b1, y0, y1⟩ := HF w hSw
          go_simp
          try with_reducible rfl
        go_simp
        refine wpAnyH_take (i := 8) (v := ?v9) rfl (by kernel_rfl) (by kernel_rfl) (by kernel_rfl) (fun _ _ _ h => by first | exact h | exact absurd h.1 (fun e => by cases e)) (Or.inl ⟨by rfl, ?hy9⟩) (by assumption) ?rest9
        case hy9 =>
          intro w hSw
          obtain ⟨c0, c1, b0, b1, y0, y1⟩ := HF w hSw
          go_simp
          try with_reducible rfl
        go_simp
        refine wpAnyH_take (i := 9) (v := ?v10) rfl (by kernel_rfl) (by kernel_rfl) (by kernel_rfl) (fun _ _ _ h => by first | exact h | exact absurd h.1 (fun e => by cases e)) (Or.inl ⟨by rfl, ?hy10⟩) (by assumption) ?rest10
        case hy10 =>
          intro w hSw
          obtain ⟨c0, c1, b0, b1, y0, y1⟩ := HF w hSw
          go_simp
          try with_reducible rfl
        go_simp
        refine wpAnyH_ready (rs := [10]) (by kernel_rfl) (by simp) ?_
        refine AllReadyH.cons rfl (fun K hK => ?_) AllReadyH.nil
        go_simp
        refine (samePairs_eq l Ak A w5.heap.size w.heap.size ck cap _ (KL.out _ hSn) (XL.out _ hSn) hlb).mono ?_
        rintro e w6 ⟨rfl, k6⟩
        have hS6 := hSn.trans k6
        refine hK.out _ _ (hSn.trans k6) (fun hSn => ?_)
        clear hK K
        go_simp
        refine wpAnyH_take (i := 11) (v := ?v11) rfl (by kernel_rfl) (by kernel_rfl) (by kernel_rfl) (fun _ _ _ h => by first | exact h | exact absurd h.1 (fun e => by cases e)) (Or.inl ⟨by rfl, ?hy11⟩) (by assumption) ?rest11
        case hy11 =>
          intro w hSw
          obtain ⟨c0, c1, b0, b1, y0, y1⟩ := HF w hSw
          go_simp
          try with_reducible rfl
        go_simp
        refine wpAnyH_take (i := 12) (v := ?v12) rfl (by kernel_rfl) (by kernel_rfl) (by kernel_rfl) (fun _ _ _ h => by first | exact h | exact absurd h.1 (fun e => by cases e)) (Or.inl ⟨by rfl, ?hy12⟩) (by assumption) ?rest12
        case hy12 =>
          intro w hSw
          obtain ⟨c0, c1, b0, b1, y0, y1⟩ := HF w hSw
          go_simp
          try with_reducible rfl
        go_simp
        refine wpAnyH_take (i := 13) (v := ?v13) rfl (by kernel_rfl) (by kernel_rfl) (by kernel_rfl) (fun _ _ _ h => by first | exact h | exact absurd h.1 (fun e => by cases e)) (Or.inl ⟨by rfl, ?hy13⟩) (by assumption) ?rest13
        case hy13 =>
          intro w hSw
          obtain ⟨c0, c1, b0, b1, y0, y1⟩ := HF w hSw
          go_simp
          try with_reducible rfl
        go_simp
        refine wpAnyH_take (i := 14) (v := ?v14) rfl (by kernel_rfl) (by kernel_rfl) (by kernel_rfl) (fun _ _ _ h => by first | exact h | exact absurd h.1 (fun e => by cases e)) (Or.inl ⟨by rfl, ?hy14⟩) (by assumption) ?rest14
        case hy14 =>
          intro w hSw
          obtain ⟨c0, c1, b0, b1, y0, y1⟩ := HF w hSw
          go_simp
          try with_reducible rfl
        go_simp
        refine wpAnyH_take (i := 15) (v := ?v15) rfl (by kernel_rfl) (by kernel_rfl) (by kernel_rfl) (fun _ _ _ h => by first | exact h | exact absurd h.1 (fun e => by cases e)) (Or.inl ⟨by rfl, ?hy15⟩) (by assumption) ?rest15
        case hy15 =>
          intro w hSw
          obtain ⟨c0, c1, b0, b1, y0, y1⟩ := HF w hSw
          go_simp
          try with_reducible rfl
        go_simp
        refine wpAnyH_take (i := 16) (v := ?v16) rfl (by kernel_rfl) (by kernel_rfl) (by kernel_rfl) (fun _ _ _ h => by first | exact h | exact absurd h.1 (fun e => by cases e)) (Or.inl ⟨by rfl, ?hy16⟩) (by assumption) ?rest16
        case hy16 =>
          intro w hSw
          obtain ⟨c0, c1, b0, b1, y0, y1⟩ := HF w hSw
          go_simp
          try with_reducible rfl
        go_simp
        refine wpAnyH_take (i := 17) (v := ?v17) rfl (by kernel_rfl) (by kernel_rfl) (by kernel_rfl) (fun _ _ _ h => by first | exact h | exact absurd h.1 (fun e => by cases e)) (Or.inl ⟨by rfl, ?hy17⟩) (by assumption) ?rest17
        case hy17 =>
          intro w hSw
          obtain ⟨c0, c1, b0, b1, y0, y1⟩ := HF w hSw
          go_simp
          try with_reducible rfl
        go_simp
        refine wpAnyH_take (i := 18) (v := ?v18) rfl (by kernel_rfl) (by kernel_rfl) (by kernel_rfl) (fun _ _ _ h => by first | exact h | exact absurd h.1 (fun e => by cases e)) (Or.inl ⟨by rfl, ?hy18⟩) (by assumption) ?rest18
        case hy18 =>
          intro w hSw
          obtain ⟨c0, c1, b0, b1, y0, y1⟩ := HF w hSw
          go_simp
          try with_reducible rfl
        go_simp
        refine wpAnyH_take (i := 19) (v := ?v19) rfl (by kernel_rfl) (by kernel_rfl) (by kernel_rfl) (fun _ _ _ h => by first | exact h | exact absurd h.1 (fun e => by cases e)) (Or.inl ⟨by rfl, ?hy19⟩) (by assumption) ?rest19
        case hy19 =>
          intro w hSw
          obtain ⟨c0, c1, b0, b1, y0, y1⟩ := HF w hSw
          go_simp
          try with_reducible rfl
        go_simp
        refine wpAnyH_take (i := 20) (v := ?v20) rfl (by kernel_rfl) (by kernel_rfl) (by kernel_rfl) (fun _ _ _ h => by first | exact h | exact absurd h.1 (fun e => by cases e)) (Or.inl ⟨by rfl, ?hy20⟩) (by assumption) ?rest20
        case hy20 =>
          intro w hSw
          obtain ⟨c0, c1, b0, b1, y0, y1⟩ := HF w hSw
          go_simp
          try with_reducible rfl
        go_simp
        refine wpAnyH_take (i := 21) (v := ?v21) rfl (by kernel_rfl) (by kernel_rfl) (by kernel_rfl) (fun _ _ _ h => by first | exact h | exact absurd h.1 (fun e => by cases e)) (Or.inl ⟨by rfl, ?hy21⟩) (by assumption) ?rest21
        case hy21 =>
          intro w hSw
          obtain ⟨c0, c1, b0, b1, y0, y1⟩ := HF w hSw
          go_simp
          try with_reducible rfl
        go_simp
        refine wpAnyH_take (i := 22) (v := ?v22) rfl (by kernel_rfl) (by kernel_rfl) (by kernel_rfl) (fun _ _ _ h => by first | exact h | exact absurd h.1 (fun e => by cases e)) (Or.inl ⟨by rfl, ?hy22⟩) (by assumption) ?rest22
        case hy22 =>
          intro w hSw
          obtain ⟨c0, c1, b0, b1, y0, y1⟩ := HF w hSw
          go_simp
          try with_reducible rfl
        go_simp
        refine wpAnyH_take (i := 23) (v := ?v23) rfl (by kernel_rfl) (by kernel_rfl) (by kernel_rfl) (fun _ _ _ h => by first | exact h | exact absurd h.1 (fun e => by cases e)) (Or.inl ⟨by rfl, ?hy23⟩) (by assumption) ?rest23
        case hy23 =>
          intro w hSw
          obtain ⟨c0, c1, b0, b1, y0, y1⟩ := HF w hSw
          go_simp
          try with_reducible rfl
        go_simp
        refine wpAnyH_take (i := 24) (v := ?v24) rfl (by kernel_rfl) (by kernel_rfl) (by kernel_rfl) (fun _ _ _ h => by first | exact h | exact absurd h.1 (fun e => by cases e)) (Or.inl ⟨by rfl, ?hy24⟩) (by assumption) ?rest24
        case hy24 =>
          intro w hSw
          obtain ⟨c0, c1, b0, b1, y0, y1⟩ := HF w hSw
          go_simp
          try with_reducible rfl
        go_simp
        refine wpAnyH_take (i := 25) (v := ?v25) rfl (by kernel_rfl) (by kernel_rfl) (by kernel_rfl) (fun _ _ _ h => by first | exact h | exact absurd h.1 (fun e => by cases e)) (Or.inl ⟨by rfl, ?hy25⟩) (by assumption) ?rest25
        case hy25 =>
          intro w hSw
          obtain ⟨c0, c1, b0, b1, y0, y1⟩ := HF w hSw
          go_simp
          try with_reducible rfl
        go_simp
        refine wpAnyH_take (i := 26) (v := ?v26) rfl (by kernel_rfl) (by kernel_rfl) (by kernel_rfl) (fun _ _ _ h => by first | exact h | exact absurd h.1 (fun e => by cases e)) (Or.inl ⟨by rfl, ?hy26⟩) (by assumption) ?rest26
        case hy26 =>
          intro w hSw
          obtain ⟨c0, c1, b0, b1, y0, y1⟩ := HF w hSw
          go_simp
          try with_reducible rfl
        go_simp
        refine wpAnyH_take (i := 27) (v := ?v27) rfl (by kernel_rfl) (by kernel_rfl) (by kernel_rfl) (fun _ _ _ h => by first | exact h | exact absurd h.1 (fun e => by cases e)) (Or.inl ⟨by rfl, ?hy27⟩) (by assumption) ?rest27
        case hy27 =>
          intro w hSw
          obtain ⟨c0, c1, b0, b1, y0, y1⟩ := HF w hSw
          go_simp
          try with_reducible rfl
        go_simp
        refine wpAnyH_take (i := 28) (v := ?v28) rfl (by kernel_rfl) (by kernel_rfl) (by kernel_rfl) (fun _ _ _ h => by first | exact h | exact absurd h.1 (fun e => by cases e)) (Or.inl ⟨by rfl, ?hy28⟩) (by assumption) ?rest28
        case hy28 =>
          intro w hSw
          obtain ⟨c0, c1, b0, b1, y0, y1⟩ := HF w hSw
          go_simp
          try with_reducible rfl
        go_simp
        refine wpAnyH_take (i := 29) (v := ?v29) rfl (by kernel_rfl) (by kernel_rfl) (by kernel_rfl) (fun _ _ _ h => by first | exact h | exact absurd h.1 (fun e => by cases e)) (Or.inl ⟨by rfl, ?hy29⟩) (by assumption) ?rest29
        case hy29 =>
          intro w hSw
          obtain ⟨c0, c1, b0, b1, y0, y1⟩ := HF w hSw
          go_simp
          try with_reducible rfl
        go_simp
        refine wpAnyH_take (i := 30) (v := ?v30) rfl (by kernel_rfl) (by kernel_rfl) (by kernel_rfl) (fun _ _ _ h => by first | exact h | exact absurd h.1 (fun e => by cases e)) (Or.inl ⟨by rfl, ?hy30⟩) (by assumption) ?rest30
        case hy30 =>
          intro w hSw
          obtain ⟨c0, c1, b0, b1, y0, y1⟩ := HF w hSw
          go_simp
          try with_reducible rfl
        go_simp
        refine wpAnyH_take (i := 31) (v := ?v31) rfl (by kernel_rfl) (by kernel_rfl) (by kernel_rfl) (fun _ _ _ h => by first | exact h | exact absurd h.1 (fun e => by cases e)) (Or.inl ⟨by rfl, ?hy31⟩) (by assumption) ?rest31
        case hy31 =>
          intro w hSw
          obtain ⟨c0, c1, b0, b1, y0, y1⟩ := HF w hSw
          go_simp
          try with_reducible rfl
        go_simp
        refine wpAnyH_take (i := 32) (v := ?v32) rfl (by kernel_rfl) (by kernel_rfl) (by kernel_rfl) (fun _ _ _ h => by first | exact h | exact absurd h.1 (fun e => by cases e)) (Or.inl ⟨by rfl, ?hy32⟩) (by assumption) ?rest32
        case hy32 =>
          intro w hSw
          obtain ⟨c0, c1, b0, b1, y0, y1⟩ := HF w hSw
          go_simp
          try with_reducible rfl
        go_simp
        refine wpAnyH_take (i := 33) (v := ?v33) rfl (by kernel_rfl) (by kernel_rfl) (by kernel_rfl) (fun _ _ _ h => by first | exact h | exact absurd h.1 (fun e => by cases e)) (Or.inl ⟨by rfl, ?hy33⟩) (by assumption) ?rest33
        case hy33 =>
          intro w hSw
          obtain ⟨c0, c1, b0, b1, y0, y1⟩ := HF w hSw
          go_simp
          try with_reducible rfl
        go_simp
        refine wpAnyH_take (i := 34) (v := ?v34) rfl (by kernel_rfl) (by kernel_rfl) (by kernel_rfl) (fun _ _ _ h => by first | exact h | exact absurd h.1 (fun e => by cases e)) (Or.inl ⟨by rfl, ?hy34⟩) (by assumption) ?rest34
        case hy34 =>
          intro w hSw
          obtain ⟨c0, c1, b0, b1, y0, y1⟩ := HF w hSw
          go_simp
          try with_reducible rfl
        go_simp
        refine wpAnyH_ready (rs := [35]) (by kernel_rfl) (by simp) ?_
        refine AllReadyH.cons rfl (fun K hK => ?_) AllReadyH.nil
        go_simp
        refine (HFM.out _ hSn).mono ?_
        rintro e w7 ⟨rfl, k7⟩
        refine hK.out _ _ (hSn.trans k7) (fun hSn => ?_)
        clear hK K
        go_simp
        refine wpAnyH_take (i := 36) (v := ?v35) rfl (by kernel_rfl) (by kernel_rfl) (by kernel_rfl) (fun _ _ _ h => by first | exact h | exact absurd h.1 (fun e => by cases e)) (Or.inl ⟨by rfl, ?hy35⟩) (by assumption) ?rest35
        case hy35 =>
          intro w hSw
          obtain ⟨c0, c1, b0, b1, y0, y1⟩ := HF w hSw
          go_simp
          try with_reducible rfl
        go_simp
        refine wpAnyH_take (i := 37) (v := ?v36) rfl (by kernel_rfl) (by kernel_rfl) (by kernel_rfl) (fun _ _ _ h => by first | exact h | exact absurd h.1 (fun e => by cases e)) (Or.inl ⟨by rfl, ?hy36⟩) (by assumption) ?rest36
        case hy36 =>
          intro w hSw
          obtain ⟨c0, c1, b0, b1, y0, y1⟩ := HF w hSw
          go_simp
          try with_reducible rfl
        go_simp
        refine wpAnyH_done (by kernel_rfl) ?_ _
        have K8 := Lib.hid hSn
        clear hSn
        go_simp
        clear HF KL XL HFM hq hqI hqc hqc2 hkq hkq2 hq0 hq1
        have K9 := Lib.hid (K5.out.trans K8.out)
        have XA : Hid (PrLies w7 w7.heap.size A l ∧ Lies w7 w7.heap.size C (o.map (Value.int .i64))) := Lib.hid ⟨(HX.out.keep (fun b o h => K9.out.cell h id)).more K9.out.size, (HC.out.keep (fun b o h => K9.out.cell h id)).more K9.out.size⟩
        go_wp2_with fail
        refine (rorderP_any l o A C cap cc w7 XA.out.1 XA.out.2 (by omega) (by omega)).mono ?_
        rintro e u1 ⟨Ao, co, rfl, hm⟩
        have MO := Lib.hid hm
        have U1 := Lib.hid (K9.out.trans hm.keeps)
        have XB : Hid (Lies u1 u1.heap.size C (o.map (Value.int .i64))) := Lib.hid ((HC.out.keep (fun b o h => U1.out.cell h id)).more U1.out.size)
        clear hm
        go_wp2_with fail
        refine (back_any o C cc u1 XB.out (by omega)).mono ?_
        rintro e u2 ⟨Ab, cb, rfl, hm⟩
        have MB := Lib.hid hm
        have U2 := Lib.hid (U1.out.trans hm.keeps)
        have XC : Hid (Lies u2 u2.heap.size C (o.map (Value.int .i64))) := Lib.hid ((HC.out.keep (fun b o h => U2.out.cell h id)).more U2.out.size)
        clear hm
        go_wp2_with fail
        refine (is_any o C cc u2 XC.out (by omega)).mono ?_
        rintro e u3 ⟨rfl, k3⟩
        have K3 := Lib.hid k3
        have U3 := Lib.hid (U2.out.trans k3)
        clear k3 XA XB XC
        cases hio : isO o
        · have HE : Hid (backL o = [] ∧ orderP l o = []) := Lib.hid ⟨by unfold backL; rw [hio]; rfl, by unfold orderP; rw [hio]; simp⟩
          have hob : ordB l o = false := by unfold ordB; rw [hio]; simp
          have hl1 : (backL o).length = 0 := by rw [HE.out.1]; rfl
          have hl2 : (orderP l o).length = 0 := by rw [HE.out.2]; rfl
          rw [hob]
          generalize backL o = bl at *
          generalize orderP l o = ol at *
          clear hob hio
          go_wp2_with fail
          go_ret
          exact ⟨rfl, U3.out.below (Nat.le_refl _) (fun _ h => h.elim)⟩
        · have hbl := backL_len hio
          have hbi := backL_isO hio
          have hbb := back_back hio
          have HBI := Lib.hid hbi
          have HBB := Lib.hid hbb
          have MB2 := Lib.hid (MB.out.later K3.out).1
          have HBL := Lib.hid hbl
          have HOB : Hid (l.length = o.length → orderP (orderP l o) (backL o) = l ∧ ordB (orderP l o) (backL o) = true) := Lib.hid (fun h => order_back hio h)
          clear hbi hbb hbl
          by_cases hlen : l.length = o.length
          · have hob : ordB l o = true := by unfold ordB; rw [hio, decide_eq_true hlen]; rfl
            have HON : Hid ((orderP l o).length = o.length) := Lib.hid (by rw [orderP_of hlen hio]; simp)
            have HLE := Lib.hid hlen
            rw [hob]
            have hle1 : ((o.length : Int) == (l.length : Int)) = true := by rw [hlen]; simp
            clear hob hio hlen
            go_wp2_with fail
            refine (back_any (backL o) Ab cb u3 (own_lies MB2.out) (by rw [HBL.out]; omega)).mono ?_
            rintro e u4 ⟨Ac, cc', rfl, hm⟩
            rw [HBB.out] at hm ⊢
            rw [HBI.out]
            have MC := Lib.hid hm
            have U4 := Lib.hid (U3.out.trans hm.keeps)
            have MB4 := Lib.hid (own_keepsS MB2.out hm.keeps (fun _ _ h => h))
            clear hm
            go_wp2_with fail
            refine (rsame_eq o Ac C u4.heap.size u4.heap.size cc' cc u4 (own_lies MC.out.own) ((HC.out.keep (fun b o h => U4.out.cell h id)).more U4.out.size) (by omega)).mono ?_
            rintro e u5 ⟨rfl, k5⟩
            have K5 := Lib.hid k5
            have U5 := Lib.hid (U4.out.trans k5)
            have MB5 := Lib.hid (own_keepsS MB4.out k5 (fun _ _ h => h))
            clear k5
            go_wp2_with fail
            refine (is_any (backL o) Ab cb u5 (own_lies MB5.out) (by rw [HBL.out]; omega)).mono ?_
            rintro e u6 ⟨rfl, k6⟩
            rw [HBI.out]
            have U6 := Lib.hid (U5.out.trans k6)
            have MB6 := Lib.hid (own_keepsS MB5.out k6 (fun _ _ h => h))
            have MO6 := Lib.hid (MO.out.later (MB.out.keeps.trans (K3.out.trans (MC.out.keeps.trans (K5.out.trans k6)))))
            clear k6
            go_wp2_with fail
            refine (rorderP_any (orderP l o) (backL o) Ao Ab co cb u6 MO6.out (own_lies MB6.out) (by rw [HON.out]; omega) (by rw [HBL.out]; omega)).mono ?_
            rintro e u7 ⟨Ad, cd, rfl, hm⟩
            obtain ⟨e1, e2⟩ := HOB.out HLE.out
            rw [e1] at hm ⊢
            rw [e2]
            have MD := Lib.hid hm
            have U7 := Lib.hid (U6.out.trans hm.keeps)
            clear hm e1 e2
            go_wp2_with fail
            refine (samePairs_eq l Ad A u7.heap.size u7.heap.size cd cap u7 (MD.out.later (Keeps.refl _ _)) ((HX.out.keep (fun b o h => U7.out.cell h id)).more U7.out.size) (by omega)).mono ?_
            rintro e u8 ⟨rfl, k8⟩
            have U8 := Lib.hid (U7.out.trans k8)
            clear k8
            go_wp2_with fail
            go_ret
            exact ⟨rfl, U8.out.below (Nat.le_refl _) (fun _ h => h.elim)⟩
          · have hob : ordB l o = false := by unfold ordB; rw [decide_eq_false hlen]; rfl
            have hol : (orderP l o).length = 0 := by unfold orderP; rw [if_neg (fun h => hlen h.1)]; rfl
            rw [hob]
            generalize orderP l o = ol at *
            have hle1 : ((o.length : Int) == (l.length : Int)) = false := by rw [beq_eq_false_iff_ne]; omega
            clear hob hio hlen
            go_wp2_with fail
            refine (back_any (backL o) Ab cb u3 (own_lies MB2.out) (by rw [HBL.out]; omega)).mono ?_
            rintro e u4 ⟨Ac, cc', rfl, hm⟩
            rw [HBB.out] at hm ⊢
            rw [HBI.out]
            have MC := Lib.hid hm
            have U4 := Lib.hid (U3.out.trans hm.keeps)
            have MB4 := Lib.hid (own_keepsS MB2.out hm.keeps (fun _ _ h => h))
            clear hm
            go_wp2_with fail
            refine (rsame_eq o Ac C u4.heap.size u4.heap.size cc' cc u4 (own_lies MC.out.own) ((HC.out.keep (fun b o h => U4.out.cell h id)).more U4.out.size) (by omega)).mono ?_
            rintro e u5 ⟨rfl, k5⟩
            have U5 := Lib.hid (U4.out.trans k5)
            have MB5 := Lib.hid (own_keepsS MB4.out k5 (fun _ _ h => h))
            clear k5
            go_wp2_with fail
            refine (is_any (backL o) Ab cb u5 (own_lies MB5.out) (by rw [HBL.out]; omega)).mono ?_
            rintro e u6 ⟨rfl, k6⟩
            rw [HBI.out]
            have U6 := Lib.hid (U5.out.trans k6)
            clear k6
            go_wp2_with fail
            go_ret
            exact ⟨rfl, U6.out.below (Nat.le_refl _) (fun _ h => h.elim)⟩
end Go.Proofs.Ytbfhbekocgdceaa
