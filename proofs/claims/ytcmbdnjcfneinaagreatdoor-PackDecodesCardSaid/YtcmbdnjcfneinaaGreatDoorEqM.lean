/-
  Are two packs the same? The walks. Conditions: lengths within 2 ^ 47.
-/
import Derived.Test.YtcmbdnjcfneinaaGreatDoorRdMd
import Derived.Test.YtcmbdnjcfneinaaGreatDoorBytes
import Derived.Test.YtcmbdnjcfneinaaGreatDoorMemM
import Derived.BigQuiet
namespace Go.Proofs.YtcmbdnjcfneinaaGreatDoor
open Go.RowKit
theorem text_get (l : List (List Oct)) (i : Nat) (h : i < l.length) : (textsV l)[i]? = some (.string (strB l[i])) := by simp [textsV, h]
theorem map_getK {k : IntKind} (l : List Int) (i : Nat) (h : i < l.length) : (l.map (Value.int k))[i]? = some (.int k l[i]) := by simp [h]
set_option maxHeartbeats 400000 in
theorem eqIntsK_any (x y : List Int) (A A' : Option Addr) (B B' cap cap' : Nat) (w : World) (hx : Lies w B A (x.map (Value.int .i64))) (hy : Lies w B' A' (y.map (Value.int .i64))) (hm : x.length ≤ 9223372036854775807) :
    Calls Tryz.prog 129 #[.slice A x.length cap, .slice A' y.length cap'] w fun e w' => e = .returned (.bool (decide (x = y))) ∧ ∃ n, w' = w.drewN n := by
  by_cases hlen : x.length = y.length
  · go_enter Tryz.func129, Tryz.ntmps129
    go_wp2
    go_loopw [5] (fun i wr => ∃ k d : Nat, k ≤ x.length ∧ i = .int .i64 k ∧ x.take k = y.take k ∧ wr = w.drewN d) (fun i _ => x.length - (intOf i).toNat)
    case atStart => exact ⟨0, 0, by omega, rfl, rfl, rfl⟩
    case round =>
      obtain ⟨k, d, hk, rfl, heq, rfl⟩ := hrel
      have HE := Lib.hid heq; clear heq
      by_cases hlt : k < x.length
      · have hlt' : k < y.length := by omega
        obtain ⟨g, off, rfl, _, hc⟩ := hx k _ (map_getK x k hlt)
        obtain ⟨g', off', rfl, _, hc'⟩ := hy k _ (map_getK y k hlt')
        by_cases hxy : x[k] = y[k]
        · have hs : Hid (x.take (k + 1) = y.take (k + 1)) := Lib.hid (by rw [List.take_succ_eq_append_getElem hlt, List.take_succ_eq_append_getElem hlt', HE.out, hxy])
          have ht : ((x[k] : Int) != y[k]) = false := by rw [hxy]; simp
          have HL := Lib.hid hlen; clear hlen hxy
          go_wp2_with fail
          go_quiet (fail)
          go_wp2
          go_roundw
          case rel => exact ⟨k + 1, _, by omega, by go_num, hs.out, rfl⟩
          case measure => simp [intOf]; omega
        · have ht : ((x[k] : Int) != y[k]) = true := by
            rw [bne_iff_ne]; exact hxy
          have hne : x ≠ y := fun e => hxy (by subst e; rfl)
          go_wp2_with fail
          go_quiet (fail)
          go_wp2
          go_ret
          exact ⟨by simp [hne], _, World.drewN_drewN _ _ _⟩
      · obtain rfl : k = x.length := by omega
        have he : x = y := by have := HE.out; rw [List.take_length, hlen, List.take_length] at this; exact this
        have HF := Lib.hid he; clear he
        go_wp2
        go_ret
        exact ⟨by simp [HF.out], _, rfl⟩
  · have hne : x ≠ y := fun e => hlen (by rw [e])
    go_enter Tryz.func129, Tryz.ntmps129
    go_wp2
    go_ret
    exact ⟨by simp [hne], 0, rfl⟩
set_option maxHeartbeats 400000 in
theorem eqLongs_any (x y : List Int) (A A' : Option Addr) (B B' cap cap' : Nat) (w : World) (hx : Lies w B A (x.map (Value.int .i64))) (hy : Lies w B' A' (y.map (Value.int .i64))) (hm : x.length ≤ 9223372036854775807) :
    Calls Tryz.prog 45 #[.slice A x.length cap, .slice A' y.length cap'] w fun e w' => e = .returned (.bool (decide (x = y))) ∧ ∃ n, w' = w.drewN n := by
  by_cases hlen : x.length = y.length
  · go_enter Tryz.func45, Tryz.ntmps45
    go_wp2
    go_loopw [5] (fun i wr => ∃ k d : Nat, k ≤ x.length ∧ i = .int .i64 k ∧ x.take k = y.take k ∧ wr = w.drewN d) (fun i _ => x.length - (intOf i).toNat)
    case atStart => exact ⟨0, 0, by omega, rfl, rfl, rfl⟩
    case round =>
      obtain ⟨k, d, hk, rfl, heq, rfl⟩ := hrel
      have HE := Lib.hid heq; clear heq
      by_cases hlt : k < x.length
      · have hlt' : k < y.length := by omega
        obtain ⟨g, off, rfl, _, hc⟩ := hx k _ (map_getK x k hlt)
        obtain ⟨g', off', rfl, _, hc'⟩ := hy k _ (map_getK y k hlt')
        by_cases hxy : x[k] = y[k]
        · have hs : Hid (x.take (k + 1) = y.take (k + 1)) := Lib.hid (by rw [List.take_succ_eq_append_getElem hlt, List.take_succ_eq_append_getElem hlt', HE.out, hxy])
          have ht : ((x[k] : Int) != y[k]) = false := by rw [hxy]; simp
          have HL := Lib.hid hlen; clear hlen hxy
          go_wp2_with fail
          go_quiet (fail)
          go_wp2
          go_roundw
          case rel => exact ⟨k + 1, _, by omega, by go_num, hs.out, rfl⟩
          case measure => simp [intOf]; omega
        · have ht : ((x[k] : Int) != y[k]) = true := by
            rw [bne_iff_ne]; exact hxy
          have hne : x ≠ y := fun e => hxy (by subst e; rfl)
          go_wp2_with fail
          go_quiet (fail)
          go_wp2
          go_ret
          exact ⟨by simp [hne], _, World.drewN_drewN _ _ _⟩
      · obtain rfl : k = x.length := by omega
        have he : x = y := by have := HE.out; rw [List.take_length, hlen, List.take_length] at this; exact this
        have HF := Lib.hid he; clear he
        go_wp2
        go_ret
        exact ⟨by simp [HF.out], _, rfl⟩
  · have hne : x ≠ y := fun e => hlen (by rw [e])
    go_enter Tryz.func45, Tryz.ntmps45
    go_wp2
    go_ret
    exact ⟨by simp [hne], 0, rfl⟩
set_option maxHeartbeats 400000 in
theorem eqSmalls_any (x y : List Int) (A A' : Option Addr) (B B' cap cap' : Nat) (w : World) (hx : Lies w B A (x.map (Value.int .i8))) (hy : Lies w B' A' (y.map (Value.int .i8))) (hm : x.length ≤ 9223372036854775807) :
    Calls Tryz.prog 162 #[.slice A x.length cap, .slice A' y.length cap'] w fun e w' => e = .returned (.bool (decide (x = y))) ∧ ∃ n, w' = w.drewN n := by
  by_cases hlen : x.length = y.length
  · go_enter Tryz.func162, Tryz.ntmps162
    go_wp2
    go_loopw [5] (fun i wr => ∃ k d : Nat, k ≤ x.length ∧ i = .int .i64 k ∧ x.take k = y.take k ∧ wr = w.drewN d) (fun i _ => x.length - (intOf i).toNat)
    case atStart => exact ⟨0, 0, by omega, rfl, rfl, rfl⟩
    case round =>
      obtain ⟨k, d, hk, rfl, heq, rfl⟩ := hrel
      have HE := Lib.hid heq; clear heq
      by_cases hlt : k < x.length
      · have hlt' : k < y.length := by omega
        obtain ⟨g, off, rfl, _, hc⟩ := hx k _ (map_getK x k hlt)
        obtain ⟨g', off', rfl, _, hc'⟩ := hy k _ (map_getK y k hlt')
        by_cases hxy : x[k] = y[k]
        · have hs : Hid (x.take (k + 1) = y.take (k + 1)) := Lib.hid (by rw [List.take_succ_eq_append_getElem hlt, List.take_succ_eq_append_getElem hlt', HE.out, hxy])
          have ht : ((x[k] : Int) != y[k]) = false := by rw [hxy]; simp
          have HL := Lib.hid hlen; clear hlen hxy
          go_wp2_with fail
          go_quiet (fail)
          go_wp2
          go_roundw
          case rel => exact ⟨k + 1, _, by omega, by go_num, hs.out, rfl⟩
          case measure => simp [intOf]; omega
        · have ht : ((x[k] : Int) != y[k]) = true := by
            rw [bne_iff_ne]; exact hxy
          have hne : x ≠ y := fun e => hxy (by subst e; rfl)
          go_wp2_with fail
          go_quiet (fail)
          go_wp2
          go_ret
          exact ⟨by simp [hne], _, World.drewN_drewN _ _ _⟩
      · obtain rfl : k = x.length := by omega
        have he : x = y := by have := HE.out; rw [List.take_length, hlen, List.take_length] at this; exact this
        have HF := Lib.hid he; clear he
        go_wp2
        go_ret
        exact ⟨by simp [HF.out], _, rfl⟩
  · have hne : x ≠ y := fun e => hlen (by rw [e])
    go_enter Tryz.func162, Tryz.ntmps162
    go_wp2
    go_ret
    exact ⟨by simp [hne], 0, rfl⟩
set_option maxHeartbeats 400000 in
theorem eqTexts_any (x y : List (List Oct)) (A A' : Option Addr) (B B' cap cap' : Nat) (w : World) (hx : Lies w B A (textsV x)) (hy : Lies w B' A' (textsV y)) (hm : x.length ≤ 9223372036854775807) :
    Calls Tryz.prog 46 #[.slice A x.length cap, .slice A' y.length cap'] w fun e w' => e = .returned (.bool (decide (x = y))) ∧ ∃ n, w' = w.drewN n := by
  by_cases hlen : x.length = y.length
  · go_enter Tryz.func46, Tryz.ntmps46
    go_wp2
    go_loopw [5] (fun i wr => ∃ k d : Nat, k ≤ x.length ∧ i = .int .i64 k ∧ x.take k = y.take k ∧ wr = w.drewN d) (fun i _ => x.length - (intOf i).toNat)
    case atStart => exact ⟨0, 0, by omega, rfl, rfl, rfl⟩
    case round =>
      obtain ⟨k, d, hk, rfl, heq, rfl⟩ := hrel
      have HE := Lib.hid heq; clear heq
      by_cases hlt : k < x.length
      · have hlt' : k < y.length := by omega
        obtain ⟨g, off, rfl, _, hc⟩ := hx k _ (text_get x k hlt)
        obtain ⟨g', off', rfl, _, hc'⟩ := hy k _ (text_get y k hlt')
        by_cases hxy : x[k] = y[k]
        · have hs : Hid (x.take (k + 1) = y.take (k + 1)) := Lib.hid (by rw [List.take_succ_eq_append_getElem hlt, List.take_succ_eq_append_getElem hlt', HE.out, hxy])
          rw [hxy] at hc
          have HL := Lib.hid hlen; clear hlen hxy
          go_wp2_with fail
          go_quiet (fail)
          go_wp2
          go_roundw
          case rel => exact ⟨k + 1, _, by omega, by go_num, hs.out, rfl⟩
          case measure => simp [intOf]; omega
        · have hb : ((strB x[k]).toList == (strB y[k]).toList) = false := by
            rw [beq_eq_false_iff_ne, strB_toList, strB_toList]
            exact fun e => hxy ((List.map_inj_right (fun a b h => u8_inj.1 h)).1 e)
          have hb2 : ¬ (strB x[k]).toList = (strB y[k]).toList := beq_eq_false_iff_ne.1 hb
          have hb3 : ¬ strB x[k] = strB y[k] := fun e => hxy (strB_inj.1 e)
          have hne : x ≠ y := fun e => hxy (by subst e; rfl)
          go_wp2_with fail
          go_quiet (fail)
          go_wp2
          go_ret
          exact ⟨by simp [hne], _, World.drewN_drewN _ _ _⟩
      · obtain rfl : k = x.length := by omega
        have he : x = y := by have := HE.out; rw [List.take_length, hlen, List.take_length] at this; exact this
        have HF := Lib.hid he; clear he
        go_wp2
        go_ret
        exact ⟨by simp [HF.out], _, rfl⟩
  · have hne : x ≠ y := fun e => hlen (by rw [e])
    go_enter Tryz.func46, Tryz.ntmps46
    go_wp2
    go_ret
    exact ⟨by simp [hne], 0, rfl⟩
end Go.Proofs.YtcmbdnjcfneinaaGreatDoor
/-
  Are two effects, two kinds, two packs the same? The walks. Conditions: lengths within 10 ^ 9.
-/
namespace Go.Proofs.YtcmbdnjcfneinaaGreatDoor
open Go.RowKit
def effA (x : Eff) (As Ac : Option Addr) (cs cc : Nat) : Array Value := #[.int .i64 x.on, .slice As x.slots.length cs, .slice Ac x.code.length cc, .int .i64 x.bound]
set_option maxRecDepth 4000 in
set_option maxHeartbeats 2000000 in
theorem eqEffect_any (x y : Eff) (As Ac Bs Bc : Option Addr) (cs cc ds dc : Nat) (w : World) (h1 : Lies w w.heap.size As (x.slots.map (Value.int .i8))) (h2 : Lies w w.heap.size Ac (bytesV x.code)) (h3 : Lies w w.heap.size Bs (y.slots.map (Value.int .i8))) (h4 : Lies w w.heap.size Bc (bytesV y.code)) (hm : EffFew x) :
    Calls Tryz.prog 155 #[.agg (effA x As Ac cs cc), .agg (effA y Bs Bc ds dc)] w fun r w' => ∃ v : Bool, r = .returned (.bool v) ∧ (v = true ↔ x = y) ∧ Keeps (fun _ => False) w w' := by
  have hq : x = y ↔ x.on = y.on ∧ x.bound = y.bound ∧ x.slots = y.slots ∧ x.code = y.code := ⟨fun e => by subst e; exact ⟨rfl, rfl, rfl, rfl⟩, fun ⟨a, b, c, d⟩ => by cases x; cases y; simp_all⟩
  have HQ := Lib.hid hq
  have hs := hm.slots
  have hcl := hm.code
  obtain ⟨w0, hw0⟩ : ∃ w0, w0 = (w.alloc (.cells (effA x As Ac cs cc) 43)).alloc (.cells (effA y Bs Bc ds dc) 43) := ⟨_, rfl⟩
  have hm1 : Whole w0 w.heap.size 43 (effA x As Ac cs cc) := by rw [hw0]; exact (Whole.made w _ _).alloc _
  have hm2 : Whole w0 (w.heap.size + 1) 43 (effA y Bs Bc ds dc) := by
    rw [hw0]
    have h := Whole.made (w.alloc (.cells (effA x As Ac cs cc) 43)) 43 (effA y Bs Bc ds dc)
    rw [World.size_alloc] at h
    exact h
  have k0 : Keeps (fun _ => False) w w0 := by rw [hw0]; exact ((Keeps.refl _ w).alloc _).alloc _
  have HK := Lib.hid k0
  have HW := Lib.hid hw0
  have HM1 := Lib.hid hm1
  have HM2 := Lib.hid hm2
  have HS := Lib.hid (eqSmalls_any x.slots y.slots As Bs w.heap.size w.heap.size cs ds w0 (h1.keep fun g o hg => k0.cell hg id) (h3.keep fun g o hg => k0.cell hg id) (by omega))
  have HC := Lib.hid (fun W (k : Keeps (fun _ => False) w W) => eqBytes_any x.code y.code Ac Bc w.heap.size w.heap.size cc dc W (h2.keep fun g o hg => k.cell hg id) (h4.keep fun g o hg => k.cell hg id) (by omega))
  clear hq hm hw0 hm1 hm2 k0 h1 h2 h3 h4
  unfold effA at *
  by_cases e1 : x.on = y.on
  · have hb1 : (x.on != y.on) = false := by rw [e1]; simp
    by_cases e2 : x.bound = y.bound
    · have hb2 : (x.bound != y.bound) = false := by rw [e2]; simp
      have HE := Lib.hid (And.intro e1 e2)
      clear e1 e2
      go_enter Tryz.func155, Tryz.ntmps155
      go_wp2_with fail
      rw [← HW.out]
      refine HS.out.mono ?_
      rintro r w1 ⟨rfl, n1, hw1⟩
      have k1 : Keeps (fun _ => False) w0 w1 := by rw [hw1]; exact (Keeps.refl _ w0).drewN n1
      have HK1 := Lib.hid (HK.out.trans k1)
      have hw1a := HM1.out.keeps k1 id
      have hw1b := HM2.out.keeps k1 id
      clear hw1 k1 HS HM1 HM2 HK HW
      obtain ⟨a0, a1, a2, a3⟩ := four hw1a
      obtain ⟨b0, b1, b2, b3⟩ := four hw1b
      clear hw1a hw1b
      by_cases e3 : x.slots = y.slots
      · have H5 := Lib.hid e3
        have hdt : decide (x.slots = y.slots) = true := decide_eq_true e3
        rw [hdt]
        clear e3 hdt
        go_wp2_with fail
        refine (HC.out _ HK1.out).mono ?_
        rintro r w2 ⟨rfl, hw2⟩
        have HK2 := Lib.hid (HK1.out.trans (keepsAll (S := fun _ => False) hw2))
        have HV : Hid (decide (x.code = y.code) = true ↔ x = y) := Lib.hid (by
          rw [decide_eq_true_iff, HQ.out]
          exact ⟨fun h => ⟨HE.out.1, HE.out.2, H5.out, h⟩, fun h => h.2.2.2⟩)
        clear hw2 HC
        go_wp2_with fail
        go_ret
        exact ⟨_, rfl, HV.out, HK2.out⟩
      · have HV : Hid (false = true ↔ x = y) := Lib.hid ⟨fun h => (by cases h), fun h => absurd (HQ.out.1 h).2.2.1 e3⟩
        have hdt : decide (x.slots = y.slots) = false := decide_eq_false e3
        rw [hdt]
        clear e3 hdt
        go_wp2_with fail
        go_ret
        exact ⟨_, rfl, HV.out, HK1.out⟩
    · have HV : Hid (false = true ↔ x = y) := Lib.hid ⟨fun h => (by cases h), fun h => absurd (HQ.out.1 h).2.1 e2⟩
      have hb : (x.bound != y.bound) = true := bne_iff_ne.2 e2
      clear HQ e1 HS HC
      go_enter Tryz.func155, Tryz.ntmps155
      go_wp2_with fail
      rw [← HW.out]
      go_ret
      exact ⟨_, rfl, HV.out, HK.out⟩
  · have HV : Hid (false = true ↔ x = y) := Lib.hid ⟨fun h => (by cases h), fun h => absurd (HQ.out.1 h).1 e1⟩
    have hb : (x.on != y.on) = true := bne_iff_ne.2 e1
    clear HQ HS HC
    go_enter Tryz.func155, Tryz.ntmps155
    go_wp2_with fail
    rw [← HW.out]
    go_ret
    exact ⟨_, rfl, HV.out, HK.out⟩
set_option maxRecDepth 4000 in
set_option maxHeartbeats 2000000 in
theorem eqEffects_any (l m : List Eff) (A A' : Option Addr) (cap cap' : Nat) (w : World) (hx : EfLies w w.heap.size A l) (hy : EfLies w w.heap.size A' m) (hl : l.length ≤ 1000000000) (hl2 : m.length ≤ 140737488355328) (hm : ∀ e ∈ l, EffFew e) :
    Calls Tryz.prog 130 #[.slice A l.length cap, .slice A' m.length cap'] w fun r w' => ∃ v : Bool, r = .returned (.bool v) ∧ (v = true ↔ l = m) ∧ Keeps (fun _ => False) w w' := by
  have HX := Lib.hid hx
  have HY := Lib.hid hy
  have HF := Lib.hid hm
  clear hx hy hm
  by_cases hlen : l.length = m.length
  · have HL := Lib.hid hlen
    go_enter Tryz.func130, Tryz.ntmps130
    go_wp2_with fail
    go_loopw [5] (fun vi wr => ∃ k : Nat, k ≤ l.length ∧ vi = .int .i64 k ∧ Hid (l.take k = m.take k) ∧ Hid (Keeps (fun _ => False) w wr)) (fun vi _ => l.length - (intOf vi).toNat)
    case atStart => exact ⟨0, by omega, rfl, Lib.hid rfl, Lib.hid (Keeps.refl _ _)⟩
    case round =>
      clear hlen
      obtain ⟨k, hk, rfl, HT, HK⟩ := hrel
      by_cases hlt : k < l.length
      · have hlt' : k < m.length := by have := HL.out; omega
        obtain ⟨g, off, As, cs, Ac, cc, hgA, hg, c0, c1, c2, c3, l1, l2⟩ := HX.out k l[k] (List.getElem?_eq_getElem hlt)
        obtain ⟨g', off', Bs, ds, Bc, dc, hgA', hg', d0, d1, d2, d3, l3, l4⟩ := HY.out k m[k] (List.getElem?_eq_getElem hlt')
        have HSf : Hid (∀ W, Keeps (fun _ => False) w W → (W.cell? ⟨g, off + k * 4, none⟩ = some (.int .i64 l[k].on) ∧ W.cell? ⟨g, off + k * 4 + 1, none⟩ = some (.slice As l[k].slots.length cs) ∧ W.cell? ⟨g, off + k * 4 + 2, none⟩ = some (.slice Ac l[k].code.length cc) ∧ W.cell? ⟨g, off + k * 4 + 3, none⟩ = some (.int .i64 l[k].bound)) ∧ W.cell? ⟨g', off' + k * 4, none⟩ = some (.int .i64 m[k].on) ∧ W.cell? ⟨g', off' + k * 4 + 1, none⟩ = some (.slice Bs m[k].slots.length ds) ∧ W.cell? ⟨g', off' + k * 4 + 2, none⟩ = some (.slice Bc m[k].code.length dc) ∧ W.cell? ⟨g', off' + k * 4 + 3, none⟩ = some (.int .i64 m[k].bound)) := Lib.hid (fun W hW => ⟨⟨(hW.cell hg id).trans c0, (hW.cell hg id).trans c1, (hW.cell hg id).trans c2, (hW.cell hg id).trans c3⟩, (hW.cell hg' id).trans d0, (hW.cell hg' id).trans d1, (hW.cell hg' id).trans d2, (hW.cell hg' id).trans d3⟩)
        have hef := HF.out _ (List.getElem_mem hlt)
        have HEq : Hid (l[k] = m[k] → l.take (k + 1) = m.take (k + 1)) := Lib.hid (fun e => by rw [List.take_succ_eq_append_getElem hlt, List.take_succ_eq_append_getElem hlt', HT.out, e])
        have HNe : Hid (l[k] ≠ m[k] → l ≠ m) := Lib.hid (fun e h => e (by subst h; rfl))
        have HCf := Lib.hid (fun W (hW : Keeps (fun _ => False) w W) => eqEffect_any l[k] m[k] As Ac Bs Bc cs cc ds dc W ((l1.keep fun g o hg => hW.cell hg id).more hW.size) ((l2.keep fun g o hg => hW.cell hg id).more hW.size) ((l3.keep fun g o hg => hW.cell hg id).more hW.size) ((l4.keep fun g o hg => hW.cell hg id).more hW.size) hef)
        subst hgA hgA'
        clear c0 c1 c2 c3 d0 d1 d2 d3 l1 l2 l3 l4 hef
        generalize l[k] = x at *
        generalize m[k] = y at *
        have HSf' : Hid (∀ W, Keeps (fun _ => False) w W → W.cell? ⟨g, off + k * 4, none⟩ = some (.int .i64 x.on) ∧ W.cell? ⟨g, off + k * 4 + 1, none⟩ = some (.slice As x.slots.length cs) ∧ W.cell? ⟨g, off + k * 4 + 2, none⟩ = some (.slice Ac x.code.length cc) ∧ W.cell? ⟨g, off + k * 4 + 3, none⟩ = some (.int .i64 x.bound) ∧ W.cell? ⟨g', off' + k * 4, none⟩ = some (.int .i64 y.on) ∧ W.cell? ⟨g', off' + k * 4 + 1, none⟩ = some (.slice Bs y.slots.length ds) ∧ W.cell? ⟨g', off' + k * 4 + 2, none⟩ = some (.slice Bc y.code.length dc) ∧ W.cell? ⟨g', off' + k * 4 + 3, none⟩ = some (.int .i64 y.bound)) := Lib.hid (fun W hW => by
          obtain ⟨⟨e0, e1, e2, e3⟩, h⟩ := HSf.out W hW
          exact ⟨e0, e1, e2, e3, h⟩)
        have HSf := HSf'
        clear HSf'
        go_wp2_with fail
        have HKd := Lib.hid (HK.out.drew)
        have HS0 := Lib.hid (HSf.out wr.drew HKd.out)
        have HC := Lib.hid (HCf.out wr.drew HKd.out)
        unfold effA at HC
        clear HCf
        · skip
          refine wp_region_upTo 8 (fun W => W.cell? ⟨g, off + k * 4, none⟩ = some (.int .i64 x.on) ∧ W.cell? ⟨g, off + k * 4 + 1, none⟩ = some (.slice As x.slots.length cs) ∧ W.cell? ⟨g, off + k * 4 + 2, none⟩ = some (.slice Ac x.code.length cc) ∧ W.cell? ⟨g, off + k * 4 + 3, none⟩ = some (.int .i64 x.bound) ∧ W.cell? ⟨g', off' + k * 4, none⟩ = some (.int .i64 y.on) ∧ W.cell? ⟨g', off' + k * 4 + 1, none⟩ = some (.slice Bs y.slots.length ds) ∧ W.cell? ⟨g', off' + k * 4 + 2, none⟩ = some (.slice Bc y.code.length dc) ∧ W.cell? ⟨g', off' + k * 4 + 3, none⟩ = some (.int .i64 y.bound)) (fun _ => True) (by kernel_rfl) ?_
          refine upTo_take (i := 0) (v := ?v1) rfl (by kernel_rfl) (by kernel_rfl) (by kernel_rfl) (fun _ _ _ h => by first | exact h | exact absurd h.1 (fun e => by cases e)) (by decide) (Or.inl ⟨by rfl, ?hy1⟩) (HS0.out) (fun _ => trivial) ?rest1
          case hy1 =>
            intro w hSw
            clear hSw
            go_simp
            try with_reducible rfl
          go_simp
          refine upTo_take (i := 1) (v := ?v2) rfl (by kernel_rfl) (by kernel_rfl) (by kernel_rfl) (fun _ _ _ h => by first | exact h | exact absurd h.1 (fun e => by cases e)) (by decide) (Or.inl ⟨by rfl, ?hy2⟩) (HS0.out) (fun _ => trivial) ?rest2
          case hy2 =>
            intro w hSw
            clear hSw
            go_simp
            try with_reducible rfl
          go_simp
          refine upTo_take (i := 2) (v := ?v3) rfl (by kernel_rfl) (by kernel_rfl) (by kernel_rfl) (fun _ _ _ h => by first | exact h | exact absurd h.1 (fun e => by cases e)) (by decide) (Or.inl ⟨by rfl, ?hy3⟩) (HS0.out) (fun _ => trivial) ?rest3
          case hy3 =>
            intro w hSw
            clear hSw
            go_simp
            try with_reducible rfl
          go_simp
          refine upTo_take (i := 3) (v := ?v4) rfl (by kernel_rfl) (by kernel_rfl) (by kernel_rfl) (fun _ _ _ h => by first | exact h | exact absurd h.1 (fun e => by cases e)) (by decide) (Or.inl ⟨by rfl, ?hy4⟩) (HS0.out) (fun _ => trivial) ?rest4
          case hy4 =>
            intro w hSw
            obtain ⟨a0, a1, a2, a3, b0, b1, b2, b3⟩ := hSw
            go_simp
            try with_reducible rfl
          go_simp
          refine upTo_take (i := 4) (v := ?v5) rfl (by kernel_rfl) (by kernel_rfl) (by kernel_rfl) (fun _ _ _ h => by first | exact h | exact absurd h.1 (fun e => by cases e)) (by decide) (Or.inl ⟨by rfl, ?hy5⟩) (HS0.out) (fun _ => trivial) ?rest5
          case hy5 =>
            intro w hSw
            clear hSw
            go_simp
            try with_reducible rfl
          go_simp
          refine upTo_take (i := 5) (v := ?v6) rfl (by kernel_rfl) (by kernel_rfl) (by kernel_rfl) (fun _ _ _ h => by first | exact h | exact absurd h.1 (fun e => by cases e)) (by decide) (Or.inl ⟨by rfl, ?hy6⟩) (HS0.out) (fun _ => trivial) ?rest6
          case hy6 =>
            intro w hSw
            clear hSw
            go_simp
            try with_reducible rfl
          go_simp
          refine upTo_take (i := 6) (v := ?v7) rfl (by kernel_rfl) (by kernel_rfl) (by kernel_rfl) (fun _ _ _ h => by first | exact h | exact absurd h.1 (fun e => by cases e)) (by decide) (Or.inl ⟨by rfl, ?hy7⟩) (HS0.out) (fun _ => trivial) ?rest7
          case hy7 =>
            intro w hSw
            clear hSw
            go_simp
            try with_reducible rfl
          go_simp
          refine upTo_take (i := 7) (v := ?v8) rfl (by kernel_rfl) (by kernel_rfl) (by kernel_rfl) (fun _ _ _ h => by first | exact h | exact absurd h.1 (fun e => by cases e)) (by decide) (Or.inl ⟨by rfl, ?hy8⟩) (HS0.out) (fun _ => trivial) ?rest8
          case hy8 =>
            intro w hSw
            obtain ⟨a0, a1, a2, a3, b0, b1, b2, b3⟩ := hSw
            go_simp
            try with_reducible rfl
          go_simp
          refine upTo_next (i := 8) (by kernel_rfl) rfl ?_
          intro K hK
          go_simp
          refine (HC.out).mono ?_
          rintro r w1 ⟨v, rfl, hv, hk1⟩
          have HV := Lib.hid hv
          have HK1 : Hid (Keeps (fun _ => False) w w1) := Lib.hid (HKd.out.trans hk1)
          have HS1 := Lib.hid (HSf.out w1 HK1.out)
          clear hv hk1 HC HS0 HKd
          refine hK.out _ _ (HS1.out) (fun h => absurd h (by decide)) ?_
          clear hK K
          go_simp
          refine upTo_take (i := 9) (v := ?v9) rfl (by kernel_rfl) (by kernel_rfl) (by kernel_rfl) (fun _ _ _ h => by first | exact h | exact absurd h.1 (fun e => by cases e)) (by decide) (Or.inl ⟨by rfl, ?hy9⟩) (HS1.out) (fun h => absurd h (by decide)) ?rest9
          case hy9 =>
            intro w hSw
            clear hSw
            go_simp
            try with_reducible rfl
          go_simp
          refine upTo_done (by kernel_rfl) ?_ _
          by_cases hxy : x = y
          · have hvt : v = true := HV.out.2 hxy
            have HT1 := Lib.hid (HEq.out hxy)
            subst hvt
            clear HV HEq HNe HT hxy
            go_wp2_with fail
            go_roundw
            case rel => exact ⟨k + 1, by omega, by go_num, HT1, HK1⟩
            case measure => simp [intOf]; omega
          · have hvt : v = false := by
              cases v with
              | false => rfl
              | true => exact absurd (HV.out.1 rfl) hxy
            have hne := HNe.out hxy
            subst hvt
            have HN := Lib.hid hne
            clear HV HEq HNe HT hxy hne
            go_wp2_with fail
            go_ret
            exact ⟨false, rfl, ⟨fun h => (by cases h), fun h => absurd h HN.out⟩, HK1.out⟩
      · obtain rfl : k = l.length := by omega
        have HE : Hid (l = m) := Lib.hid (by have := HT.out; rw [List.take_length, HL.out, List.take_length] at this; exact this)
        clear HT
        go_wp2_with fail
        go_ret
        exact ⟨true, rfl, ⟨fun _ => HE.out, fun _ => rfl⟩, HK.out⟩
  · have HN : Hid (l ≠ m) := Lib.hid (fun e => hlen (by rw [e]))
    go_enter Tryz.func130, Tryz.ntmps130
    go_wp2_with fail
    go_ret
    exact ⟨false, rfl, ⟨fun h => (by cases h), fun h => absurd h HN.out⟩, Keeps.refl _ _⟩
end Go.Proofs.YtcmbdnjcfneinaaGreatDoor
/-
  Are two kinds, two packs the same? The walks. Conditions: lengths within 10 ^ 9.
-/
namespace Go.Proofs.YtcmbdnjcfneinaaGreatDoor
open Go.RowKit
/-- What a comparison answers. -/
def Says (w w' : World) (r : Ending) (p : Prop) : Prop := ∃ v : Bool, r = .returned (.bool v) ∧ (v = true ↔ p) ∧ Keeps (fun _ => False) w w'
theorem says_of {p : Prop} [Decidable p] {f : FuncId} {args : Array Value} {w : World} (h : Calls Tryz.prog f args w fun e w' => e = .returned (.bool (decide p)) ∧ ∃ n, w' = w.drewN n) : Calls Tryz.prog f args w fun r w' => Says w w' r p :=
  h.mono fun r w' ⟨he, n, hw⟩ => ⟨_, he, decide_eq_true_iff, by rw [hw]; exact (Keeps.refl _ w).drewN n⟩
set_option maxRecDepth 4000 in
set_option maxHeartbeats 2000000 in
theorem eqKind_any (x y : Knd) (At Ae Bt Be : Option Addr) (ct ce dt de : Nat) (w : World) (h1 : Lies w w.heap.size At (x.tags.map (Value.int .i64))) (h2 : EfLies w w.heap.size Ae x.effs) (h3 : Lies w w.heap.size Bt (y.tags.map (Value.int .i64))) (h4 : EfLies w w.heap.size Be y.effs) (hm : KndFew x) (hn : y.effs.length ≤ 140737488355328) :
    Calls Tryz.prog 100 #[.agg (kndV x At Ae ct ce), .agg (kndV y Bt Be dt de)] w fun r w' => ∃ v : Bool, r = .returned (.bool v) ∧ (v = true ↔ x = y) ∧ Keeps (fun _ => False) w w' := by
  have hq : x = y ↔ x.name = y.name ∧ x.cost = y.cost ∧ x.power = y.power ∧ x.health = y.health ∧ x.tags = y.tags ∧ x.effs = y.effs := ⟨fun e => by subst e; exact ⟨rfl, rfl, rfl, rfl, rfl, rfl⟩, fun h => by cases x; cases y; simp_all⟩
  have HQ := Lib.hid hq
  obtain ⟨w0, hw0⟩ : ∃ w0, w0 = (w.alloc (.cells (kndV x At Ae ct ce) 40)).alloc (.cells (kndV y Bt Be dt de) 40) := ⟨_, rfl⟩
  have hm1 : Whole w0 w.heap.size 40 (kndV x At Ae ct ce) := by rw [hw0]; exact (Whole.made w _ _).alloc _
  have hm2 : Whole w0 (w.heap.size + 1) 40 (kndV y Bt Be dt de) := by
    rw [hw0]
    have h := Whole.made (w.alloc (.cells (kndV x At Ae ct ce) 40)) 40 (kndV y Bt Be dt de)
    rw [World.size_alloc] at h
    exact h
  have k0 : Keeps (fun _ => False) w w0 := by rw [hw0]; exact ((Keeps.refl _ w).alloc _).alloc _
  have HK0 := Lib.hid k0
  have HW := Lib.hid hw0
  have HMa := Lib.hid hm1
  have HMb := Lib.hid hm2
  have HC0 := Lib.hid (fun W (k : Keeps (fun _ => False) w W) => says_of (eqIntsK_any x.tags y.tags At Bt W.heap.size W.heap.size ct dt W ((h1.keep fun g o hg => k.cell hg id).more k.size) ((h3.keep fun g o hg => k.cell hg id).more k.size) (by have := hm.tags; omega)))
  have HC1 := Lib.hid (fun W (k : Keeps (fun _ => False) w W) => eqEffects_any x.effs y.effs Ae Be ce de W (h2.keeps k (fun _ _ => id) (Nat.le_refl _) |>.more k.size) (h4.keeps k (fun _ _ => id) (Nat.le_refl _) |>.more k.size) hm.effs hn hm.each)
  clear hq hw0 hm1 hm2 k0 h1 h2 h3 h4 hm
  unfold kndV at *
  by_cases e0 : x.name = y.name
  · have hb0 : (x.name != y.name) = false := by rw [e0]; simp
    have E0 := Lib.hid e0
    clear e0
    by_cases e1 : x.cost = y.cost
    · have hb1 : (x.cost != y.cost) = false := by rw [e1]; simp
      have E1 := Lib.hid e1
      clear e1
      by_cases e2 : x.power = y.power
      · have hb2 : (x.power != y.power) = false := by rw [e2]; simp
        have E2 := Lib.hid e2
        clear e2
        by_cases e3 : x.health = y.health
        · have hb3 : (x.health != y.health) = false := by rw [e3]; simp
          have E3 := Lib.hid e3
          clear e3
          go_enter Tryz.func100, Tryz.ntmps100
          go_wp2_with fail
          rw [← HW.out]
          clear HW
          refine (HC0.out _ HK0.out).mono ?_
          rintro r w1 ⟨v, rfl, hv, k⟩
          have HK1 := Lib.hid (HK0.out.trans k)
          have hma := HMa.out.keeps k id
          have hmb := HMb.out.keeps k id
          clear k HMa HMb HC0 HK0
          have HMa := Lib.hid hma
          have HMb := Lib.hid hmb
          clear hma hmb
          cases v with
          | true =>
            have E4 := Lib.hid (hv.1 rfl)
            clear hv
            obtain ⟨a0, a1, a2, a3, a4, a5⟩ := six HMa.out
            obtain ⟨b0, b1, b2, b3, b4, b5⟩ := six HMb.out
            go_wp2_with fail
            clear a0 b0 a1 b1 a2 b2 a3 b3 a4 b4 a5 b5
            refine (HC1.out _ HK1.out).mono ?_
            rintro r w2 ⟨v, rfl, hv, k⟩
            have HK2 := Lib.hid (HK1.out.trans k)
            have hma := HMa.out.keeps k id
            have hmb := HMb.out.keeps k id
            clear k HMa HMb HC1 HK1
            have HMa := Lib.hid hma
            have HMb := Lib.hid hmb
            clear hma hmb
            have HV : Hid (v = true ↔ x = y) := Lib.hid (by
              rw [hv, HQ.out]
              exact ⟨fun h => ⟨E0.out, E1.out, E2.out, E3.out, E4.out, h⟩, fun h => h.2.2.2.2.2⟩)
            clear hv
            go_wp2_with fail
            go_ret
            exact ⟨_, rfl, HV.out, HK2.out⟩
          | false =>
            have HV : Hid (false = true ↔ x = y) := Lib.hid ⟨fun h => (by cases h), fun h => absurd (hv.2 (HQ.out.1 h).2.2.2.2.1) (by simp)⟩
            clear hv
            obtain ⟨a0, a1, a2, a3, a4, a5⟩ := six HMa.out
            obtain ⟨b0, b1, b2, b3, b4, b5⟩ := six HMb.out
            go_wp2_with fail
            go_ret
            exact ⟨_, rfl, HV.out, HK1.out⟩
        · have HV : Hid (false = true ↔ x = y) := Lib.hid ⟨fun h => (by cases h), fun h => absurd (HQ.out.1 h).2.2.2.1 e3⟩
          have hb3 : (x.health != y.health) = true := bne_iff_ne.2 e3
          clear HQ HC0 HC1
          go_enter Tryz.func100, Tryz.ntmps100
          go_wp2_with fail
          rw [← HW.out]
          go_ret
          exact ⟨_, rfl, HV.out, HK0.out⟩
      · have HV : Hid (false = true ↔ x = y) := Lib.hid ⟨fun h => (by cases h), fun h => absurd (HQ.out.1 h).2.2.1 e2⟩
        have hb2 : (x.power != y.power) = true := bne_iff_ne.2 e2
        clear HQ HC0 HC1
        go_enter Tryz.func100, Tryz.ntmps100
        go_wp2_with fail
        rw [← HW.out]
        go_ret
        exact ⟨_, rfl, HV.out, HK0.out⟩
    · have HV : Hid (false = true ↔ x = y) := Lib.hid ⟨fun h => (by cases h), fun h => absurd (HQ.out.1 h).2.1 e1⟩
      have hb1 : (x.cost != y.cost) = true := bne_iff_ne.2 e1
      clear HQ HC0 HC1
      go_enter Tryz.func100, Tryz.ntmps100
      go_wp2_with fail
      rw [← HW.out]
      go_ret
      exact ⟨_, rfl, HV.out, HK0.out⟩
  · have HV : Hid (false = true ↔ x = y) := Lib.hid ⟨fun h => (by cases h), fun h => absurd (HQ.out.1 h).1 e0⟩
    have hb0 : (x.name != y.name) = true := bne_iff_ne.2 e0
    clear HQ HC0 HC1
    go_enter Tryz.func100, Tryz.ntmps100
    go_wp2_with fail
    rw [← HW.out]
    go_ret
    exact ⟨_, rfl, HV.out, HK0.out⟩
set_option maxRecDepth 4000 in
set_option maxHeartbeats 2000000 in
theorem eqKinds_any (l m : List Knd) (A A' : Option Addr) (cap cap' : Nat) (w : World) (hx : KdLies w w.heap.size A l) (hy : KdLies w w.heap.size A' m) (hl : l.length ≤ 1000000000) (hl2 : m.length ≤ 140737488355328) (hm : ∀ e ∈ l, KndFew e) (hme : ∀ e ∈ m, e.effs.length ≤ 140737488355328) :
    Calls Tryz.prog 47 #[.slice A l.length cap, .slice A' m.length cap'] w fun r w' => ∃ v : Bool, r = .returned (.bool v) ∧ (v = true ↔ l = m) ∧ Keeps (fun _ => False) w w' := by
  have HX := Lib.hid hx
  have HY := Lib.hid hy
  have HF := Lib.hid hm
  clear hx hy hm
  by_cases hlen : l.length = m.length
  · have HL := Lib.hid hlen
    go_enter Tryz.func47, Tryz.ntmps47
    go_wp2_with fail
    go_loopw [5] (fun vi wr => ∃ k : Nat, k ≤ l.length ∧ vi = .int .i64 k ∧ Hid (l.take k = m.take k) ∧ Hid (Keeps (fun _ => False) w wr)) (fun vi _ => l.length - (intOf vi).toNat)
    case atStart => exact ⟨0, by omega, rfl, Lib.hid rfl, Lib.hid (Keeps.refl _ _)⟩
    case round =>
      clear hlen
      obtain ⟨k, hk, rfl, HT, HK⟩ := hrel
      by_cases hlt : k < l.length
      · have hlt' : k < m.length := by have := HL.out; omega
        obtain ⟨g, off, At, ct, Ae, ce, hgA, hg, c0, c1, c2, c3, c4, c5, l1, l2⟩ := HX.out k l[k] (List.getElem?_eq_getElem hlt)
        obtain ⟨g', off', Bt, dt, Be, de, hgA', hg', d0, d1, d2, d3, d4, d5, l3, l4⟩ := HY.out k m[k] (List.getElem?_eq_getElem hlt')
        have HSf : Hid (∀ W, Keeps (fun _ => False) w W → (W.cell? ⟨g, off + k * 6, none⟩ = some (.int .i64 l[k].name) ∧ W.cell? ⟨g, off + k * 6 + 1, none⟩ = some (.int .i64 l[k].cost) ∧ W.cell? ⟨g, off + k * 6 + 2, none⟩ = some (.int .i64 l[k].power) ∧ W.cell? ⟨g, off + k * 6 + 3, none⟩ = some (.int .i64 l[k].health) ∧ W.cell? ⟨g, off + k * 6 + 4, none⟩ = some (.slice At l[k].tags.length ct) ∧ W.cell? ⟨g, off + k * 6 + 5, none⟩ = some (.slice Ae l[k].effs.length ce)) ∧ W.cell? ⟨g', off' + k * 6, none⟩ = some (.int .i64 m[k].name) ∧ W.cell? ⟨g', off' + k * 6 + 1, none⟩ = some (.int .i64 m[k].cost) ∧ W.cell? ⟨g', off' + k * 6 + 2, none⟩ = some (.int .i64 m[k].power) ∧ W.cell? ⟨g', off' + k * 6 + 3, none⟩ = some (.int .i64 m[k].health) ∧ W.cell? ⟨g', off' + k * 6 + 4, none⟩ = some (.slice Bt m[k].tags.length dt) ∧ W.cell? ⟨g', off' + k * 6 + 5, none⟩ = some (.slice Be m[k].effs.length de)) := Lib.hid (fun W hW => ⟨⟨(hW.cell hg id).trans c0, (hW.cell hg id).trans c1, (hW.cell hg id).trans c2, (hW.cell hg id).trans c3, (hW.cell hg id).trans c4, (hW.cell hg id).trans c5⟩, (hW.cell hg' id).trans d0, (hW.cell hg' id).trans d1, (hW.cell hg' id).trans d2, (hW.cell hg' id).trans d3, (hW.cell hg' id).trans d4, (hW.cell hg' id).trans d5⟩)
        have hef := HF.out _ (List.getElem_mem hlt)
        have HEq : Hid (l[k] = m[k] → l.take (k + 1) = m.take (k + 1)) := Lib.hid (fun e => by rw [List.take_succ_eq_append_getElem hlt, List.take_succ_eq_append_getElem hlt', HT.out, e])
        have HNe : Hid (l[k] ≠ m[k] → l ≠ m) := Lib.hid (fun e h => e (by subst h; rfl))
        have HCf := Lib.hid (fun W (hW : Keeps (fun _ => False) w W) => eqKind_any l[k] m[k] At Ae Bt Be ct ce dt de W ((l1.keep fun g o hg => hW.cell hg id).more hW.size) ((l2.keeps hW (fun _ _ => id) (Nat.le_refl _)).more hW.size) ((l3.keep fun g o hg => hW.cell hg id).more hW.size) ((l4.keeps hW (fun _ _ => id) (Nat.le_refl _)).more hW.size) hef (hme _ (List.getElem_mem hlt')))
        subst hgA hgA'
        clear c0 c1 c2 c3 c4 c5 d0 d1 d2 d3 d4 d5 l1 l2 l3 l4 hef
        generalize l[k] = x at *
        generalize m[k] = y at *
        have HSf' : Hid (∀ W, Keeps (fun _ => False) w W → W.cell? ⟨g, off + k * 6, none⟩ = some (.int .i64 x.name) ∧ W.cell? ⟨g, off + k * 6 + 1, none⟩ = some (.int .i64 x.cost) ∧ W.cell? ⟨g, off + k * 6 + 2, none⟩ = some (.int .i64 x.power) ∧ W.cell? ⟨g, off + k * 6 + 3, none⟩ = some (.int .i64 x.health) ∧ W.cell? ⟨g, off + k * 6 + 4, none⟩ = some (.slice At x.tags.length ct) ∧ W.cell? ⟨g, off + k * 6 + 5, none⟩ = some (.slice Ae x.effs.length ce) ∧ W.cell? ⟨g', off' + k * 6, none⟩ = some (.int .i64 y.name) ∧ W.cell? ⟨g', off' + k * 6 + 1, none⟩ = some (.int .i64 y.cost) ∧ W.cell? ⟨g', off' + k * 6 + 2, none⟩ = some (.int .i64 y.power) ∧ W.cell? ⟨g', off' + k * 6 + 3, none⟩ = some (.int .i64 y.health) ∧ W.cell? ⟨g', off' + k * 6 + 4, none⟩ = some (.slice Bt y.tags.length dt) ∧ W.cell? ⟨g', off' + k * 6 + 5, none⟩ = some (.slice Be y.effs.length de)) := Lib.hid (fun W hW => by
          obtain ⟨⟨e0, e1, e2, e3, e4, e5⟩, h⟩ := HSf.out W hW
          exact ⟨e0, e1, e2, e3, e4, e5, h⟩)
        have HSf := HSf'
        clear HSf'
        go_wp2_with fail
        have HKd := Lib.hid (HK.out.drew)
        have HS0 := Lib.hid (HSf.out wr.drew HKd.out)
        have HC := Lib.hid (HCf.out wr.drew HKd.out)
        unfold kndV at HC
        clear HCf
        · skip
          refine wp_region_upTo 8 (fun W => W.cell? ⟨g, off + k * 6, none⟩ = some (.int .i64 x.name) ∧ W.cell? ⟨g, off + k * 6 + 1, none⟩ = some (.int .i64 x.cost) ∧ W.cell? ⟨g, off + k * 6 + 2, none⟩ = some (.int .i64 x.power) ∧ W.cell? ⟨g, off + k * 6 + 3, none⟩ = some (.int .i64 x.health) ∧ W.cell? ⟨g, off + k * 6 + 4, none⟩ = some (.slice At x.tags.length ct) ∧ W.cell? ⟨g, off + k * 6 + 5, none⟩ = some (.slice Ae x.effs.length ce) ∧ W.cell? ⟨g', off' + k * 6, none⟩ = some (.int .i64 y.name) ∧ W.cell? ⟨g', off' + k * 6 + 1, none⟩ = some (.int .i64 y.cost) ∧ W.cell? ⟨g', off' + k * 6 + 2, none⟩ = some (.int .i64 y.power) ∧ W.cell? ⟨g', off' + k * 6 + 3, none⟩ = some (.int .i64 y.health) ∧ W.cell? ⟨g', off' + k * 6 + 4, none⟩ = some (.slice Bt y.tags.length dt) ∧ W.cell? ⟨g', off' + k * 6 + 5, none⟩ = some (.slice Be y.effs.length de)) (fun _ => True) (by kernel_rfl) ?_
          refine upTo_take (i := 0) (v := ?v1) rfl (by kernel_rfl) (by kernel_rfl) (by kernel_rfl) (fun _ _ _ h => by first | exact h | exact absurd h.1 (fun e => by cases e)) (by decide) (Or.inl ⟨by rfl, ?hy1⟩) (HS0.out) (fun _ => trivial) ?rest1
          case hy1 =>
            intro w hSw
            clear hSw
            go_simp
            try with_reducible rfl
          go_simp
          refine upTo_take (i := 1) (v := ?v2) rfl (by kernel_rfl) (by kernel_rfl) (by kernel_rfl) (fun _ _ _ h => by first | exact h | exact absurd h.1 (fun e => by cases e)) (by decide) (Or.inl ⟨by rfl, ?hy2⟩) (HS0.out) (fun _ => trivial) ?rest2
          case hy2 =>
            intro w hSw
            clear hSw
            go_simp
            try with_reducible rfl
          go_simp
          refine upTo_take (i := 2) (v := ?v3) rfl (by kernel_rfl) (by kernel_rfl) (by kernel_rfl) (fun _ _ _ h => by first | exact h | exact absurd h.1 (fun e => by cases e)) (by decide) (Or.inl ⟨by rfl, ?hy3⟩) (HS0.out) (fun _ => trivial) ?rest3
          case hy3 =>
            intro w hSw
            clear hSw
            go_simp
            try with_reducible rfl
          go_simp
          refine upTo_take (i := 3) (v := ?v4) rfl (by kernel_rfl) (by kernel_rfl) (by kernel_rfl) (fun _ _ _ h => by first | exact h | exact absurd h.1 (fun e => by cases e)) (by decide) (Or.inl ⟨by rfl, ?hy4⟩) (HS0.out) (fun _ => trivial) ?rest4
          case hy4 =>
            intro w hSw
            obtain ⟨a0, a1, a2, a3, a4, a5, b0, b1, b2, b3, b4, b5⟩ := hSw
            go_simp
            try with_reducible rfl
          go_simp
          refine upTo_take (i := 4) (v := ?v5) rfl (by kernel_rfl) (by kernel_rfl) (by kernel_rfl) (fun _ _ _ h => by first | exact h | exact absurd h.1 (fun e => by cases e)) (by decide) (Or.inl ⟨by rfl, ?hy5⟩) (HS0.out) (fun _ => trivial) ?rest5
          case hy5 =>
            intro w hSw
            clear hSw
            go_simp
            try with_reducible rfl
          go_simp
          refine upTo_take (i := 5) (v := ?v6) rfl (by kernel_rfl) (by kernel_rfl) (by kernel_rfl) (fun _ _ _ h => by first | exact h | exact absurd h.1 (fun e => by cases e)) (by decide) (Or.inl ⟨by rfl, ?hy6⟩) (HS0.out) (fun _ => trivial) ?rest6
          case hy6 =>
            intro w hSw
            clear hSw
            go_simp
            try with_reducible rfl
          go_simp
          refine upTo_take (i := 6) (v := ?v7) rfl (by kernel_rfl) (by kernel_rfl) (by kernel_rfl) (fun _ _ _ h => by first | exact h | exact absurd h.1 (fun e => by cases e)) (by decide) (Or.inl ⟨by rfl, ?hy7⟩) (HS0.out) (fun _ => trivial) ?rest7
          case hy7 =>
            intro w hSw
            clear hSw
            go_simp
            try with_reducible rfl
          go_simp
          refine upTo_take (i := 7) (v := ?v8) rfl (by kernel_rfl) (by kernel_rfl) (by kernel_rfl) (fun _ _ _ h => by first | exact h | exact absurd h.1 (fun e => by cases e)) (by decide) (Or.inl ⟨by rfl, ?hy8⟩) (HS0.out) (fun _ => trivial) ?rest8
          case hy8 =>
            intro w hSw
            obtain ⟨a0, a1, a2, a3, a4, a5, b0, b1, b2, b3, b4, b5⟩ := hSw
            go_simp
            try with_reducible rfl
          go_simp
          refine upTo_next (i := 8) (by kernel_rfl) rfl ?_
          intro K hK
          go_simp
          refine (HC.out).mono ?_
          rintro r w1 ⟨v, rfl, hv, hk1⟩
          have HV := Lib.hid hv
          have HK1 : Hid (Keeps (fun _ => False) w w1) := Lib.hid (HKd.out.trans hk1)
          have HS1 := Lib.hid (HSf.out w1 HK1.out)
          clear hv hk1 HC HS0 HKd
          refine hK.out _ _ (HS1.out) (fun h => absurd h (by decide)) ?_
          clear hK K
          go_simp
          refine upTo_take (i := 9) (v := ?v9) rfl (by kernel_rfl) (by kernel_rfl) (by kernel_rfl) (fun _ _ _ h => by first | exact h | exact absurd h.1 (fun e => by cases e)) (by decide) (Or.inl ⟨by rfl, ?hy9⟩) (HS1.out) (fun h => absurd h (by decide)) ?rest9
          case hy9 =>
            intro w hSw
            clear hSw
            go_simp
            try with_reducible rfl
          go_simp
          refine upTo_done (by kernel_rfl) ?_ _
          by_cases hxy : x = y
          · have hvt : v = true := HV.out.2 hxy
            have HT1 := Lib.hid (HEq.out hxy)
            subst hvt
            clear HV HEq HNe HT hxy
            go_wp2_with fail
            go_roundw
            case rel => exact ⟨k + 1, by omega, by go_num, HT1, HK1⟩
            case measure => simp [intOf]; omega
          · have hvt : v = false := by
              cases v with
              | false => rfl
              | true => exact absurd (HV.out.1 rfl) hxy
            have hne := HNe.out hxy
            subst hvt
            have HN := Lib.hid hne
            clear HV HEq HNe HT hxy hne
            go_wp2_with fail
            go_ret
            exact ⟨false, rfl, ⟨fun h => (by cases h), fun h => absurd h HN.out⟩, HK1.out⟩
      · obtain rfl : k = l.length := by omega
        have HE : Hid (l = m) := Lib.hid (by have := HT.out; rw [List.take_length, HL.out, List.take_length] at this; exact this)
        clear HT
        go_wp2_with fail
        go_ret
        exact ⟨true, rfl, ⟨fun _ => HE.out, fun _ => rfl⟩, HK.out⟩
  · have HN : Hid (l ≠ m) := Lib.hid (fun e => hlen (by rw [e]))
    go_enter Tryz.func47, Tryz.ntmps47
    go_wp2_with fail
    go_ret
    exact ⟨false, rfl, ⟨fun h => (by cases h), fun h => absurd h HN.out⟩, Keeps.refl _ _⟩
set_option maxRecDepth 4000 in
set_option maxHeartbeats 2000000 in
theorem eqPack_any (x y : Pk) (Ai At Ak Bi Bt Bk : Option Addr) (ci ct ck di dt dk : Nat) (w : World) (h1 : PkIn w w.heap.size x Ai At Ak) (h2 : PkIn w w.heap.size y Bi Bt Bk) (hm : PkFew x) (hmy : PkFew y) :
    Calls Tryz.prog 11 #[.agg (pkC x Ai At Ak ci ct ck), .agg (pkC y Bi Bt Bk di dt dk)] w fun r w' => ∃ v : Bool, r = .returned (.bool v) ∧ (v = true ↔ x = y) ∧ Keeps (fun _ => False) w w' := by
  have hq : x = y ↔ x.cards = y.cards ∧ x.ints = y.ints ∧ x.texts = y.texts ∧ x.kinds = y.kinds := ⟨fun e => by subst e; exact ⟨rfl, rfl, rfl, rfl⟩, fun h => by cases x; cases y; simp_all⟩
  have HQ := Lib.hid hq
  obtain ⟨w0, hw0⟩ : ∃ w0, w0 = (w.alloc (.cells (pkC x Ai At Ak ci ct ck) 26)).alloc (.cells (pkC y Bi Bt Bk di dt dk) 26) := ⟨_, rfl⟩
  have hm1 : Whole w0 w.heap.size 26 (pkC x Ai At Ak ci ct ck) := by rw [hw0]; exact (Whole.made w _ _).alloc _
  have hm2 : Whole w0 (w.heap.size + 1) 26 (pkC y Bi Bt Bk di dt dk) := by
    rw [hw0]
    have h := Whole.made (w.alloc (.cells (pkC x Ai At Ak ci ct ck) 26)) 26 (pkC y Bi Bt Bk di dt dk)
    rw [World.size_alloc] at h
    exact h
  have k0 : Keeps (fun _ => False) w w0 := by rw [hw0]; exact ((Keeps.refl _ w).alloc _).alloc _
  have HK0 := Lib.hid k0
  have HW := Lib.hid hw0
  have HMa := Lib.hid hm1
  have HMb := Lib.hid hm2
  have HC0 := Lib.hid (fun W (k : Keeps (fun _ => False) w W) => says_of (eqLongs_any x.ints y.ints Ai Bi W.heap.size W.heap.size ci di W ((h1.ints.keep fun g o hg => k.cell hg id).more k.size) ((h2.ints.keep fun g o hg => k.cell hg id).more k.size) (by have := hm.ints; omega)))
  have HC1 := Lib.hid (fun W (k : Keeps (fun _ => False) w W) => says_of (eqTexts_any x.texts y.texts At Bt W.heap.size W.heap.size ct dt W ((h1.texts.keep fun g o hg => k.cell hg id).more k.size) ((h2.texts.keep fun g o hg => k.cell hg id).more k.size) (by have := hm.texts; omega)))
  have HC2 := Lib.hid (fun W (k : Keeps (fun _ => False) w W) => eqKinds_any x.kinds y.kinds Ak Bk ck dk W (h1.kinds.keeps k (fun _ _ => id) (Nat.le_refl _) |>.more k.size) (h2.kinds.keeps k (fun _ _ => id) (Nat.le_refl _) |>.more k.size) hm.kinds (by have := hmy.kinds; omega) hm.each (fun e he => by have := (hmy.each e he).effs; omega))
  clear hq hw0 hm1 hm2 k0 h1 h2 hm hmy
  unfold pkC at *
  by_cases e0 : x.cards = y.cards
  · have hb0 : (x.cards != y.cards) = false := by rw [e0]; simp
    have E0 := Lib.hid e0
    clear e0
    go_enter Tryz.func11, Tryz.ntmps11
    go_wp2_with fail
    rw [← HW.out]
    clear HW
    refine (HC0.out _ HK0.out).mono ?_
    rintro r w1 ⟨v, rfl, hv, k⟩
    have HK1 := Lib.hid (HK0.out.trans k)
    have hma := HMa.out.keeps k id
    have hmb := HMb.out.keeps k id
    clear k HMa HMb HC0 HK0
    have HMa := Lib.hid hma
    have HMb := Lib.hid hmb
    clear hma hmb
    cases v with
    | true =>
      have E1 := Lib.hid (hv.1 rfl)
      clear hv
      obtain ⟨a0, a1, a2, a3⟩ := four HMa.out
      obtain ⟨b0, b1, b2, b3⟩ := four HMb.out
      go_wp2_with fail
      clear a0 b0 a1 b1 a2 b2 a3 b3
      refine (HC1.out _ HK1.out).mono ?_
      rintro r w2 ⟨v, rfl, hv, k⟩
      have HK2 := Lib.hid (HK1.out.trans k)
      have hma := HMa.out.keeps k id
      have hmb := HMb.out.keeps k id
      clear k HMa HMb HC1 HK1
      have HMa := Lib.hid hma
      have HMb := Lib.hid hmb
      clear hma hmb
      cases v with
      | true =>
        have E2 := Lib.hid (hv.1 rfl)
        clear hv
        obtain ⟨a0, a1, a2, a3⟩ := four HMa.out
        obtain ⟨b0, b1, b2, b3⟩ := four HMb.out
        go_wp2_with fail
        clear a0 b0 a1 b1 a2 b2 a3 b3
        refine (HC2.out _ HK2.out).mono ?_
        rintro r w3 ⟨v, rfl, hv, k⟩
        have HK3 := Lib.hid (HK2.out.trans k)
        have hma := HMa.out.keeps k id
        have hmb := HMb.out.keeps k id
        clear k HMa HMb HC2 HK2
        have HMa := Lib.hid hma
        have HMb := Lib.hid hmb
        clear hma hmb
        have HV : Hid (v = true ↔ x = y) := Lib.hid (by
          rw [hv, HQ.out]
          exact ⟨fun h => ⟨E0.out, E1.out, E2.out, h⟩, fun h => h.2.2.2⟩)
        clear hv
        go_wp2_with fail
        go_ret
        exact ⟨_, rfl, HV.out, HK3.out⟩
      | false =>
        have HV : Hid (false = true ↔ x = y) := Lib.hid ⟨fun h => (by cases h), fun h => absurd (hv.2 (HQ.out.1 h).2.2.1) (by simp)⟩
        clear hv
        obtain ⟨a0, a1, a2, a3⟩ := four HMa.out
        obtain ⟨b0, b1, b2, b3⟩ := four HMb.out
        go_wp2_with fail
        go_ret
        exact ⟨_, rfl, HV.out, HK2.out⟩
    | false =>
      have HV : Hid (false = true ↔ x = y) := Lib.hid ⟨fun h => (by cases h), fun h => absurd (hv.2 (HQ.out.1 h).2.1) (by simp)⟩
      clear hv
      obtain ⟨a0, a1, a2, a3⟩ := four HMa.out
      obtain ⟨b0, b1, b2, b3⟩ := four HMb.out
      go_wp2_with fail
      go_ret
      exact ⟨_, rfl, HV.out, HK1.out⟩
  · have HV : Hid (false = true ↔ x = y) := Lib.hid ⟨fun h => (by cases h), fun h => absurd (HQ.out.1 h).1 e0⟩
    have hb0 : (x.cards != y.cards) = true := bne_iff_ne.2 e0
    clear HQ HC0 HC1 HC2
    go_enter Tryz.func11, Tryz.ntmps11
    go_wp2_with fail
    rw [← HW.out]
    go_ret
    exact ⟨_, rfl, HV.out, HK0.out⟩
end Go.Proofs.YtcmbdnjcfneinaaGreatDoor
