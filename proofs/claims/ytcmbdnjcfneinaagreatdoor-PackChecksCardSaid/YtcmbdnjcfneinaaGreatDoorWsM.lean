/-
  Do the marks stand behind a list of effects: the walks. Conditions: lengths within 10 ^ 9.
-/
import Derived.Test.YtcmbdnjcfneinaaGreatDoorWvMb
import Derived.Deep.QuietTactic
import Derived.BigQuiet
namespace Go.Proofs.YtcmbdnjcfneinaaGreatDoor
open Go.RowKit
set_option maxRecDepth 4000 in
set_option maxHeartbeats 1000000 in
theorem spareEffect_any (e : Eff) (A1 A2 : Option Addr) (c1 c2 : Nat) (w : World) (B : Nat) (h1 : WSm w B (.slice A1 e.slots.length c1) e.slots) (h2 : WBy w B (.slice A2 e.code.length c2) e.code) (hm : EffFew e) :
    Calls Tryz.prog 156 #[.agg (effV e A1 A2 c1 c2)] w fun r w' => r = .returned (.bool true) ∧ Keeps (fun _ => False) w w' := by
  unfold effV
  have P := Lib.hid (Whole.made w 43 #[.int .i64 e.on, .slice A1 e.slots.length c1, .slice A2 e.code.length c2, .int .i64 e.bound])
  have K := Lib.hid ((Keeps.refl (fun _ => False) w).alloc (.cells #[.int .i64 e.on, .slice A1 e.slots.length c1, .slice A2 e.code.length c2, .int .i64 e.bound] 43))
  have H1 := Lib.hid h1
  have H2 := Lib.hid h2
  clear h1 h2
  go_enter Tryz.func156, Tryz.ntmps156
  go_wp2_with fail
  generalize (w.alloc (.cells #[.int .i64 e.on, .slice A1 e.slots.length c1, .slice A2 e.code.length c2, .int .i64 e.bound] 43)) = w0 at *
  obtain ⟨a0, a1, a2, a3⟩ := four P.out
  go_wp2_with fail
  refine (spareSmalls_in e.slots _ B w0 (H1.out.keeps K.out (fun _ _ => id)) (hm.slots)).mono ?_
  rintro r w1 ⟨rfl, kk⟩
  clear a0 a1 a2 a3
  replace P := Lib.hid (P.out.keeps kk id)
  replace K := Lib.hid (K.out.trans kk)
  clear kk
  obtain ⟨a0, a1, a2, a3⟩ := four P.out
  go_wp2_with fail
  refine (spareBytes_in e.code _ B w1 (H2.out.keeps K.out (fun _ _ => id)) (hm.code)).mono ?_
  rintro r w2 ⟨rfl, kk⟩
  clear a0 a1 a2 a3
  replace P := Lib.hid (P.out.keeps kk id)
  replace K := Lib.hid (K.out.trans kk)
  clear kk
  go_wp2_with fail
  go_ret
  exact ⟨rfl, K.out⟩
set_option maxRecDepth 4000 in
set_option maxHeartbeats 1000000 in
theorem spareEffects_any (g : Nat) (xs : List Eff) (cs : Array Value) (w : World) (hU : WUp ElE markE 4 43 g xs w cs (xs.length + 64)) (hl : xs.length ≤ 1000000000) (hr : ∀ r ∈ xs, EffFew r) :
    Calls Tryz.prog 132 #[.slice (some ⟨g, 0, none⟩) xs.length (xs.length + 64)] w fun e w' => e = .returned (.bool true) ∧ Keeps (fun _ => False) w w' := by
  have HU := Lib.hid hU
  clear hU
  go_enter Tryz.func132, Tryz.ntmps132
  go_wp2_with fail
  go_loopw [4] (fun vi wr => ∃ i : Nat, xs.length ≤ i ∧ i ≤ xs.length + 64 ∧ vi = .int .i64 i ∧ Hid (Keeps (fun _ => False) w wr)) (fun vi _ => xs.length + 64 - (intOf vi).toNat)
  case atStart => exact ⟨xs.length, by omega, by omega, rfl, Lib.hid (Keeps.refl _ w)⟩
  case round =>
    obtain ⟨i, hn, hi, rfl, HK⟩ := hrel
    by_cases hlt : i < xs.length + 64
    · have k0 : wr.cell? ⟨g, i * 4, none⟩ = some (.int .i64 (1048576 * 9 + (i : Int) + 1)) := ((HK.out.cell HU.out.whole.inside id).trans (HU.out.whole.cellAt _)).trans (HU.out.marks i hlt hn 0 (by omega))
      have k1 : wr.cell? ⟨g, i * 4 + 1, none⟩ = some (.slice none 0 0) := ((HK.out.cell HU.out.whole.inside id).trans (HU.out.whole.cellAt _)).trans (HU.out.marks i hlt hn 1 (by omega))
      have k2 : wr.cell? ⟨g, i * 4 + 2, none⟩ = some (.slice none 0 0) := ((HK.out.cell HU.out.whole.inside id).trans (HU.out.whole.cellAt _)).trans (HU.out.marks i hlt hn 2 (by omega))
      have k3 : wr.cell? ⟨g, i * 4 + 3, none⟩ = some (.int .i64 0) := ((HK.out.cell HU.out.whole.inside id).trans (HU.out.whole.cellAt _)).trans (HU.out.marks i hlt hn 3 (by omega))
      have he : ((1048576 * 9 + (i : Int) + 1) == (1048576 * 9 + (i : Int) + 1)) = true := by simp
      go_wp2_with fail
      go_quiet (first | (go_at_call 86; refine Calls.quiet_of_same (num_same 9 i _ (by omega) (by omega))))
      go_wp2_with fail
      go_roundw
      case rel => exact ⟨i + 1, by omega, by omega, by go_num, Lib.hid ((HK.out.alloc _).drewN _)⟩
      case measure => simp [intOf]; omega
    · go_wp2_with fail
      clear hn hi hlt
      go_loopw [6] (fun vi wr => ∃ i : Nat, i ≤ xs.length ∧ vi = .int .i64 i ∧ Hid (Keeps (fun _ => False) w wr)) (fun vi _ => xs.length - (intOf vi).toNat)
      case atStart => exact ⟨0, by omega, rfl, HK⟩
      case round =>
        clear HK
        obtain ⟨i, hi, rfl, HK⟩ := hrel
        by_cases hlt : i < xs.length
        · have hxi : xs[i]? = some xs[i] := List.getElem?_eq_getElem hlt
          have hri := hr xs[i] (List.getElem_mem hlt)
          generalize xs[i] = x at *
          obtain ⟨v, hv, ⟨B1, B2, d1, d2, rfl, E1, E2⟩, hc⟩ := HU.out.el i x (by omega) hxi
          replace E1 := E1.keeps HK.out (fun _ _ => id)
          replace E2 := E2.keeps HK.out (fun _ _ => id)
          have k0 : wr.cell? ⟨g, i * 4, none⟩ = some (.int .i64 x.on) := ((HK.out.cell HU.out.whole.inside id).trans (HU.out.whole.cellAt _)).trans (hc 0 (by omega))
          have k1 : wr.cell? ⟨g, i * 4 + 1, none⟩ = some (.slice B1 x.slots.length d1) := ((HK.out.cell HU.out.whole.inside id).trans (HU.out.whole.cellAt _)).trans (hc 1 (by omega))
          have k2 : wr.cell? ⟨g, i * 4 + 2, none⟩ = some (.slice B2 x.code.length d2) := ((HK.out.cell HU.out.whole.inside id).trans (HU.out.whole.cellAt _)).trans (hc 2 (by omega))
          have k3 : wr.cell? ⟨g, i * 4 + 3, none⟩ = some (.int .i64 x.bound) := ((HK.out.cell HU.out.whole.inside id).trans (HU.out.whole.cellAt _)).trans (hc 3 (by omega))
          go_wp2_with fail
          refine (spareEffect_any x B1 B2 d1 d2 wr _ E1 E2 hri).mono ?_
          rintro e w1 ⟨rfl, kk⟩
          have HK' := Lib.hid (HK.out.trans kk)
          clear k0 k1 k2 k3 HK kk
          go_wp2_with fail
          go_roundw
          case rel => exact ⟨i + 1, by omega, by go_num, HK'⟩
          case measure => simp [intOf]; omega
        · obtain rfl : i = xs.length := by omega
          go_wp2_with fail
          go_ret
          exact ⟨rfl, HK.out⟩
theorem spareEffects_in (l : List Eff) (v : Value) (B : Nat) (w : World) (h : WEf w B v l) (hl : l.length ≤ 1000000000) (hr : ∀ r ∈ l, EffFew r) :
    Calls Tryz.prog 132 #[v] w fun e w' => e = .returned (.bool true) ∧ Keeps (fun _ => False) w w' := by
  obtain ⟨g, cs, rfl, _, hw⟩ := h
  exact spareEffects_any g l cs w hw hl hr
end Go.Proofs.YtcmbdnjcfneinaaGreatDoor
/-
  Do the marks stand behind a list of kinds: the walks. Conditions: lengths within 10 ^ 9.
-/
namespace Go.Proofs.YtcmbdnjcfneinaaGreatDoor
open Go.RowKit
set_option maxRecDepth 4000 in
set_option maxHeartbeats 1000000 in
theorem spareKind_any (k : Knd) (A1 A2 : Option Addr) (c1 c2 : Nat) (w : World) (B : Nat) (h1 : WIn w B (.slice A1 k.tags.length c1) k.tags) (h2 : WEf w B (.slice A2 k.effs.length c2) k.effs) (hm : KndFew k) :
    Calls Tryz.prog 101 #[.agg (kndV k A1 A2 c1 c2)] w fun r w' => r = .returned (.bool true) ∧ Keeps (fun _ => False) w w' := by
  unfold kndV
  have P := Lib.hid (Whole.made w 40 #[.int .i64 k.name, .int .i64 k.cost, .int .i64 k.power, .int .i64 k.health, .slice A1 k.tags.length c1, .slice A2 k.effs.length c2])
  have K := Lib.hid ((Keeps.refl (fun _ => False) w).alloc (.cells #[.int .i64 k.name, .int .i64 k.cost, .int .i64 k.power, .int .i64 k.health, .slice A1 k.tags.length c1, .slice A2 k.effs.length c2] 40))
  have H1 := Lib.hid h1
  have H2 := Lib.hid h2
  clear h1 h2
  go_enter Tryz.func101, Tryz.ntmps101
  go_wp2_with fail
  generalize (w.alloc (.cells #[.int .i64 k.name, .int .i64 k.cost, .int .i64 k.power, .int .i64 k.health, .slice A1 k.tags.length c1, .slice A2 k.effs.length c2] 40)) = w0 at *
  obtain ⟨a0, a1, a2, a3, a4, a5⟩ := six P.out
  go_wp2_with fail
  refine (spareInts_in k.tags _ B w0 (H1.out.keeps K.out (fun _ _ => id)) (hm.tags)).mono ?_
  rintro r w1 ⟨rfl, kk⟩
  clear a0 a1 a2 a3 a4 a5
  replace P := Lib.hid (P.out.keeps kk id)
  replace K := Lib.hid (K.out.trans kk)
  clear kk
  obtain ⟨a0, a1, a2, a3, a4, a5⟩ := six P.out
  go_wp2_with fail
  refine (spareEffects_in k.effs _ B w1 (H2.out.keeps K.out (fun _ _ => id)) (hm.effs) (hm.each)).mono ?_
  rintro r w2 ⟨rfl, kk⟩
  clear a0 a1 a2 a3 a4 a5
  replace P := Lib.hid (P.out.keeps kk id)
  replace K := Lib.hid (K.out.trans kk)
  clear kk
  go_wp2_with fail
  go_ret
  exact ⟨rfl, K.out⟩
set_option maxRecDepth 4000 in
set_option maxHeartbeats 1000000 in
theorem spareKinds_any (g : Nat) (xs : List Knd) (cs : Array Value) (w : World) (hU : WUp ElKd markKd 6 40 g xs w cs (xs.length + 64)) (hl : xs.length ≤ 1000000000) (hr : ∀ r ∈ xs, KndFew r) :
    Calls Tryz.prog 50 #[.slice (some ⟨g, 0, none⟩) xs.length (xs.length + 64)] w fun e w' => e = .returned (.bool true) ∧ Keeps (fun _ => False) w w' := by
  have HU := Lib.hid hU
  clear hU
  go_enter Tryz.func50, Tryz.ntmps50
  go_wp2_with fail
  go_loopw [4] (fun vi wr => ∃ i : Nat, xs.length ≤ i ∧ i ≤ xs.length + 64 ∧ vi = .int .i64 i ∧ Hid (Keeps (fun _ => False) w wr)) (fun vi _ => xs.length + 64 - (intOf vi).toNat)
  case atStart => exact ⟨xs.length, by omega, by omega, rfl, Lib.hid (Keeps.refl _ w)⟩
  case round =>
    obtain ⟨i, hn, hi, rfl, HK⟩ := hrel
    by_cases hlt : i < xs.length + 64
    · have k0 : wr.cell? ⟨g, i * 6, none⟩ = some (.int .i64 (1048576 * 9 + (i : Int) + 1)) := ((HK.out.cell HU.out.whole.inside id).trans (HU.out.whole.cellAt _)).trans (HU.out.marks i hlt hn 0 (by omega))
      have k1 : wr.cell? ⟨g, i * 6 + 1, none⟩ = some (.int .i64 0) := ((HK.out.cell HU.out.whole.inside id).trans (HU.out.whole.cellAt _)).trans (HU.out.marks i hlt hn 1 (by omega))
      have k2 : wr.cell? ⟨g, i * 6 + 2, none⟩ = some (.int .i64 0) := ((HK.out.cell HU.out.whole.inside id).trans (HU.out.whole.cellAt _)).trans (HU.out.marks i hlt hn 2 (by omega))
      have k3 : wr.cell? ⟨g, i * 6 + 3, none⟩ = some (.int .i64 0) := ((HK.out.cell HU.out.whole.inside id).trans (HU.out.whole.cellAt _)).trans (HU.out.marks i hlt hn 3 (by omega))
      have k4 : wr.cell? ⟨g, i * 6 + 4, none⟩ = some (.slice none 0 0) := ((HK.out.cell HU.out.whole.inside id).trans (HU.out.whole.cellAt _)).trans (HU.out.marks i hlt hn 4 (by omega))
      have k5 : wr.cell? ⟨g, i * 6 + 5, none⟩ = some (.slice none 0 0) := ((HK.out.cell HU.out.whole.inside id).trans (HU.out.whole.cellAt _)).trans (HU.out.marks i hlt hn 5 (by omega))
      have he : ((1048576 * 9 + (i : Int) + 1) == (1048576 * 9 + (i : Int) + 1)) = true := by simp
      go_wp2_with fail
      go_quiet (first | (go_at_call 86; refine Calls.quiet_of_same (num_same 9 i _ (by omega) (by omega))))
      go_wp2_with fail
      go_roundw
      case rel => exact ⟨i + 1, by omega, by omega, by go_num, Lib.hid ((HK.out.alloc _).drewN _)⟩
      case measure => simp [intOf]; omega
    · go_wp2_with fail
      clear hn hi hlt
      go_loopw [6] (fun vi wr => ∃ i : Nat, i ≤ xs.length ∧ vi = .int .i64 i ∧ Hid (Keeps (fun _ => False) w wr)) (fun vi _ => xs.length - (intOf vi).toNat)
      case atStart => exact ⟨0, by omega, rfl, HK⟩
      case round =>
        clear HK
        obtain ⟨i, hi, rfl, HK⟩ := hrel
        by_cases hlt : i < xs.length
        · have hxi : xs[i]? = some xs[i] := List.getElem?_eq_getElem hlt
          have hri := hr xs[i] (List.getElem_mem hlt)
          generalize xs[i] = x at *
          obtain ⟨v, hv, ⟨B1, B2, d1, d2, rfl, E1, E2⟩, hc⟩ := HU.out.el i x (by omega) hxi
          replace E1 := E1.keeps HK.out (fun _ _ => id)
          replace E2 := E2.keeps HK.out (fun _ _ => id)
          have k0 : wr.cell? ⟨g, i * 6, none⟩ = some (.int .i64 x.name) := ((HK.out.cell HU.out.whole.inside id).trans (HU.out.whole.cellAt _)).trans (hc 0 (by omega))
          have k1 : wr.cell? ⟨g, i * 6 + 1, none⟩ = some (.int .i64 x.cost) := ((HK.out.cell HU.out.whole.inside id).trans (HU.out.whole.cellAt _)).trans (hc 1 (by omega))
          have k2 : wr.cell? ⟨g, i * 6 + 2, none⟩ = some (.int .i64 x.power) := ((HK.out.cell HU.out.whole.inside id).trans (HU.out.whole.cellAt _)).trans (hc 2 (by omega))
          have k3 : wr.cell? ⟨g, i * 6 + 3, none⟩ = some (.int .i64 x.health) := ((HK.out.cell HU.out.whole.inside id).trans (HU.out.whole.cellAt _)).trans (hc 3 (by omega))
          have k4 : wr.cell? ⟨g, i * 6 + 4, none⟩ = some (.slice B1 x.tags.length d1) := ((HK.out.cell HU.out.whole.inside id).trans (HU.out.whole.cellAt _)).trans (hc 4 (by omega))
          have k5 : wr.cell? ⟨g, i * 6 + 5, none⟩ = some (.slice B2 x.effs.length d2) := ((HK.out.cell HU.out.whole.inside id).trans (HU.out.whole.cellAt _)).trans (hc 5 (by omega))
          go_wp2_with fail
          refine (spareKind_any x B1 B2 d1 d2 wr _ E1 E2 hri).mono ?_
          rintro e w1 ⟨rfl, kk⟩
          have HK' := Lib.hid (HK.out.trans kk)
          clear k0 k1 k2 k3 k4 k5 HK kk
          go_wp2_with fail
          go_roundw
          case rel => exact ⟨i + 1, by omega, by go_num, HK'⟩
          case measure => simp [intOf]; omega
        · obtain rfl : i = xs.length := by omega
          go_wp2_with fail
          go_ret
          exact ⟨rfl, HK.out⟩
theorem spareKinds_in (l : List Knd) (v : Value) (B : Nat) (w : World) (h : WKd w B v l) (hl : l.length ≤ 1000000000) (hr : ∀ r ∈ l, KndFew r) :
    Calls Tryz.prog 50 #[v] w fun e w' => e = .returned (.bool true) ∧ Keeps (fun _ => False) w w' := by
  obtain ⟨g, cs, rfl, _, hw⟩ := h
  exact spareKinds_any g l cs w hw hl hr
end Go.Proofs.YtcmbdnjcfneinaaGreatDoor
/-
  Do the marks stand behind the lists of a pack: the walk. Conditions: lengths within 10 ^ 9.
-/
namespace Go.Proofs.YtcmbdnjcfneinaaGreatDoor
open Go.RowKit
set_option maxRecDepth 4000 in
set_option maxHeartbeats 1000000 in
theorem sparePack_any (p : Pk) (A1 A2 A3 : Option Addr) (c1 c2 c3 : Nat) (w : World) (B : Nat) (h1 : WLo w B (.slice A1 p.ints.length c1) p.ints) (h2 : WTx w B (.slice A2 p.texts.length c2) p.texts) (h3 : WKd w B (.slice A3 p.kinds.length c3) p.kinds) (hm : PkFew p) (hp : Pow w) :
    Calls Tryz.prog 12 #[.agg (pkC p A1 A2 A3 c1 c2 c3)] w fun r w' => r = .returned (.bool true) ∧ Keeps (fun _ => False) w w' := by
  unfold pkC
  have P := Lib.hid (Whole.made w 26 #[.int .i64 p.cards, .slice A1 p.ints.length c1, .slice A2 p.texts.length c2, .slice A3 p.kinds.length c3])
  have K := Lib.hid ((Keeps.refl (fun _ => False) w).alloc (.cells #[.int .i64 p.cards, .slice A1 p.ints.length c1, .slice A2 p.texts.length c2, .slice A3 p.kinds.length c3] 26))
  have H1 := Lib.hid h1
  have H2 := Lib.hid h2
  have H3 := Lib.hid h3
  have HP := Lib.hid hp
  clear h1 h2 h3 hp
  go_enter Tryz.func12, Tryz.ntmps12
  go_wp2_with fail
  generalize (w.alloc (.cells #[.int .i64 p.cards, .slice A1 p.ints.length c1, .slice A2 p.texts.length c2, .slice A3 p.kinds.length c3] 26)) = w0 at *
  obtain ⟨a0, a1, a2, a3⟩ := four P.out
  go_wp2_with fail
  refine (spareLongs_in p.ints _ B w0 (H1.out.keeps K.out (fun _ _ => id)) (hm.ints)).mono ?_
  rintro r w1 ⟨rfl, kk⟩
  clear a0 a1 a2 a3
  replace P := Lib.hid (P.out.keeps kk id)
  replace K := Lib.hid (K.out.trans kk)
  clear kk
  obtain ⟨a0, a1, a2, a3⟩ := four P.out
  go_wp2_with fail
  refine (spareTexts_in p.texts _ B w1 (H2.out.keeps K.out (fun _ _ => id)) (hm.texts) (HP.out.past K.out)).mono ?_
  rintro r w2 ⟨rfl, kk⟩
  clear a0 a1 a2 a3
  replace P := Lib.hid (P.out.keeps kk id)
  replace K := Lib.hid (K.out.trans kk)
  clear kk
  obtain ⟨a0, a1, a2, a3⟩ := four P.out
  go_wp2_with fail
  refine (spareKinds_in p.kinds _ B w2 (H3.out.keeps K.out (fun _ _ => id)) (hm.kinds) (hm.each)).mono ?_
  rintro r w3 ⟨rfl, kk⟩
  clear a0 a1 a2 a3
  replace P := Lib.hid (P.out.keeps kk id)
  replace K := Lib.hid (K.out.trans kk)
  clear kk
  go_wp2_with fail
  go_ret
  exact ⟨rfl, K.out⟩
end Go.Proofs.YtcmbdnjcfneinaaGreatDoor
