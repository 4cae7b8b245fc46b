/-
  How much a pack holds: the walks. Conditions: lengths within 2 ^ 47.
-/
import Derived.Test.YtcmbdnjcfneinaaGreatDoorEqM
namespace Go.Proofs.YtcmbdnjcfneinaaGreatDoor
open Go.RowKit
structure EffBig (e : Eff) : Prop where
  slots : e.slots.length ≤ 140737488355328
  code : e.code.length ≤ 140737488355328
structure KndBig (k : Knd) : Prop where
  tags : k.tags.length ≤ 140737488355328
  effs : k.effs.length ≤ 140737488355328
  each : ∀ e ∈ k.effs, EffBig e
/-- Lengths as Go's memory allows them; numbers of their width. -/
structure PkBig (p : Pk) : Prop where
  ints : p.ints.length ≤ 140737488355328
  texts : p.texts.length ≤ 140737488355328
  text : ∀ t ∈ p.texts, t.length ≤ 140737488355328
  kinds : p.kinds.length ≤ 140737488355328
  each : ∀ k ∈ p.kinds, KndBig k
  ints64 : Ints64 p
  small : ∀ k ∈ p.kinds, ∀ e ∈ k.effs, ∀ x ∈ e.slots, -128 ≤ x ∧ x ≤ 127
def textsW (l : List (List Oct)) : Nat := l.length + (l.map List.length).sum
def effW (e : Eff) : Nat := e.slots.length + e.code.length
def kndW (k : Knd) : Nat := k.tags.length + k.effs.length + (k.effs.map effW).sum
def packW (p : Pk) : Nat := p.ints.length + textsW p.texts + p.kinds.length + (p.kinds.map kndW).sum
theorem sum_mem_le {α : Type} (l : List α) (f : α → Nat) {a : α} (h : a ∈ l) : f a ≤ (l.map f).sum := by
  induction l with
  | nil => cases h
  | cons b l ih =>
    rw [List.map_cons, List.sum_cons]
    rcases List.mem_cons.1 h with rfl | h
    · omega
    · have := ih h; omega
theorem sum_map_le {α : Type} (l : List α) (f g : α → Nat) (c : Nat) (h : ∀ a, f a ≤ c * g a + c) : (l.map f).sum ≤ c * ((l.map g).sum + l.length) := by
  induction l with
  | nil => simp
  | cons a l ih =>
    rw [List.map_cons, List.sum_cons, List.map_cons, List.sum_cons, List.length_cons]
    have := h a
    rw [show c * (g a + (l.map g).sum + (l.length + 1)) = c * g a + c + c * ((l.map g).sum + l.length) by rw [← Nat.mul_succ, ← Nat.mul_add]; congr 1; omega]
    omega
/-- What is not great is small enough for every walk. -/
theorem few_of {p : Pk} (h : PkBig p) (hw : packW p ≤ 16777216) : PkFew p ∧ sizeP p ≤ 1000000000000 := by
  unfold packW textsW at hw
  have hk : ∀ k ∈ p.kinds, kndW k ≤ 16777216 := fun k hk => by have := sum_mem_le p.kinds kndW hk; omega
  have he : ∀ k ∈ p.kinds, ∀ e ∈ k.effs, effW e ≤ 16777216 := fun k hk' e he => by
    have h1 := sum_mem_le k.effs effW he
    have h2 := hk k hk'
    unfold kndW at h2
    omega
  refine ⟨⟨by omega, by omega, fun t ht => by have := sum_mem_le p.texts List.length ht; omega, by omega, fun k hk' => ⟨?_, ?_, fun e he' => ⟨?_, ?_, h.small k hk' e he'⟩⟩, h.ints64⟩, ?_⟩
  · have := hk k hk'; unfold kndW at this; omega
  · have := hk k hk'; unfold kndW at this; omega
  · have := he k hk' e he'; unfold effW at this; omega
  · have := he k hk' e he'; unfold effW at this; omega
  · have h1 : (p.texts.map fun t => 1 + t.length).sum ≤ 1 * ((p.texts.map List.length).sum + p.texts.length) := sum_map_le p.texts _ List.length 1 (fun a => by omega)
    have h2 : (p.kinds.map kndSize).sum ≤ 30 * ((p.kinds.map kndW).sum + p.kinds.length) := sum_map_le p.kinds _ kndW 30 (fun k => by
      have h3 : (k.effs.map effSize).sum ≤ 12 * ((k.effs.map effW).sum + k.effs.length) := sum_map_le k.effs _ effW 12 (fun e => by unfold effSize effW; omega)
      unfold kndSize kndW
      omega)
    unfold sizeP
    omega
set_option maxRecDepth 4000 in
set_option maxHeartbeats 1000000 in
theorem sizeTexts_any (l : List (List Oct)) (A : Option Addr) (cap : Nat) (w : World) (hl : Lies w w.heap.size A (textsV l)) (hm : l.length ≤ 140737488355328) (ht : ∀ t ∈ l, t.length ≤ 140737488355328) :
    Calls Tryz.prog 85 #[.slice A l.length cap] w fun r w' => ∃ n : Nat, r = .returned (.int .i64 n) ∧ n ≤ 281474976710656 ∧ (n = textsW l ∨ 16777216 < n) ∧ Keeps (fun _ => False) w w' := by
  have HL := Lib.hid hl
  have HT := Lib.hid ht
  clear hl ht
  go_enter Tryz.func85, Tryz.ntmps85
  go_wp2_with fail
  go_loopw [3, 4] (fun vn vi wr => ∃ (i n : Nat), i ≤ l.length ∧ vi = .int .i64 i ∧ vn = .int .i64 n ∧ n ≤ 281474976710656 ∧ Hid (n = l.length + ((l.take i).map List.length).sum) ∧ w = wr) (fun _ vi _ => l.length - (intOf vi).toNat)
  case atStart => exact ⟨0, l.length, by omega, rfl, rfl, by omega, Lib.hid (by simp), rfl⟩
  case round =>
    obtain ⟨i, n, hi, rfl, rfl, hn, HN, rfl⟩ := hrel
    by_cases hlt : i < l.length
    · by_cases hbig : n ≤ 16777216
      · obtain ⟨g, off, hgA, hg, hc⟩ := HL.out i (.string (strB l[i])) (by simp [textsV, hlt])
        have hlen := strB_size l[i]
        have hti := HT.out _ (List.getElem_mem hlt)
        have HS := Lib.hid (sum_next l List.length i _ (List.getElem?_eq_getElem hlt))
        subst hgA
        generalize l[i] = x at *
        have HN1 : Hid (n + x.length = l.length + ((l.take (i + 1)).map List.length).sum) := Lib.hid (by rw [HS.out, HN.out]; omega)
        clear HS HN
        go_wp2_with fail
        go_roundw
        case rel => exact ⟨i + 1, n + x.length, by omega, by go_num, by go_num, by omega, HN1, by trivial⟩
        case measure => simp [intOf]; omega
      · have hb2 : ¬ ((n : Int) ≤ 16777216) := by omega
        go_wp2_with fail
        go_ret
        exact ⟨n, rfl, hn, Or.inr (by omega), Keeps.refl _ _⟩
    · obtain rfl : i = l.length := by omega
      have HE : Hid (n = textsW l) := Lib.hid (by have := HN.out; rw [List.take_length] at this; exact this)
      go_wp2_with fail
      go_ret
      exact ⟨n, rfl, hn, Or.inl HE.out, Keeps.refl _ _⟩
set_option maxRecDepth 4000 in
set_option maxHeartbeats 4000000 in
theorem sizePack_any (p : Pk) (Ai At Ak : Option Addr) (ci ct ck : Nat) (w : World) (hx : PkIn w w.heap.size p Ai At Ak) (hm : PkBig p) :
    Calls Tryz.prog 23 #[.agg (pkC p Ai At Ak ci ct ck)] w fun r w' => ∃ n : Nat, r = .returned (.int .i64 n) ∧ (n ≤ 16777216 → packW p ≤ 16777216) ∧ Keeps (fun _ => False) w w' := by
  have ka := (Keeps.refl (fun _ => False) w).alloc (.cells (pkC p Ai At Ak ci ct ck) 26)
  have HMd := Lib.hid ((Whole.made w 26 (pkC p Ai At Ak ci ct ck)).drew)
  have HKd : Hid (Keeps (fun _ => False) w (w.alloc (.cells (pkC p Ai At Ak ci ct ck) 26)).drew) := Lib.hid ka.drew
  have HX := Lib.hid hx
  have HF := Lib.hid hm
  have HC := Lib.hid (sizeTexts_any p.texts At ct _ ((hx.texts.keep fun g o hg => HKd.out.cell hg id).more HKd.out.size) hm.texts hm.text)
  have hmi := hm.ints
  have hmk := hm.kinds
  clear hx hm ka
  unfold pkC at *
  have hS0 : Hid ((w.alloc (.cells #[.int .i64 p.cards, .slice Ai p.ints.length ci, .slice At p.texts.length ct, .slice Ak p.kinds.length ck] 26)).drew.cell? ⟨w.heap.size, 1, none⟩ = some (.slice Ai p.ints.length ci) ∧ _ ∧ _) := Lib.hid ⟨HMd.out.cellAt 1, HMd.out.cellAt 2, HMd.out.cellAt 3⟩
  go_enter Tryz.func23, Tryz.ntmps23
  go_wp2_with fail
  refine wp_region_upTo 5 (fun W => W.cell? ⟨w.heap.size, 1, none⟩ = some (.slice Ai p.ints.length ci) ∧ W.cell? ⟨w.heap.size, 2, none⟩ = some (.slice At p.texts.length ct) ∧ W.cell? ⟨w.heap.size, 3, none⟩ = some (.slice Ak p.kinds.length ck)) (fun _ => True) (by kernel_rfl) ?_
  generalize (w.alloc _).drew = wd at *
  refine upTo_take (i := 0) (v := ?v1) rfl (by kernel_rfl) (by kernel_rfl) (by kernel_rfl) (fun _ _ _ h => by first | exact h | exact absurd h.1 (fun e => by cases e)) (by decide) (Or.inl ⟨by rfl, ?hy1⟩) (hS0.out) (fun _ => trivial) ?rest1
  case hy1 =>
    intro w hSw
    clear hSw
    go_simp
    try with_reducible rfl
  go_simp
  refine upTo_take (i := 1) (v := ?v2) rfl (by kernel_rfl) (by kernel_rfl) (by kernel_rfl) (fun _ _ _ h => by first | exact h | exact absurd h.1 (fun e => by cases e)) (by decide) (Or.inl ⟨by rfl, ?hy2⟩) (hS0.out) (fun _ => trivial) ?rest2
  case hy2 =>
    intro w hSw
    obtain ⟨q1, q2, q3⟩ := hSw
    go_simp
    try with_reducible rfl
  go_simp
  refine upTo_take (i := 2) (v := ?v3) rfl (by kernel_rfl) (by kernel_rfl) (by kernel_rfl) (fun _ _ _ h => by first | exact h | exact absurd h.1 (fun e => by cases e)) (by decide) (Or.inl ⟨by rfl, ?hy3⟩) (hS0.out) (fun _ => trivial) ?rest3
  case hy3 =>
    intro w hSw
    clear hSw
    go_simp
    try with_reducible rfl
  go_simp
  refine upTo_take (i := 3) (v := ?v4) rfl (by kernel_rfl) (by kernel_rfl) (by kernel_rfl) (fun _ _ _ h => by first | exact h | exact absurd h.1 (fun e => by cases e)) (by decide) (Or.inl ⟨by rfl, ?hy4⟩) (hS0.out) (fun _ => trivial) ?rest4
  case hy4 =>
    intro w hSw
    clear hSw
    go_simp
    try with_reducible rfl
  go_simp
  refine upTo_take (i := 4) (v := ?v5) rfl (by kernel_rfl) (by kernel_rfl) (by kernel_rfl) (fun _ _ _ h => by first | exact h | exact absurd h.1 (fun e => by cases e)) (by decide) (Or.inl ⟨by rfl, ?hy5⟩) (hS0.out) (fun _ => trivial) ?rest5
  case hy5 =>
    intro w hSw
    obtain ⟨q1, q2, q3⟩ := hSw
    go_simp
    try with_reducible rfl
  go_simp
  refine upTo_take (i := 7) (v := ?v6) rfl (by kernel_rfl) (by kernel_rfl) (by kernel_rfl) (fun _ _ _ h => by first | exact h | exact absurd h.1 (fun e => by cases e)) (by decide) (Or.inl ⟨by rfl, ?hy6⟩) (hS0.out) (fun _ => trivial) ?rest6
  case hy6 =>
    intro w hSw
    clear hSw
    go_simp
    try with_reducible rfl
  go_simp
  refine upTo_take (i := 8) (v := ?v7) rfl (by kernel_rfl) (by kernel_rfl) (by kernel_rfl) (fun _ _ _ h => by first | exact h | exact absurd h.1 (fun e => by cases e)) (by decide) (Or.inl ⟨by rfl, ?hy7⟩) (hS0.out) (fun _ => trivial) ?rest7
  case hy7 =>
    intro w hSw
    obtain ⟨q1, q2, q3⟩ := hSw
    go_simp
    try with_reducible rfl
  go_simp
  refine upTo_take (i := 9) (v := ?v8) rfl (by kernel_rfl) (by kernel_rfl) (by kernel_rfl) (fun _ _ _ h => by first | exact h | exact absurd h.1 (fun e => by cases e)) (by decide) (Or.inl ⟨by rfl, ?hy8⟩) (hS0.out) (fun _ => trivial) ?rest8
  case hy8 =>
    intro w hSw
    clear hSw
    go_simp
    try with_reducible rfl
  go_simp
  refine upTo_next (i := 5) (by kernel_rfl) rfl ?_
  intro K hK
  go_simp
  refine (HC.out).mono ?_
  rintro r w1 ⟨s, rfl, hsb, hse, k1⟩
  have HM1 := Lib.hid (HMd.out.keeps k1 id)
  have HK1 := Lib.hid (HKd.out.trans k1)
  have HS := Lib.hid hse
  have hS1 : Hid (w1.cell? ⟨w.heap.size, 1, none⟩ = some (.slice Ai p.ints.length ci) ∧ w1.cell? ⟨w.heap.size, 2, none⟩ = some (.slice At p.texts.length ct) ∧ w1.cell? ⟨w.heap.size, 3, none⟩ = some (.slice Ak p.kinds.length ck)) := Lib.hid ⟨HM1.out.cellAt 1, HM1.out.cellAt 2, HM1.out.cellAt 3⟩
  clear hse k1 HC hS0 HMd HKd
  refine hK.out _ _ (hS1.out) (fun h => absurd h (by decide)) ?_
  clear hK K
  go_simp
  refine upTo_take (i := 6) (v := ?v9) rfl (by kernel_rfl) (by kernel_rfl) (by kernel_rfl) (fun _ _ _ h => by first | exact h | exact absurd h.1 (fun e => by cases e)) (by decide) (Or.inl ⟨by rfl, ?hy9⟩) (hS1.out) (fun h => absurd h (by decide)) ?rest9
  case hy9 =>
    intro w hSw
    clear hSw
    go_simp
    try with_reducible rfl
  go_simp
  refine upTo_take (i := 10) (v := ?v10) rfl (by kernel_rfl) (by kernel_rfl) (by kernel_rfl) (fun _ _ _ h => by first | exact h | exact absurd h.1 (fun e => by cases e)) (by decide) (Or.inl ⟨by rfl, ?hy10⟩) (hS1.out) (fun h => absurd h (by decide)) ?rest10
  case hy10 =>
    intro w hSw
    clear hSw
    go_simp
    try with_reducible rfl
  go_simp
  refine upTo_take (i := 11) (v := ?v11) rfl (by kernel_rfl) (by kernel_rfl) (by kernel_rfl) (fun _ _ _ h => by first | exact h | exact absurd h.1 (fun e => by cases e)) (by decide) (Or.inl ⟨by rfl, ?hy11⟩) (hS1.out) (fun h => absurd h (by decide)) ?rest11
  case hy11 =>
    intro w hSw
    clear hSw
    go_simp
    try with_reducible rfl
  go_simp
  refine upTo_done (by kernel_rfl) ?_ _
  clear hS1
  obtain ⟨n0, hn0⟩ : ∃ n0, n0 = p.ints.length + s + p.kinds.length := ⟨_, rfl⟩
  have hz0 : ((p.ints.length : Int) + s + p.kinds.length) = (n0 : Int) := by omega
  have HN0 : Hid (n0 = p.ints.length + textsW p.texts + p.kinds.length ∨ 16777216 < n0) := Lib.hid (by
    rcases HS.out with h | h
    · left; omega
    · right; omega)
  have hb0 : n0 ≤ 1125899906842624 := by omega
  clear hn0 HS
  obtain ⟨a0, a1, a2, a3⟩ := four HM1.out
  go_wp2_with fail
  try rw [hz0]
  clear a0 a1 a2 a3
  go_loopw [3, 4] (fun vn vi wr => ∃ (i n : Nat), i ≤ p.kinds.length ∧ vi = .int .i64 i ∧ vn = .int .i64 n ∧ n ≤ 1125899906842624 ∧ Hid (n = p.ints.length + textsW p.texts + p.kinds.length + ((p.kinds.take i).map kndW).sum ∨ 16777216 < n) ∧ Hid (Keeps (fun _ => False) w wr) ∧ Hid (Whole wr w.heap.size 26 #[.int .i64 p.cards, .slice Ai p.ints.length ci, .slice At p.texts.length ct, .slice Ak p.kinds.length ck])) (fun _ vi _ => p.kinds.length - (intOf vi).toNat)
  case atStart => exact ⟨0, n0, by omega, rfl, by rw [show IntKind.i64.wrap (IntKind.i64.wrap ((p.ints.length : Int) + s) + p.kinds.length) = (n0 : Int) by rw [IntWalk.i64_in ((p.ints.length : Int) + s) (by omega), IntWalk.i64_in _ (by omega)]; exact hz0], hb0, Lib.hid (by simpa using HN0.out), HK1, HM1⟩
  case round =>
    clear HN0 HK1 HM1 hz0 hb0
    obtain ⟨i, n, hi, rfl, rfl, hn, HN, HK, HM⟩ := hrel
    obtain ⟨a0, a1, a2, a3⟩ := four HM.out
    by_cases hlt : i < p.kinds.length
    · by_cases hbig : n ≤ 16777216
      · obtain ⟨g, off, Bt, ct', Be, ce', hgA, hg, c0, c1, c2, c3, c4, c5, _, he0⟩ := HX.out.kinds i p.kinds[i] (List.getElem?_eq_getElem hlt)
        have d4 := (HK.out.cell hg id).trans c4
        have d5 := (HK.out.cell hg id).trans c5
        have D5 : Hid (∀ W, Keeps (fun _ => False) w W → W.cell? ⟨g, off + i * 6 + 5, none⟩ = some (.slice Be p.kinds[i].effs.length ce')) := Lib.hid (fun W hW => (hW.cell hg id).trans c5)
        have hkb := HF.out.each _ (List.getElem_mem hlt)
        have hkt := hkb.tags
        have hke := hkb.effs
        have HEb := Lib.hid hkb.each
        have HE0 := Lib.hid he0
        have HSn := Lib.hid (sum_next p.kinds kndW i _ (List.getElem?_eq_getElem hlt))
        subst hgA
        clear c0 c1 c2 c3 c4 c5 hkb he0
        generalize p.kinds[i] = x at *
        go_wp2_with fail
        go_quiet (fail)
        have HKq := Lib.hid (HK.out.drewN nq)
        have HMq := Lib.hid (HM.out.drewN nq)
        clear a0 a1 a2 a3 d4 d5 HK HM
        generalize wr.drewN nq = wq at *
        have d5 := D5.out wq HKq.out
        obtain ⟨a0, a1, a2, a3⟩ := four HMq.out
        go_wp2_with fail
        obtain ⟨n1, hn1⟩ : ∃ n1, n1 = n + x.tags.length + x.effs.length := ⟨_, rfl⟩
        have HN1 : Hid (n1 = p.ints.length + textsW p.texts + p.kinds.length + ((p.kinds.take i).map kndW).sum + x.tags.length + x.effs.length ∨ 16777216 < n1) := Lib.hid (by
          rcases HN.out with h | h
          · left; omega
          · omega)
        have hb1 : n1 ≤ 1125899906842624 := by omega
        have hz1 : ((n : Int) + x.tags.length + x.effs.length) = (n1 : Int) := by omega
        clear a0 a1 a2 a3 d5 HN hn1
        go_loopw [3, 5] (fun vn vk wr => ∃ (k n2 : Nat), k ≤ x.effs.length ∧ vk = .int .i64 k ∧ vn = .int .i64 n2 ∧ n2 ≤ 1125899906842624 ∧ Hid (n2 = p.ints.length + textsW p.texts + p.kinds.length + ((p.kinds.take i).map kndW).sum + x.tags.length + x.effs.length + ((x.effs.take k).map effW).sum ∨ 16777216 < n2) ∧ Hid (Keeps (fun _ => False) w wr) ∧ Hid (Whole wr w.heap.size 26 #[.int .i64 p.cards, .slice Ai p.ints.length ci, .slice At p.texts.length ct, .slice (some ⟨g, off, none⟩) p.kinds.length ck])) (fun _ vk _ => x.effs.length - (intOf vk).toNat)
        case atStart => exact ⟨0, n1, by omega, rfl, by first | rfl | (rw [hz1]), hb1, Lib.hid (by simpa using HN1.out), HKq, HMq⟩
        case round =>
          clear HN1 HKq HMq hz1 hb1
          obtain ⟨k, n2, hk, rfl, rfl, hn2, HN2, HK, HM⟩ := hrel
          obtain ⟨a0, a1, a2, a3⟩ := four HM.out
          have d5 := D5.out _ HK.out
          by_cases hltk : k < x.effs.length
          · by_cases hbig2 : n2 ≤ 16777216
            · obtain ⟨g2, off2, As, cs, Ac, cc, hgA2, hg2, c0, c1, c2, c3, _, _⟩ := HE0.out k x.effs[k] (List.getElem?_eq_getElem hltk)
              have b1 := (HK.out.cell hg2 id).trans c1
              have b2 := (HK.out.cell hg2 id).trans c2
              have heb := HEb.out _ (List.getElem_mem hltk)
              have hes := heb.slots
              have hec := heb.code
              have HSe := Lib.hid (sum_next x.effs effW k _ (List.getElem?_eq_getElem hltk))
              subst hgA2
              clear c0 c1 c2 c3 heb
              generalize x.effs[k] = e at *
              have HN3 : Hid (n2 + e.slots.length + e.code.length = p.ints.length + textsW p.texts + p.kinds.length + ((p.kinds.take i).map kndW).sum + x.tags.length + x.effs.length + ((x.effs.take (k + 1)).map effW).sum ∨ 16777216 < n2 + e.slots.length + e.code.length) := Lib.hid (by
                rcases HN2.out with h | h
                · left
                  rw [HSe.out]
                  unfold effW at *
                  omega
                · omega)
              clear HN2 HSe
              go_wp2_with fail
              go_quiet (fail)
              go_wp2_with fail
              go_roundw
              case rel => exact ⟨k + 1, n2 + e.slots.length + e.code.length, by omega, by go_num, by go_num, by omega, HN3, Lib.hid (HK.out.drewN _), Lib.hid (HM.out.drewN _)⟩
              case measure => simp [intOf]; omega
            · have hb2 : ¬ ((n2 : Int) ≤ 16777216) := by omega
              have HN3 : Hid (n2 = p.ints.length + textsW p.texts + p.kinds.length + ((p.kinds.take (i + 1)).map kndW).sum ∨ 16777216 < n2) := Lib.hid (Or.inr (by omega))
              clear HN2
              go_wp2_with fail
              go_roundw
              case rel => exact ⟨i + 1, n2, by omega, by go_num, by go_num, by omega, HN3, HK, HM⟩
              case measure => simp [intOf]; omega
          · obtain rfl : k = x.effs.length := by omega
            have HN3 : Hid (n2 = p.ints.length + textsW p.texts + p.kinds.length + ((p.kinds.take (i + 1)).map kndW).sum ∨ 16777216 < n2) := Lib.hid (by
              have h := HN2.out
              rw [List.take_length] at h
              rcases h with h | h
              · left
                rw [HSn.out]
                unfold kndW
                unfold kndW at h
                omega
              · exact Or.inr h)
            clear HN2
            go_wp2_with fail
            go_roundw
            case rel => exact ⟨i + 1, n2, by omega, by go_num, by go_num, by omega, HN3, HK, HM⟩
            case measure => simp [intOf]; omega
      · have hb2 : ¬ ((n : Int) ≤ 16777216) := by omega
        go_wp2_with fail
        go_ret
        exact ⟨n, rfl, fun h => by omega, HK.out⟩
    · obtain rfl : i = p.kinds.length := by omega
      have HE : Hid (n ≤ 16777216 → packW p ≤ 16777216) := Lib.hid (by
        have h := HN.out
        rw [List.take_length] at h
        unfold packW
        intro hb
        omega)
      clear HN
      go_wp2_with fail
      go_ret
      exact ⟨n, rfl, HE.out, HK.out⟩
end Go.Proofs.YtcmbdnjcfneinaaGreatDoor
