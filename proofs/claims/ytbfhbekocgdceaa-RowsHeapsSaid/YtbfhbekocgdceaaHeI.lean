/-
  rows.Heap of int: Take: the walk. Conditions: lengths within 10 ^ 8.
-/
import Derived.Test.YtbfhbekocgdceaaHdI
import Derived.Test.YtbfhbekocgdceaaHcI
import Derived.OwnWalk
namespace Go.Proofs.Ytbfhbekocgdceaa
open Go.RowKit
set_option maxRecDepth 100000 in
set_option maxHeartbeats 1000000 in
theorem htakeNoI_any (p c : Nat) (came : Int) (A : Option Addr) (w : World) (h : HeapI w p A c [] came) :
    Calls Try.prog 64 #[.pointer (some ⟨p, 0, none⟩)] w fun e w' => e = .returned (.tuple #[.int .i64 0, .bool false]) ∧ Keeps (fun _ => False) w w' := by
  obtain ⟨a0, a1, a2, f0, f1, f2⟩ := three h.box
  clear h
  rw [List.length_nil] at a1
  go_enter Try.func64, Try.ntmps64
  go_wp2_with (first | (go_at_call 80; refine (hnoneI_any p _ a0).mono ?_; rintro e w' ⟨rfl, rfl⟩))
  go_ret2
  exact ⟨rfl, Keeps.refl _ _⟩
set_option maxRecDepth 100000 in
set_option maxHeartbeats 8000000 in
theorem htakeI_any (p c : Nat) (came : Int) (A : Option Addr) (l : List EnI) (eo : EnI) (w : World) (h : HeapI w p A c l came) (he : l[0]? = some eo) (hlb : l.length ≤ 100000000) :
    Calls Try.prog 64 #[.pointer (some ⟨p, 0, none⟩)] w fun e w' => e = .returned (.tuple #[.int .i64 eo.x, .bool true]) ∧ HeapI w' p A c (takeI l) came ∧ Keeps (fun b => b = p ∨ (Value.slice A l.length c).ownBlock = some b) w w' := by
  have hl0 : 0 < l.length := (List.getElem?_eq_some_iff.1 he).1
  obtain ⟨m, hm⟩ : ∃ m, l.length = m + 1 := ⟨l.length - 1, by omega⟩
  obtain ⟨ez, hez⟩ : ∃ e, l[m]? = some e := ⟨_, List.getElem?_eq_getElem (by omega)⟩
  have HTK : Hid (takeI l = downI ((l.set 0 ez).take m) 0) := Lib.hid (by
    unfold takeI
    rw [hm, Nat.add_sub_cancel, hez])
  have H0 := Lib.hid h
  obtain ⟨g, hA, hpg, hgw, HO⟩ := h.at_ he
  obtain ⟨g', hA', _, _, HZ⟩ := h.at_ hez
  obtain rfl : g = g' := by rw [hA] at hA'; injection hA' with h1; injection h1
  subst hA
  clear hA'
  obtain ⟨a0, a1, a2, f0, f1, f2⟩ := three h.box
  have HW3 : Hid (∀ i, w.frozen? ⟨g, i, none⟩ = false) := by
    rcases h.own.2 with ⟨h, _⟩ | ⟨g', cap, cur, hv, _, hh, hc, _, hs, _⟩
    · cases h
    · injection hv with h1 h2 h3
      injection h1 with h1
      injection h1 with h1
      subst h1 h3
      exact Lib.hid (fun i => Whole.free (w := w) (g := g) (t := 136) (cs := cur) hh i)
  have hcap : (m : Int) ≤ (c : Int) := by have := h.cap; omega
  have hcap2 : m ≤ c := by omega
  have hmb : (m : Int) + 1 ≤ 100000000 := by omega
  have HM := Lib.hid hm
  have hm0 : (0 : Int) < (l.length : Int) := by omega
  have hmI : (m : Int) < (l.length : Int) := by omega
  have hmS : (l.length : Int) - 1 = (m : Int) := by omega
  have hcO : w.cell? ⟨g, 0, none⟩ = some (.int .i64 eo.x) ∧ w.cell? ⟨g, 1, none⟩ = some (.int .i64 eo.came) := by simpa using HO w (Keeps.refl _ _)
  have hcZ : w.cell? ⟨g, m * 2, none⟩ = some (.int .i64 ez.x) ∧ w.cell? ⟨g, m * 2 + 1, none⟩ = some (.int .i64 ez.came) := by simpa using HZ w (Keeps.refl _ _)
  have HCZ := Lib.hid hcZ
  have HCO := Lib.hid hcO
  have HFO : Hid (w.frozen? ⟨g, 0, none⟩ = false ∧ w.frozen? ⟨g, 1, none⟩ = false) := Lib.hid ⟨HW3.out _, HW3.out _⟩
  obtain ⟨o0, o1⟩ := hcO
  have HS0 := Lib.hid (h.set0 (ez := ez) hl0)
  have hpg2 : p ≠ g := by omega
  have hgp2 : g ≠ p := by omega
  have hle : ((l.length : Int) == 0) = false := by rw [beq_eq_false_iff_ne]; omega
  clear h he hez hm HO HZ hcZ HW3
  go_enter Try.func64, Try.ntmps64
  go_wp2_with (first | (go_at_call 80; refine (hnoneI_any p _ a0).mono ?_; rintro e w' ⟨rfl, rfl⟩))
  obtain ⟨w0, rfl⟩ : ∃ x, x = w' := ⟨_, rfl⟩
  refine region_cut (fun a a' w' => (∃ u33 u34 u35 u36 u37 u38 u39 u40 u41 u42 u43 u44 : Value, a' = ((((((((((((a.put (some 33) u33).put (some 34) u34).put (some 35) u35).put (some 36) u36).put (some 37) u37).put (some 38) u38).put (some 39) u39).put (some 40) u40).put (some 41) u41).put (some 42) u42).put (some 43) u43).put (some 44) u44)) ∧ HeapI w' p (some ⟨g, 0, none⟩) c (l.set 0 ez) came ∧ Keeps (fun b => b = g) w0 w') ?_ ?_
  · skip
    have hz0 : (0 : Int) ≤ (m : Int) := by omega
    refine wp_region_held_drew (S := fun W => W.cell? ⟨p, 1, none⟩ = some (.slice (some ⟨g, 0, none⟩) l.length c)) (by kernel_rfl) (a1) ?_
    intro hSn
    refine wpAnyH_take (i := 0) (v := ?v1) rfl (by kernel_rfl) (by kernel_rfl) (by kernel_rfl) (fun _ _ _ h => by first | exact h | exact absurd h.1 (fun e => by cases e)) (Or.inl ⟨by rfl, ?hy1⟩) (by assumption) ?rest1
    case hy1 =>
      intro w hSw
      have qh := hSw
      go_simp
      try with_reducible rfl
    go_simp
    refine wpAnyH_take (i := 1) (v := ?v2) rfl (by kernel_rfl) (by kernel_rfl) (by kernel_rfl) (fun _ _ _ h => by first | exact h | exact absurd h.1 (fun e => by cases e)) (Or.inl ⟨by rfl, ?hy2⟩) (by assumption) ?rest2
    case hy2 =>
      intro w hSw
      have qh := hSw
      go_simp
      try with_reducible rfl
    go_simp
    refine wpAnyH_take (i := 2) (v := ?v3) rfl (by kernel_rfl) (by kernel_rfl) (by kernel_rfl) (fun _ _ _ h => by first | exact h | exact absurd h.1 (fun e => by cases e)) (Or.inl ⟨by rfl, ?hy3⟩) (by assumption) ?rest3
    case hy3 =>
      intro w hSw
      have qh := hSw
      go_simp
      try with_reducible rfl
    go_simp
    refine wpAnyH_take (i := 3) (v := ?v4) rfl (by kernel_rfl) (by kernel_rfl) (by kernel_rfl) (fun _ _ _ h => by first | exact h | exact absurd h.1 (fun e => by cases e)) (Or.inl ⟨by rfl, ?hy4⟩) (by assumption) ?rest4
    case hy4 =>
      intro w hSw
      have qh := hSw
      go_simp
      try with_reducible rfl
    go_simp
    refine wpAnyH_take (i := 4) (v := ?v5) rfl (by kernel_rfl) (by kernel_rfl) (by kernel_rfl) (fun _ _ _ h => by first | exact h | exact absurd h.1 (fun e => by cases e)) (Or.inl ⟨by rfl, ?hy5⟩) (by assumption) ?rest5
    case hy5 =>
      intro w hSw
      have qh := hSw
      go_simp
      try with_reducible rfl
    go_simp
    refine wpAnyH_take (i := 5) (v := ?v6) rfl (by kernel_rfl) (by kernel_rfl) (by kernel_rfl) (fun _ _ _ h => by first | exact h | exact absurd h.1 (fun e => by cases e)) (Or.inl ⟨by rfl, ?hy6⟩) (by assumption) ?rest6
    case hy6 =>
      intro w hSw
      have qh := hSw
      go_simp
      try with_reducible rfl
    go_simp
    refine wpAnyH_take (i := 6) (v := ?v7) rfl (by kernel_rfl) (by kernel_rfl) (by kernel_rfl) (fun _ _ _ h => by first | exact h | exact absurd h.1 (fun e => by cases e)) (Or.inl ⟨by rfl, ?hy7⟩) (by assumption) ?rest7
    case hy7 =>
      intro w hSw
      have qh := hSw
      go_simp
      try with_reducible rfl
    go_simp
    refine wpAnyH_take (i := 7) (v := ?v8) rfl (by kernel_rfl) (by kernel_rfl) (by kernel_rfl) (fun _ _ _ h => by first | exact h | exact absurd h.1 (fun e => by cases e)) (Or.inl ⟨by rfl, ?hy8⟩) (by assumption) ?rest8
    case hy8 =>
      intro w hSw
      have qh := hSw
      go_simp
      try with_reducible rfl
    go_simp
    refine wpAnyH_take (i := 8) (v := ?v9) rfl (by kernel_rfl) (by kernel_rfl) (by kernel_rfl) (fun _ _ _ h => by first | exact h | exact absurd h.1 (fun e => by cases e)) (Or.inl ⟨by rfl, ?hy9⟩) (by assumption) ?rest9
    case hy9 =>
      intro w hSw
      have qh := hSw
      go_simp
      try with_reducible rfl
    go_simp
    refine wpAnyH_take (i := 9) (v := ?v10) rfl (by kernel_rfl) (by kernel_rfl) (by kernel_rfl) (fun _ _ _ h => by first | exact h | exact absurd h.1 (fun e => by cases e)) (Or.inl ⟨by rfl, ?hy10⟩) (by assumption) ?rest10
    case hy10 =>
      intro w hSw
      have qh := hSw
      go_simp
      try with_reducible rfl
    go_simp
    refine wpAnyH_ready (rs := [10]) (by kernel_rfl) (by simp) ?_
    refine AllReadyH.cons rfl (fun K hK => ?_) AllReadyH.nil
    obtain ⟨cz0, cz1⟩ := HCZ.out
    go_simp
    refine hK.out _ _ (hSn) (fun hSn => ?_)
    clear hK K
    go_simp
    refine wpAnyH_take (i := 11) (v := ?v11) rfl (by kernel_rfl) (by kernel_rfl) (by kernel_rfl) (fun _ _ _ h => by first | exact h | exact absurd h.1 (fun e => by cases e)) (Or.inl ⟨by rfl, ?hy11⟩) (by assumption) ?rest11
    case hy11 =>
      intro w hSw
      have qh := hSw
      go_simp
      try with_reducible rfl
    go_simp
    refine wpAnyH_ready (rs := [12]) (by kernel_rfl) (by simp) ?_
    refine AllReadyH.cons rfl (fun K hK => ?_) AllReadyH.nil
    obtain ⟨co0, co1⟩ := HCO.out
    obtain ⟨fo0, fo1⟩ := HFO.out
    go_simp
    refine hK.out _ _ ((HS0.out.1.box.cellAt 1).trans (by simp)) (fun hSn => ?_)
    clear hK K
    go_simp
    refine wpAnyH_done (by kernel_rfl) ?_ _
    exact ⟨rfl, ⟨_, _, _, _, _, _, _, _, _, _, _, _, rfl⟩, HS0.out⟩
  · rintro a' w1 ⟨⟨u33, u34, u35, u36, u37, u38, u39, u40, u41, u42, u43, u44, rfl⟩, hS, kS⟩
    have HS := Lib.hid (hS.cut (m := m) (by rw [List.length_set, HM.out]; omega))
    have K1 : Hid (Keeps (fun b => b = p ∨ (Value.slice (some ⟨g, 0, none⟩) l.length c).ownBlock = some b) w0 (w1.setCell ⟨p, 1, none⟩ (.slice (some ⟨g, 0, none⟩) m c))) := Lib.hid ((kS.mono (T := fun b => b = p ∨ (Value.slice (some ⟨g, 0, none⟩) l.length c).ownBlock = some b) (fun b _ hb => .inr (by obtain rfl : b = g := hb; rfl))).setCell (p := ⟨p, 1, none⟩) (fun _ => .inl rfl) _)
    clear a0 a1 a2 f0 f1 f2 HS0 HCZ HCO HFO o0 o1
    obtain ⟨a0, a1, a2, f0, f1, f2⟩ := three hS.box
    rw [List.length_set] at a1
    clear hS kS
    go_wp2_with fail
    clear a0 a1 a2 f0 f1 f2 hle
    generalize w1.setCell ⟨p, 1, none⟩ (.slice (some ⟨g, 0, none⟩) m c) = w2 at *
    have hlm : ((l.set 0 ez).take m).length = m := by rw [List.length_take, List.length_set, HM.out]; omega
    go_loopw [7] (fun vi wq => ∃ (i : Nat) (l2 : List EnI), i ≤ m ∧ vi = .int .i64 i ∧ l2.length = m ∧ Hid (downI l2 i = downI ((l.set 0 ez).take (m)) 0) ∧ Hid (HeapI wq p (some ⟨g, 0, none⟩) c l2 came) ∧ Hid (Keeps (fun b => b = p ∨ (Value.slice (some ⟨g, 0, none⟩) l.length c).ownBlock = some b) w0 wq)) (fun vi _ => m - (intOf vi).toNat)
    case atStart => exact ⟨0, _, by omega, by first | rfl | go_num, hlm, Lib.hid rfl, HS, K1⟩
    case round =>
      clear HS K1 hlm
      obtain ⟨i, l2, hi, rfl, hl2, HD, HH, HK⟩ := hrel
      have HL2 := Lib.hid hl2
      have hib : (i : Int) ≤ 100000000 := by omega
      clear hmS hm0 hmI
      by_cases hend : m ≤ 2 * i + 1
      · have hendI : (m : Int) ≤ 2 * (i : Int) + 1 := by omega
        have HQ3 : Hid (downI l2 i = l2) := Lib.hid (by unfold downI; rw [dif_pos (by rw [hl2]; exact hend)])
        clear hl2 hend hl0 hlb hcap2
        go_wp2_with fail
        go_ret2
        exact ⟨rfl, by rw [HTK.out, ← HD.out, HQ3.out]; exact HH.out, HK.out⟩
      · have hend2 : ¬ l2.length ≤ 2 * i + 1 := by omega
        obtain ⟨k, hk⟩ : ∃ k, k = 2 * i + 1 := ⟨_, rfl⟩
        have hkq : (2 : Int) * (i : Int) + 1 = (k : Int) := by omega
        have hkm : k < m := by omega
        have hik : i < k := by omega
        have hii : i < l2.length := by omega
        have hkb : (k : Int) + 1 ≤ 200000001 := by omega
        obtain ⟨ei, hei⟩ : ∃ e, l2[i]? = some e := ⟨_, List.getElem?_eq_getElem hii⟩
        obtain ⟨ek, hek⟩ : ∃ e, l2[k]? = some e := ⟨_, List.getElem?_eq_getElem (by omega)⟩
        have HEI := Lib.hid hei
        have HEk := Lib.hid hek
        by_cases hr : k + 1 < m
        · obtain ⟨er, her⟩ : ∃ e, l2[k + 1]? = some e := ⟨_, List.getElem?_eq_getElem (by omega)⟩
          have HEr := Lib.hid her
          have HDN0 : Hid (downI l2 i = if ahI er ek then (if ahI er ei then downI (swapLI l2 i (k + 1) ei er) (k + 1) else l2) else (if ahI ek ei then downI (swapLI l2 i k ei ek) k else l2)) := Lib.hid (by
            conv => lhs; unfold downI
            rw [dif_neg hend2, hei, ← hk, hek, show 2 * i + 2 = k + 1 by omega, if_pos (by omega), her])
          have HA2 := Lib.hid (aheadI_any p c (k + 1) k came (some ⟨g, 0, none⟩) l2 er ek _ HH.out her hek)
          obtain ⟨r, hrk⟩ : ∃ r, r = k + 1 := ⟨_, rfl⟩
          rw [← hrk] at HA2 HDN0 HEr
          have hrq : (k : Int) + 1 = (r : Int) := by omega
          have hrm : r < m := by omega
          have hir : i < r := by omega
          have hrI : (r : Int) < (m : Int) := by omega
          have hrb : (r : Int) ≤ 200000001 := by omega
          clear hei hek her hk hend2 hr hrk hl2 hl0 hlb hcap2 hii hend hrI hkb hrb hcap hmb
          cases ha : ahI er ek
          · have HF2 := HA2.out
            rw [ha] at HF2
            have HDN : Hid (downI l2 i = if ahI ek ei then downI (swapLI l2 i k ei ek) k else l2) := Lib.hid (by rw [HDN0.out, ha]; rfl)
            have HF2' := Lib.hid HF2
            clear HA2 HDN0 ha HEr HF2
            go_wp2_with fail
            refine HF2'.out.mono ?_
            rintro e wa ⟨rfl, k2⟩
            replace HH := Lib.hid (HH.out.calm k2 id (fun _ _ => id))
            replace HK := Lib.hid (HK.out.and k2 (fun _ _ h => h.elim))
            clear k2 HF2'
            have HA3 := Lib.hid (aheadI_any p c k i came (some ⟨g, 0, none⟩) l2 ek ei _ HH.out HEk.out HEI.out)
            cases ha3 : ahI ek ei
            · have HF3 := HA3.out
              rw [ha3] at HF3
              have HQ3 : Hid (downI l2 i = l2) := Lib.hid (by rw [HDN.out, ha3]; rfl)
              have HF3' := Lib.hid HF3
              clear HA3 HDN ha3 HF3
              go_wp2_with fail
              refine HF3'.out.mono ?_
              rintro e w3 ⟨rfl, k3⟩
              have HK3 := Lib.hid k3
              clear k3 HF3'
              go_wp2_with fail
              go_ret2
              exact ⟨rfl, by rw [HTK.out, ← HD.out, HQ3.out]; exact (HH.out.calm HK3.out id (fun _ _ => id)), (HK.out.and HK3.out (fun _ _ h => h.elim))⟩
            · have HF3 := HA3.out
              rw [ha3] at HF3
              have HQ3 : Hid (downI l2 i = downI (swapLI l2 i k ei ek) k) := Lib.hid (by rw [HDN.out, ha3]; rfl)
              have HF3' := Lib.hid HF3
              clear HA3 HDN ha3 HF3
              go_wp2_with fail
              refine HF3'.out.mono ?_
              rintro e w3 ⟨rfl, k3⟩
              have HK3' := Lib.hid k3
              clear k3 HF3'
              go_wp2_with fail
              have HH3 := Lib.hid (HH.out.calm HK3'.out id (fun _ _ => id))
              have HK3 := Lib.hid (HK.out.and HK3'.out (fun _ _ h => h.elim))
              clear HK3' HH HK
              obtain ⟨g1, hA3, _, _, HI⟩ := HH3.out.at_ HEI.out
              obtain ⟨rfl⟩ : g = g1 := by injection hA3 with h1; injection h1
              obtain ⟨g2, hA4, _, _, HKc⟩ := HH3.out.at_ HEk.out
              obtain ⟨rfl⟩ : g = g2 := by injection hA4 with h1; injection h1
              clear hA3 hA4
              have hki : k < l2.length := by have := HL2.out; omega
              have hii : i < l2.length := by have := HL2.out; omega
              have HSW := Lib.hid (HH3.out.swap (ei := ei) (ek := ek) hii hki)
              obtain ⟨a0, a1, a2, f0, f1, f2⟩ := three HH3.out.box
              have hiI : (i : Int) < (l2.length : Int) := by have := HL2.out; omega
              have hkI : (k : Int) < (l2.length : Int) := by have := HL2.out; omega
              have hne : i ≠ k := by omega
              have hne2 : k ≠ i := by omega
              have hk0 : (0 : Int) ≤ (k : Int) := by omega
              have hi0 : (0 : Int) ≤ (i : Int) := by omega
              have hW3 : ∃ cs, Whole w3 g 136 cs ∧ l2.length * 2 ≤ cs.size := by
                rcases HH3.out.own.2 with ⟨h, _⟩ | ⟨g', cap, cur, hv, _, hh, hc, _, hs, _⟩
                · cases h
                · injection hv with h1 h2 h3
                  injection h1 with h1
                  injection h1 with h1
                  subst h1 h3
                  exact ⟨cur, hh, by rw [hs]; exact Nat.mul_le_mul_right _ hc⟩
              obtain ⟨csw, hW3, hcsw⟩ := hW3
              have HCI : Hid (w3.cell? ⟨g, i * 2, none⟩ = some (.int .i64 ei.x) ∧ w3.cell? ⟨g, i * 2 + 1, none⟩ = some (.int .i64 ei.came)) := Lib.hid (HI w3 (Keeps.refl _ _))
              have HCK : Hid (w3.cell? ⟨g, k * 2, none⟩ = some (.int .i64 ek.x) ∧ w3.cell? ⟨g, k * 2 + 1, none⟩ = some (.int .i64 ek.came)) := Lib.hid (HKc w3 (Keeps.refl _ _))
              have HFI : Hid (w3.frozen? ⟨g, i * 2, none⟩ = false ∧ w3.frozen? ⟨g, i * 2 + 1, none⟩ = false) := Lib.hid ⟨hW3.free _, hW3.free _⟩
              have HB1 : Hid (Whole ((w3.setCell ⟨g, i * 2, none⟩ (.int .i64 ek.x)).setCell ⟨g, i * 2 + 1, none⟩ (.int .i64 ek.came)) p 134 #[.func (.func 62) #[] #[], .slice (some ⟨g, 0, none⟩) l2.length c, .int .i64 came]) := Lib.hid (((HH3.out.box).putFar (p := ⟨g, i * 2, none⟩) hpg2 _).putFar (p := ⟨g, i * 2 + 1, none⟩) hpg2 _)
              have hW4 : ∃ cs, Whole ((w3.setCell ⟨g, i * 2, none⟩ (.int .i64 ek.x)).setCell ⟨g, i * 2 + 1, none⟩ (.int .i64 ek.came)) g 136 cs ∧ l2.length * 2 ≤ cs.size := ⟨_, ((hW3).put (i * 2) _).put (i * 2 + 1) _, by simpa using hcsw⟩
              obtain ⟨csx, hW4, hcsx⟩ := hW4
              have HFX : Hid ((∃ u, ((w3.setCell ⟨g, i * 2, none⟩ (.int .i64 ek.x)).setCell ⟨g, i * 2 + 1, none⟩ (.int .i64 ek.came)).cell? ⟨g, k * 2, none⟩ = some u) ∧ (∃ u, ((w3.setCell ⟨g, i * 2, none⟩ (.int .i64 ek.x)).setCell ⟨g, i * 2 + 1, none⟩ (.int .i64 ek.came)).cell? ⟨g, k * 2 + 1, none⟩ = some u) ∧ ((w3.setCell ⟨g, i * 2, none⟩ (.int .i64 ek.x)).setCell ⟨g, i * 2 + 1, none⟩ (.int .i64 ek.came)).frozen? ⟨g, k * 2, none⟩ = false ∧ ((w3.setCell ⟨g, i * 2, none⟩ (.int .i64 ek.x)).setCell ⟨g, i * 2 + 1, none⟩ (.int .i64 ek.came)).frozen? ⟨g, k * 2 + 1, none⟩ = false) := Lib.hid ⟨⟨_, (hW4.cellAt _).trans (Array.getElem?_eq_getElem (by omega))⟩, ⟨_, (hW4.cellAt _).trans (Array.getElem?_eq_getElem (by omega))⟩, hW4.free _, hW4.free _⟩
              clear HI HKc hW3 hW4 hcsw hcsx
              refine region_cut (fun a a' w' => (∃ u80 u81 u82 u83 u84 u85 u86 u87 u88 u89 u90 u91 u92 u93 u94 u95 u96 u97 u98 u99 u100 u101 u102 u103 u104 u105 : Value, a' = ((((((((((((((((((((((((((a.put (some 80) u80).put (some 81) u81).put (some 82) u82).put (some 83) u83).put (some 84) u84).put (some 85) u85).put (some 86) u86).put (some 87) u87).put (some 88) u88).put (some 89) u89).put (some 90) u90).put (some 91) u91).put (some 92) u92).put (some 93) u93).put (some 94) u94).put (some 95) u95).put (some 96) u96).put (some 97) u97).put (some 98) u98).put (some 99) u99).put (some 100) u100).put (some 101) u101).put (some 102) u102).put (some 103) u103).put (some 104) u104).put (some 105) u105)) ∧ HeapI w' p (some ⟨g, 0, none⟩) c (swapLI l2 i k ei ek) came ∧ Keeps (fun b => b = g) w3 w') ?_ ?_
              · skip
                refine wp_region_held_drew (S := fun W => W.cell? ⟨p, 1, none⟩ = some (.slice (some ⟨g, 0, none⟩) l2.length c)) (by kernel_rfl) (a1) ?_
                intro hSn
                refine wpAnyH_take (i := 0) (v := ?v12) rfl (by kernel_rfl) (by kernel_rfl) (by kernel_rfl) (fun _ _ _ h => by first | exact h | exact absurd h.1 (fun e => by cases e)) (Or.inl ⟨by rfl, ?hy12⟩) (by assumption) ?rest12
                case hy12 =>
                  intro w hSw
                  have qh := hSw
                  go_simp
                  try with_reducible rfl
                go_simp
                refine wpAnyH_take (i := 1) (v := ?v13) rfl (by kernel_rfl) (by kernel_rfl) (by kernel_rfl) (fun _ _ _ h => by first | exact h | exact absurd h.1 (fun e => by cases e)) (Or.inl ⟨by rfl, ?hy13⟩) (by assumption) ?rest13
                case hy13 =>
                  intro w hSw
                  have qh := hSw
                  go_simp
                  try with_reducible rfl
                go_simp
                refine wpAnyH_take (i := 2) (v := ?v14) rfl (by kernel_rfl) (by kernel_rfl) (by kernel_rfl) (fun _ _ _ h => by first | exact h | exact absurd h.1 (fun e => by cases e)) (Or.inl ⟨by rfl, ?hy14⟩) (by assumption) ?rest14
                case hy14 =>
                  intro w hSw
                  have qh := hSw
                  go_simp
                  try with_reducible rfl
                go_simp
                refine wpAnyH_take (i := 3) (v := ?v15) rfl (by kernel_rfl) (by kernel_rfl) (by kernel_rfl) (fun _ _ _ h => by first | exact h | exact absurd h.1 (fun e => by cases e)) (Or.inl ⟨by rfl, ?hy15⟩) (by assumption) ?rest15
                case hy15 =>
                  intro w hSw
                  have qh := hSw
                  go_simp
                  try with_reducible rfl
                go_simp
                refine wpAnyH_take (i := 4) (v := ?v16) rfl (by kernel_rfl) (by kernel_rfl) (by kernel_rfl) (fun _ _ _ h => by first | exact h | exact absurd h.1 (fun e => by cases e)) (Or.inl ⟨by rfl, ?hy16⟩) (by assumption) ?rest16
                case hy16 =>
                  intro w hSw
                  have qh := hSw
                  go_simp
                  try with_reducible rfl
                go_simp
                refine wpAnyH_take (i := 5) (v := ?v17) rfl (by kernel_rfl) (by kernel_rfl) (by kernel_rfl) (fun _ _ _ h => by first | exact h | exact absurd h.1 (fun e => by cases e)) (Or.inl ⟨by rfl, ?hy17⟩) (by assumption) ?rest17
                case hy17 =>
                  intro w hSw
                  have qh := hSw
                  go_simp
                  try with_reducible rfl
                go_simp
                refine wpAnyH_take (i := 6) (v := ?v18) rfl (by kernel_rfl) (by kernel_rfl) (by kernel_rfl) (fun _ _ _ h => by first | exact h | exact absurd h.1 (fun e => by cases e)) (Or.inl ⟨by rfl, ?hy18⟩) (by assumption) ?rest18
                case hy18 =>
                  intro w hSw
                  have qh := hSw
                  go_simp
                  try with_reducible rfl
                go_simp
                refine wpAnyH_take (i := 7) (v := ?v19) rfl (by kernel_rfl) (by kernel_rfl) (by kernel_rfl) (fun _ _ _ h => by first | exact h | exact absurd h.1 (fun e => by cases e)) (Or.inl ⟨by rfl, ?hy19⟩) (by assumption) ?rest19
                case hy19 =>
                  intro w hSw
                  have qh := hSw
                  go_simp
                  try with_reducible rfl
                go_simp
                refine wpAnyH_take (i := 8) (v := ?v20) rfl (by kernel_rfl) (by kernel_rfl) (by kernel_rfl) (fun _ _ _ h => by first | exact h | exact absurd h.1 (fun e => by cases e)) (Or.inl ⟨by rfl, ?hy20⟩) (by assumption) ?rest20
                case hy20 =>
                  intro w hSw
                  have qh := hSw
                  go_simp
                  try with_reducible rfl
                go_simp
                refine wpAnyH_take (i := 9) (v := ?v21) rfl (by kernel_rfl) (by kernel_rfl) (by kernel_rfl) (fun _ _ _ h => by first | exact h | exact absurd h.1 (fun e => by cases e)) (Or.inl ⟨by rfl, ?hy21⟩) (by assumption) ?rest21
                case hy21 =>
                  intro w hSw
                  have qh := hSw
                  go_simp
                  try with_reducible rfl
                go_simp
                refine wpAnyH_take (i := 10) (v := ?v22) rfl (by kernel_rfl) (by kernel_rfl) (by kernel_rfl) (fun _ _ _ h => by first | exact h | exact absurd h.1 (fun e => by cases e)) (Or.inl ⟨by rfl, ?hy22⟩) (by assumption) ?rest22
                case hy22 =>
                  intro w hSw
                  have qh := hSw
                  go_simp
                  try with_reducible rfl
                go_simp
                refine wpAnyH_take (i := 11) (v := ?v23) rfl (by kernel_rfl) (by kernel_rfl) (by kernel_rfl) (fun _ _ _ h => by first | exact h | exact absurd h.1 (fun e => by cases e)) (Or.inl ⟨by rfl, ?hy23⟩) (by assumption) ?rest23
                case hy23 =>
                  intro w hSw
                  have qh := hSw
                  go_simp
                  try with_reducible rfl
                go_simp
                refine wpAnyH_take (i := 12) (v := ?v24) rfl (by kernel_rfl) (by kernel_rfl) (by kernel_rfl) (fun _ _ _ h => by first | exact h | exact absurd h.1 (fun e => by cases e)) (Or.inl ⟨by rfl, ?hy24⟩) (by assumption) ?rest24
                case hy24 =>
                  intro w hSw
                  have qh := hSw
                  go_simp
                  try with_reducible rfl
                go_simp
                refine wpAnyH_take (i := 13) (v := ?v25) rfl (by kernel_rfl) (by kernel_rfl) (by kernel_rfl) (fun _ _ _ h => by first | exact h | exact absurd h.1 (fun e => by cases e)) (Or.inl ⟨by rfl, ?hy25⟩) (by assumption) ?rest25
                case hy25 =>
                  intro w hSw
                  have qh := hSw
                  go_simp
                  try with_reducible rfl
                go_simp
                refine wpAnyH_take (i := 14) (v := ?v26) rfl (by kernel_rfl) (by kernel_rfl) (by kernel_rfl) (fun _ _ _ h => by first | exact h | exact absurd h.1 (fun e => by cases e)) (Or.inl ⟨by rfl, ?hy26⟩) (by assumption) ?rest26
                case hy26 =>
                  intro w hSw
                  have qh := hSw
                  go_simp
                  try with_reducible rfl
                go_simp
                refine wpAnyH_take (i := 15) (v := ?v27) rfl (by kernel_rfl) (by kernel_rfl) (by kernel_rfl) (fun _ _ _ h => by first | exact h | exact absurd h.1 (fun e => by cases e)) (Or.inl ⟨by rfl, ?hy27⟩) (by assumption) ?rest27
                case hy27 =>
                  intro w hSw
                  have qh := hSw
                  go_simp
                  try with_reducible rfl
                go_simp
                refine wpAnyH_take (i := 17) (v := ?v28) rfl (by kernel_rfl) (by kernel_rfl) (by kernel_rfl) (fun _ _ _ h => by first | exact h | exact absurd h.1 (fun e => by cases e)) (Or.inl ⟨by rfl, ?hy28⟩) (by assumption) ?rest28
                case hy28 =>
                  intro w hSw
                  have qh := hSw
                  go_simp
                  try with_reducible rfl
                go_simp
                refine wpAnyH_take (i := 18) (v := ?v29) rfl (by kernel_rfl) (by kernel_rfl) (by kernel_rfl) (fun _ _ _ h => by first | exact h | exact absurd h.1 (fun e => by cases e)) (Or.inl ⟨by rfl, ?hy29⟩) (by assumption) ?rest29
                case hy29 =>
                  intro w hSw
                  have qh := hSw
                  go_simp
                  try with_reducible rfl
                go_simp
                refine wpAnyH_take (i := 19) (v := ?v30) rfl (by kernel_rfl) (by kernel_rfl) (by kernel_rfl) (fun _ _ _ h => by first | exact h | exact absurd h.1 (fun e => by cases e)) (Or.inl ⟨by rfl, ?hy30⟩) (by assumption) ?rest30
                case hy30 =>
                  intro w hSw
                  have qh := hSw
                  go_simp
                  try with_reducible rfl
                go_simp
                refine wpAnyH_take (i := 20) (v := ?v31) rfl (by kernel_rfl) (by kernel_rfl) (by kernel_rfl) (fun _ _ _ h => by first | exact h | exact absurd h.1 (fun e => by cases e)) (Or.inl ⟨by rfl, ?hy31⟩) (by assumption) ?rest31
                case hy31 =>
                  intro w hSw
                  have qh := hSw
                  go_simp
                  try with_reducible rfl
                go_simp
                refine wpAnyH_take (i := 21) (v := ?v32) rfl (by kernel_rfl) (by kernel_rfl) (by kernel_rfl) (fun _ _ _ h => by first | exact h | exact absurd h.1 (fun e => by cases e)) (Or.inl ⟨by rfl, ?hy32⟩) (by assumption) ?rest32
                case hy32 =>
                  intro w hSw
                  have qh := hSw
                  go_simp
                  try with_reducible rfl
                go_simp
                refine wpAnyH_take (i := 22) (v := ?v33) rfl (by kernel_rfl) (by kernel_rfl) (by kernel_rfl) (fun _ _ _ h => by first | exact h | exact absurd h.1 (fun e => by cases e)) (Or.inl ⟨by rfl, ?hy33⟩) (by assumption) ?rest33
                case hy33 =>
                  intro w hSw
                  have qh := hSw
                  go_simp
                  try with_reducible rfl
                go_simp
                refine wpAnyH_ready (rs := [16, 23]) (by kernel_rfl) (by simp) ?_
                refine AllReadyH.cons rfl (fun K hK => ?sa) (AllReadyH.cons rfl (fun K hK => ?sb) AllReadyH.nil)
                case sa =>
                  obtain ⟨ck0, ck1⟩ := HCK.out
                  go_simp
                  refine hK.out _ _ (hSn) (fun hSn => ?_)
                  clear hK K
                  go_simp
                  refine wpAnyH_ready (rs := [23]) (by kernel_rfl) (by simp) ?_
                  refine AllReadyH.cons rfl (fun K hK => ?_) AllReadyH.nil
                  obtain ⟨ci0, ci1⟩ := HCI.out
                  go_simp
                  refine hK.out _ _ (hSn) (fun hSn => ?_)
                  clear hK K
                  go_simp
                  refine wpAnyH_take (i := 24) (v := ?v34) rfl (by kernel_rfl) (by kernel_rfl) (by kernel_rfl) (fun _ _ _ h => by first | exact h | exact absurd h.1 (fun e => by cases e)) (Or.inl ⟨by rfl, ?hy34⟩) (by assumption) ?rest34
                  case hy34 =>
                    intro w hSw
                    have qh := hSw
                    go_simp
                    try with_reducible rfl
                  go_simp
                  refine wpAnyH_ready (rs := [25]) (by kernel_rfl) (by simp) ?_
                  refine AllReadyH.cons rfl (fun K hK => ?_) AllReadyH.nil
                  obtain ⟨ci0, ci1⟩ := HCI.out
                  obtain ⟨fi0, fi1⟩ := HFI.out
                  go_simp
                  refine hK.out _ _ ((HB1.out.cellAt 1)) (fun hSn => ?_)
                  clear hK K
                  go_simp
                  refine wpAnyH_take (i := 26) (v := ?v35) rfl (by kernel_rfl) (by kernel_rfl) (by kernel_rfl) (fun _ _ _ h => by first | exact h | exact absurd h.1 (fun e => by cases e)) (Or.inl ⟨by rfl, ?hy35⟩) (by assumption) ?rest35
                  case hy35 =>
                    intro w hSw
                    have qh := hSw
                    go_simp
                    try with_reducible rfl
                  go_simp
                  refine wpAnyH_ready (rs := [27]) (by kernel_rfl) (by simp) ?_
                  refine AllReadyH.cons rfl (fun K hK => ?_) AllReadyH.nil
                  obtain ⟨⟨cv0, cx0⟩, ⟨cv1, cx1⟩, fx0, fx1⟩ := HFX.out
                  go_simp
                  refine hK.out _ _ ((HSW.out.1.box.cellAt 1).trans (by simp [swapLI])) (fun hSn => ?_)
                  clear hK K
                  go_simp
                  refine wpAnyH_done (by kernel_rfl) ?_ _
                  exact ⟨rfl, ⟨_, _, _, _, _, _, _, _, _, _, _, _, _, _, _, _, _, _, _, _, _, _, _, _, _, _, rfl⟩, HSW.out⟩
                case sb =>
                  obtain ⟨ci0, ci1⟩ := HCI.out
                  go_simp
                  refine hK.out _ _ (hSn) (fun hSn => ?_)
                  clear hK K
                  go_simp
                  refine wpAnyH_ready (rs := [16]) (by kernel_rfl) (by simp) ?_
                  refine AllReadyH.cons rfl (fun K hK => ?_) AllReadyH.nil
                  obtain ⟨ck0, ck1⟩ := HCK.out
                  go_simp
                  refine hK.out _ _ (hSn) (fun hSn => ?_)
                  clear hK K
                  go_simp
                  refine wpAnyH_take (i := 24) (v := ?v36) rfl (by kernel_rfl) (by kernel_rfl) (by kernel_rfl) (fun _ _ _ h => by first | exact h | exact absurd h.1 (fun e => by cases e)) (Or.inl ⟨by rfl, ?hy36⟩) (by assumption) ?rest36
                  case hy36 =>
                    intro w hSw
                    have qh := hSw
                    go_simp
                    try with_reducible rfl
                  go_simp
                  refine wpAnyH_ready (rs := [25]) (by kernel_rfl) (by simp) ?_
                  refine AllReadyH.cons rfl (fun K hK => ?_) AllReadyH.nil
                  obtain ⟨ci0, ci1⟩ := HCI.out
                  obtain ⟨fi0, fi1⟩ := HFI.out
                  go_simp
                  refine hK.out _ _ ((HB1.out.cellAt 1)) (fun hSn => ?_)
                  clear hK K
                  go_simp
                  refine wpAnyH_take (i := 26) (v := ?v37) rfl (by kernel_rfl) (by kernel_rfl) (by kernel_rfl) (fun _ _ _ h => by first | exact h | exact absurd h.1 (fun e => by cases e)) (Or.inl ⟨by rfl, ?hy37⟩) (by assumption) ?rest37
                  case hy37 =>
                    intro w hSw
                    have qh := hSw
                    go_simp
                    try with_reducible rfl
                  go_simp
                  refine wpAnyH_ready (rs := [27]) (by kernel_rfl) (by simp) ?_
                  refine AllReadyH.cons rfl (fun K hK => ?_) AllReadyH.nil
                  obtain ⟨⟨cv0, cx0⟩, ⟨cv1, cx1⟩, fx0, fx1⟩ := HFX.out
                  go_simp
                  refine hK.out _ _ ((HSW.out.1.box.cellAt 1).trans (by simp [swapLI])) (fun hSn => ?_)
                  clear hK K
                  go_simp
                  refine wpAnyH_done (by kernel_rfl) ?_ _
                  exact ⟨rfl, ⟨_, _, _, _, _, _, _, _, _, _, _, _, _, _, _, _, _, _, _, _, _, _, _, _, _, _, rfl⟩, HSW.out⟩
              · rintro a' w5 ⟨⟨u80, u81, u82, u83, u84, u85, u86, u87, u88, u89, u90, u91, u92, u93, u94, u95, u96, u97, u98, u99, u100, u101, u102, u103, u104, u105, rfl⟩, hS, kS⟩
                have HS := Lib.hid hS
                have HKS : Hid (Keeps (fun b => b = p ∨ (Value.slice (some ⟨g, 0, none⟩) l.length c).ownBlock = some b) w0 w5) := Lib.hid (HK3.out.and kS (fun b hb h => by
                  obtain rfl : b = g := h
                  exact .inr rfl))
                have hsl : (swapLI l2 i k ei ek).length = l2.length := by simp [swapLI]
                have HSL := Lib.hid hsl
                clear hS kS HSW HCI HCK HFI HB1 HFX a0 a1 a2 f0 f1 f2 hsl
                go_wp2_with fail
                go_roundw
                case rel => exact ⟨k, _, by omega, by first | rfl | go_num, by rw [HSL.out]; exact HL2.out, Lib.hid (HQ3.out.symm.trans HD.out), HS, HKS⟩
                case measure => simp [intOf]; omega
          · have HF2 := HA2.out
            rw [ha] at HF2
            have HDN : Hid (downI l2 i = if ahI er ei then downI (swapLI l2 i r ei er) r else l2) := Lib.hid (by rw [HDN0.out, ha]; rfl)
            have HF2' := Lib.hid HF2
            clear HA2 HDN0 ha HEk HF2
            go_wp2_with fail
            refine HF2'.out.mono ?_
            rintro e wa ⟨rfl, k2⟩
            replace HH := Lib.hid (HH.out.calm k2 id (fun _ _ => id))
            replace HK := Lib.hid (HK.out.and k2 (fun _ _ h => h.elim))
            clear k2 HF2'
            have HA3 := Lib.hid (aheadI_any p c r i came (some ⟨g, 0, none⟩) l2 er ei _ HH.out HEr.out HEI.out)
            cases ha3 : ahI er ei
            · have HF3 := HA3.out
              rw [ha3] at HF3
              have HQ3 : Hid (downI l2 i = l2) := Lib.hid (by rw [HDN.out, ha3]; rfl)
              have HF3' := Lib.hid HF3
              clear HA3 HDN ha3 HF3
              go_wp2_with fail
              refine HF3'.out.mono ?_
              rintro e w3 ⟨rfl, k3⟩
              have HK3 := Lib.hid k3
              clear k3 HF3'
              go_wp2_with fail
              go_ret2
              exact ⟨rfl, by rw [HTK.out, ← HD.out, HQ3.out]; exact (HH.out.calm HK3.out id (fun _ _ => id)), (HK.out.and HK3.out (fun _ _ h => h.elim))⟩
            · have HF3 := HA3.out
              rw [ha3] at HF3
              have HQ3 : Hid (downI l2 i = downI (swapLI l2 i r ei er) r) := Lib.hid (by rw [HDN.out, ha3]; rfl)
              have HF3' := Lib.hid HF3
              clear HA3 HDN ha3 HF3
              go_wp2_with fail
              refine HF3'.out.mono ?_
              rintro e w3 ⟨rfl, k3⟩
              have HK3' := Lib.hid k3
              clear k3 HF3'
              go_wp2_with fail
              have HH3 := Lib.hid (HH.out.calm HK3'.out id (fun _ _ => id))
              have HK3 := Lib.hid (HK.out.and HK3'.out (fun _ _ h => h.elim))
              clear HK3' HH HK
              obtain ⟨g1, hA3, _, _, HI⟩ := HH3.out.at_ HEI.out
              obtain ⟨rfl⟩ : g = g1 := by injection hA3 with h1; injection h1
              obtain ⟨g2, hA4, _, _, HKc⟩ := HH3.out.at_ HEr.out
              obtain ⟨rfl⟩ : g = g2 := by injection hA4 with h1; injection h1
              clear hA3 hA4
              have hki : r < l2.length := by have := HL2.out; omega
              have hii : i < l2.length := by have := HL2.out; omega
              have HSW := Lib.hid (HH3.out.swap (ei := ei) (ek := er) hii hki)
              obtain ⟨a0, a1, a2, f0, f1, f2⟩ := three HH3.out.box
              have hiI : (i : Int) < (l2.length : Int) := by have := HL2.out; omega
              have hkI : (r : Int) < (l2.length : Int) := by have := HL2.out; omega
              have hne : i ≠ r := by omega
              have hne2 : r ≠ i := by omega
              have hk0 : (0 : Int) ≤ (r : Int) := by omega
              have hi0 : (0 : Int) ≤ (i : Int) := by omega
              have hW3 : ∃ cs, Whole w3 g 136 cs ∧ l2.length * 2 ≤ cs.size := by
                rcases HH3.out.own.2 with ⟨h, _⟩ | ⟨g', cap, cur, hv, _, hh, hc, _, hs, _⟩
                · cases h
                · injection hv with h1 h2 h3
                  injection h1 with h1
                  injection h1 with h1
                  subst h1 h3
                  exact ⟨cur, hh, by rw [hs]; exact Nat.mul_le_mul_right _ hc⟩
              obtain ⟨csw, hW3, hcsw⟩ := hW3
              have HCI : Hid (w3.cell? ⟨g, i * 2, none⟩ = some (.int .i64 ei.x) ∧ w3.cell? ⟨g, i * 2 + 1, none⟩ = some (.int .i64 ei.came)) := Lib.hid (HI w3 (Keeps.refl _ _))
              have HCK : Hid (w3.cell? ⟨g, r * 2, none⟩ = some (.int .i64 er.x) ∧ w3.cell? ⟨g, r * 2 + 1, none⟩ = some (.int .i64 er.came)) := Lib.hid (HKc w3 (Keeps.refl _ _))
              have HFI : Hid (w3.frozen? ⟨g, i * 2, none⟩ = false ∧ w3.frozen? ⟨g, i * 2 + 1, none⟩ = false) := Lib.hid ⟨hW3.free _, hW3.free _⟩
              have HB1 : Hid (Whole ((w3.setCell ⟨g, i * 2, none⟩ (.int .i64 er.x)).setCell ⟨g, i * 2 + 1, none⟩ (.int .i64 er.came)) p 134 #[.func (.func 62) #[] #[], .slice (some ⟨g, 0, none⟩) l2.length c, .int .i64 came]) := Lib.hid (((HH3.out.box).putFar (p := ⟨g, i * 2, none⟩) hpg2 _).putFar (p := ⟨g, i * 2 + 1, none⟩) hpg2 _)
              have hW4 : ∃ cs, Whole ((w3.setCell ⟨g, i * 2, none⟩ (.int .i64 er.x)).setCell ⟨g, i * 2 + 1, none⟩ (.int .i64 er.came)) g 136 cs ∧ l2.length * 2 ≤ cs.size := ⟨_, ((hW3).put (i * 2) _).put (i * 2 + 1) _, by simpa using hcsw⟩
              obtain ⟨csx, hW4, hcsx⟩ := hW4
              have HFX : Hid ((∃ u, ((w3.setCell ⟨g, i * 2, none⟩ (.int .i64 er.x)).setCell ⟨g, i * 2 + 1, none⟩ (.int .i64 er.came)).cell? ⟨g, r * 2, none⟩ = some u) ∧ (∃ u, ((w3.setCell ⟨g, i * 2, none⟩ (.int .i64 er.x)).setCell ⟨g, i * 2 + 1, none⟩ (.int .i64 er.came)).cell? ⟨g, r * 2 + 1, none⟩ = some u) ∧ ((w3.setCell ⟨g, i * 2, none⟩ (.int .i64 er.x)).setCell ⟨g, i * 2 + 1, none⟩ (.int .i64 er.came)).frozen? ⟨g, r * 2, none⟩ = false ∧ ((w3.setCell ⟨g, i * 2, none⟩ (.int .i64 er.x)).setCell ⟨g, i * 2 + 1, none⟩ (.int .i64 er.came)).frozen? ⟨g, r * 2 + 1, none⟩ = false) := Lib.hid ⟨⟨_, (hW4.cellAt _).trans (Array.getElem?_eq_getElem (by omega))⟩, ⟨_, (hW4.cellAt _).trans (Array.getElem?_eq_getElem (by omega))⟩, hW4.free _, hW4.free _⟩
              clear HI HKc hW3 hW4 hcsw hcsx
              refine region_cut (fun a a' w' => (∃ u80 u81 u82 u83 u84 u85 u86 u87 u88 u89 u90 u91 u92 u93 u94 u95 u96 u97 u98 u99 u100 u101 u102 u103 u104 u105 : Value, a' = ((((((((((((((((((((((((((a.put (some 80) u80).put (some 81) u81).put (some 82) u82).put (some 83) u83).put (some 84) u84).put (some 85) u85).put (some 86) u86).put (some 87) u87).put (some 88) u88).put (some 89) u89).put (some 90) u90).put (some 91) u91).put (some 92) u92).put (some 93) u93).put (some 94) u94).put (some 95) u95).put (some 96) u96).put (some 97) u97).put (some 98) u98).put (some 99) u99).put (some 100) u100).put (some 101) u101).put (some 102) u102).put (some 103) u103).put (some 104) u104).put (some 105) u105)) ∧ HeapI w' p (some ⟨g, 0, none⟩) c (swapLI l2 i r ei er) came ∧ Keeps (fun b => b = g) w3 w') ?_ ?_
              · skip
                refine wp_region_held_drew (S := fun W => W.cell? ⟨p, 1, none⟩ = some (.slice (some ⟨g, 0, none⟩) l2.length c)) (by kernel_rfl) (a1) ?_
                intro hSn
                refine wpAnyH_take (i := 0) (v := ?v38) rfl (by kernel_rfl) (by kernel_rfl) (by kernel_rfl) (fun _ _ _ h => by first | exact h | exact absurd h.1 (fun e => by cases e)) (Or.inl ⟨by rfl, ?hy38⟩) (by assumption) ?rest38
                case hy38 =>
                  intro w hSw
                  have qh := hSw
                  go_simp
                  try with_reducible rfl
                go_simp
                refine wpAnyH_take (i := 1) (v := ?v39) rfl (by kernel_rfl) (by kernel_rfl) (by kernel_rfl) (fun _ _ _ h => by first | exact h | exact absurd h.1 (fun e => by cases e)) (Or.inl ⟨by rfl, ?hy39⟩) (by assumption) ?rest39
                case hy39 =>
                  intro w hSw
                  have qh := hSw
                  go_simp
                  try with_reducible rfl
                go_simp
                refine wpAnyH_take (i := 2) (v := ?v40) rfl (by kernel_rfl) (by kernel_rfl) (by kernel_rfl) (fun _ _ _ h => by first | exact h | exact absurd h.1 (fun e => by cases e)) (Or.inl ⟨by rfl, ?hy40⟩) (by assumption) ?rest40
                case hy40 =>
                  intro w hSw
                  have qh := hSw
                  go_simp
                  try with_reducible rfl
                go_simp
                refine wpAnyH_take (i := 3) (v := ?v41) rfl (by kernel_rfl) (by kernel_rfl) (by kernel_rfl) (fun _ _ _ h => by first | exact h | exact absurd h.1 (fun e => by cases e)) (Or.inl ⟨by rfl, ?hy41⟩) (by assumption) ?rest41
                case hy41 =>
                  intro w hSw
                  have qh := hSw
                  go_simp
                  try with_reducible rfl
                go_simp
                refine wpAnyH_take (i := 4) (v := ?v42) rfl (by kernel_rfl) (by kernel_rfl) (by kernel_rfl) (fun _ _ _ h => by first | exact h | exact absurd h.1 (fun e => by cases e)) (Or.inl ⟨by rfl, ?hy42⟩) (by assumption) ?rest42
                case hy42 =>
                  intro w hSw
                  have qh := hSw
                  go_simp
                  try with_reducible rfl
                go_simp
                refine wpAnyH_take (i := 5) (v := ?v43) rfl (by kernel_rfl) (by kernel_rfl) (by kernel_rfl) (fun _ _ _ h => by first | exact h | exact absurd h.1 (fun e => by cases e)) (Or.inl ⟨by rfl, ?hy43⟩) (by assumption) ?rest43
                case hy43 =>
                  intro w hSw
                  have qh := hSw
                  go_simp
                  try with_reducible rfl
                go_simp
                refine wpAnyH_take (i := 6) (v := ?v44) rfl (by kernel_rfl) (by kernel_rfl) (by kernel_rfl) (fun _ _ _ h => by first | exact h | exact absurd h.1 (fun e => by cases e)) (Or.inl ⟨by rfl, ?hy44⟩) (by assumption) ?rest44
                case hy44 =>
                  intro w hSw
                  have qh := hSw
                  go_simp
                  try with_reducible rfl
                go_simp
                refine wpAnyH_take (i := 7) (v := ?v45) rfl (by kernel_rfl) (by kernel_rfl) (by kernel_rfl) (fun _ _ _ h => by first | exact h | exact absurd h.1 (fun e => by cases e)) (Or.inl ⟨by rfl, ?hy45⟩) (by assumption) ?rest45
                case hy45 =>
                  intro w hSw
                  have qh := hSw
                  go_simp
                  try with_reducible rfl
                go_simp
                refine wpAnyH_take (i := 8) (v := ?v46) rfl (by kernel_rfl) (by kernel_rfl) (by kernel_rfl) (fun _ _ _ h => by first | exact h | exact absurd h.1 (fun e => by cases e)) (Or.inl ⟨by rfl, ?hy46⟩) (by assumption) ?rest46
                case hy46 =>
                  intro w hSw
                  have qh := hSw
                  go_simp
                  try with_reducible rfl
                go_simp
                refine wpAnyH_take (i := 9) (v := ?v47) rfl (by kernel_rfl) (by kernel_rfl) (by kernel_rfl) (fun _ _ _ h => by first | exact h | exact absurd h.1 (fun e => by cases e)) (Or.inl ⟨by rfl, ?hy47⟩) (by assumption) ?rest47
                case hy47 =>
                  intro w hSw
                  have qh := hSw
                  go_simp
                  try with_reducible rfl
                go_simp
                refine wpAnyH_take (i := 10) (v := ?v48) rfl (by kernel_rfl) (by kernel_rfl) (by kernel_rfl) (fun _ _ _ h => by first | exact h | exact absurd h.1 (fun e => by cases e)) (Or.inl ⟨by rfl, ?hy48⟩) (by assumption) ?rest48
                case hy48 =>
                  intro w hSw
                  have qh := hSw
                  go_simp
                  try with_reducible rfl
                go_simp
                refine wpAnyH_take (i := 11) (v := ?v49) rfl (by kernel_rfl) (by kernel_rfl) (by kernel_rfl) (fun _ _ _ h => by first | exact h | exact absurd h.1 (fun e => by cases e)) (Or.inl ⟨by rfl, ?hy49⟩) (by assumption) ?rest49
                case hy49 =>
                  intro w hSw
                  have qh := hSw
                  go_simp
                  try with_reducible rfl
                go_simp
                refine wpAnyH_take (i := 12) (v := ?v50) rfl (by kernel_rfl) (by kernel_rfl) (by kernel_rfl) (fun _ _ _ h => by first | exact h | exact absurd h.1 (fun e => by cases e)) (Or.inl ⟨by rfl, ?hy50⟩) (by assumption) ?rest50
                case hy50 =>
                  intro w hSw
                  have qh := hSw
                  go_simp
                  try with_reducible rfl
                go_simp
                refine wpAnyH_take (i := 13) (v := ?v51) rfl (by kernel_rfl) (by kernel_rfl) (by kernel_rfl) (fun _ _ _ h => by first | exact h | exact absurd h.1 (fun e => by cases e)) (Or.inl ⟨by rfl, ?hy51⟩) (by assumption) ?rest51
                case hy51 =>
                  intro w hSw
                  have qh := hSw
                  go_simp
                  try with_reducible rfl
                go_simp
                refine wpAnyH_take (i := 14) (v := ?v52) rfl (by kernel_rfl) (by kernel_rfl) (by kernel_rfl) (fun _ _ _ h => by first | exact h | exact absurd h.1 (fun e => by cases e)) (Or.inl ⟨by rfl, ?hy52⟩) (by assumption) ?rest52
                case hy52 =>
                  intro w hSw
                  have qh := hSw
                  go_simp
                  try with_reducible rfl
                go_simp
                refine wpAnyH_take (i := 15) (v := ?v53) rfl (by kernel_rfl) (by kernel_rfl) (by kernel_rfl) (fun _ _ _ h => by first | exact h | exact absurd h.1 (fun e => by cases e)) (Or.inl ⟨by rfl, ?hy53⟩) (by assumption) ?rest53
                case hy53 =>
                  intro w hSw
                  have qh := hSw
                  go_simp
                  try with_reducible rfl
                go_simp
                refine wpAnyH_take (i := 17) (v := ?v54) rfl (by kernel_rfl) (by kernel_rfl) (by kernel_rfl) (fun _ _ _ h => by first | exact h | exact absurd h.1 (fun e => by cases e)) (Or.inl ⟨by rfl, ?hy54⟩) (by assumption) ?rest54
                case hy54 =>
                  intro w hSw
                  have qh := hSw
                  go_simp
                  try with_reducible rfl
                go_simp
                refine wpAnyH_take (i := 18) (v := ?v55) rfl (by kernel_rfl) (by kernel_rfl) (by kernel_rfl) (fun _ _ _ h => by first | exact h | exact absurd h.1 (fun e => by cases e)) (Or.inl ⟨by rfl, ?hy55⟩) (by assumption) ?rest55
                case hy55 =>
                  intro w hSw
                  have qh := hSw
                  go_simp
                  try with_reducible rfl
                go_simp
                refine wpAnyH_take (i := 19) (v := ?v56) rfl (by kernel_rfl) (by kernel_rfl) (by kernel_rfl) (fun _ _ _ h => by first | exact h | exact absurd h.1 (fun e => by cases e)) (Or.inl ⟨by rfl, ?hy56⟩) (by assumption) ?rest56
                case hy56 =>
                  intro w hSw
                  have qh := hSw
                  go_simp
                  try with_reducible rfl
                go_simp
                refine wpAnyH_take (i := 20) (v := ?v57) rfl (by kernel_rfl) (by kernel_rfl) (by kernel_rfl) (fun _ _ _ h => by first | exact h | exact absurd h.1 (fun e => by cases e)) (Or.inl ⟨by rfl, ?hy57⟩) (by assumption) ?rest57
                case hy57 =>
                  intro w hSw
                  have qh := hSw
                  go_simp
                  try with_reducible rfl
                go_simp
                refine wpAnyH_take (i := 21) (v := ?v58) rfl (by kernel_rfl) (by kernel_rfl) (by kernel_rfl) (fun _ _ _ h => by first | exact h | exact absurd h.1 (fun e => by cases e)) (Or.inl ⟨by rfl, ?hy58⟩) (by assumption) ?rest58
                case hy58 =>
                  intro w hSw
                  have qh := hSw
                  go_simp
                  try with_reducible rfl
                go_simp
                refine wpAnyH_take (i := 22) (v := ?v59) rfl (by kernel_rfl) (by kernel_rfl) (by kernel_rfl) (fun _ _ _ h => by first | exact h | exact absurd h.1 (fun e => by cases e)) (Or.inl ⟨by rfl, ?hy59⟩) (by assumption) ?rest59
                case hy59 =>
                  intro w hSw
                  have qh := hSw
                  go_simp
                  try with_reducible rfl
                go_simp
                refine wpAnyH_ready (rs := [16, 23]) (by kernel_rfl) (by simp) ?_
                refine AllReadyH.cons rfl (fun K hK => ?sa) (AllReadyH.cons rfl (fun K hK => ?sb) AllReadyH.nil)
                case sa =>
                  obtain ⟨ck0, ck1⟩ := HCK.out
                  go_simp
                  refine hK.out _ _ (hSn) (fun hSn => ?_)
                  clear hK K
                  go_simp
                  refine wpAnyH_ready (rs := [23]) (by kernel_rfl) (by simp) ?_
                  refine AllReadyH.cons rfl (fun K hK => ?_) AllReadyH.nil
                  obtain ⟨ci0, ci1⟩ := HCI.out
                  go_simp
                  refine hK.out _ _ (hSn) (fun hSn => ?_)
                  clear hK K
                  go_simp
                  refine wpAnyH_take (i := 24) (v := ?v60) rfl (by kernel_rfl) (by kernel_rfl) (by kernel_rfl) (fun _ _ _ h => by first | exact h | exact absurd h.1 (fun e => by cases e)) (Or.inl ⟨by rfl, ?hy60⟩) (by assumption) ?rest60
                  case hy60 =>
                    intro w hSw
                    have qh := hSw
                    go_simp
                    try with_reducible rfl
                  go_simp
                  refine wpAnyH_ready (rs := [25]) (by kernel_rfl) (by simp) ?_
                  refine AllReadyH.cons rfl (fun K hK => ?_) AllReadyH.nil
                  obtain ⟨ci0, ci1⟩ := HCI.out
                  obtain ⟨fi0, fi1⟩ := HFI.out
                  go_simp
                  refine hK.out _ _ ((HB1.out.cellAt 1)) (fun hSn => ?_)
                  clear hK K
                  go_simp
                  refine wpAnyH_take (i := 26) (v := ?v61) rfl (by kernel_rfl) (by kernel_rfl) (by kernel_rfl) (fun _ _ _ h => by first | exact h | exact absurd h.1 (fun e => by cases e)) (Or.inl ⟨by rfl, ?hy61⟩) (by assumption) ?rest61
                  case hy61 =>
                    intro w hSw
                    have qh := hSw
                    go_simp
                    try with_reducible rfl
                  go_simp
                  refine wpAnyH_ready (rs := [27]) (by kernel_rfl) (by simp) ?_
                  refine AllReadyH.cons rfl (fun K hK => ?_) AllReadyH.nil
                  obtain ⟨⟨cv0, cx0⟩, ⟨cv1, cx1⟩, fx0, fx1⟩ := HFX.out
                  go_simp
                  refine hK.out _ _ ((HSW.out.1.box.cellAt 1).trans (by simp [swapLI])) (fun hSn => ?_)
                  clear hK K
                  go_simp
                  refine wpAnyH_done (by kernel_rfl) ?_ _
                  exact ⟨rfl, ⟨_, _, _, _, _, _, _, _, _, _, _, _, _, _, _, _, _, _, _, _, _, _, _, _, _, _, rfl⟩, HSW.out⟩
                case sb =>
                  obtain ⟨ci0, ci1⟩ := HCI.out
                  go_simp
                  refine hK.out _ _ (hSn) (fun hSn => ?_)
                  clear hK K
                  go_simp
                  refine wpAnyH_ready (rs := [16]) (by kernel_rfl) (by simp) ?_
                  refine AllReadyH.cons rfl (fun K hK => ?_) AllReadyH.nil
                  obtain ⟨ck0, ck1⟩ := HCK.out
                  go_simp
                  refine hK.out _ _ (hSn) (fun hSn => ?_)
                  clear hK K
                  go_simp
                  refine wpAnyH_take (i := 24) (v := ?v62) rfl (by kernel_rfl) (by kernel_rfl) (by kernel_rfl) (fun _ _ _ h => by first | exact h | exact absurd h.1 (fun e => by cases e)) (Or.inl ⟨by rfl, ?hy62⟩) (by assumption) ?rest62
                  case hy62 =>
                    intro w hSw
                    have qh := hSw
                    go_simp
                    try with_reducible rfl
                  go_simp
                  refine wpAnyH_ready (rs := [25]) (by kernel_rfl) (by simp) ?_
                  refine AllReadyH.cons rfl (fun K hK => ?_) AllReadyH.nil
                  obtain ⟨ci0, ci1⟩ := HCI.out
                  obtain ⟨fi0, fi1⟩ := HFI.out
                  go_simp
                  refine hK.out _ _ ((HB1.out.cellAt 1)) (fun hSn => ?_)
                  clear hK K
                  go_simp
                  refine wpAnyH_take (i := 26) (v := ?v63) rfl (by kernel_rfl) (by kernel_rfl) (by kernel_rfl) (fun _ _ _ h => by first | exact h | exact absurd h.1 (fun e => by cases e)) (Or.inl ⟨by rfl, ?hy63⟩) (by assumption) ?rest63
                  case hy63 =>
                    intro w hSw
                    have qh := hSw
                    go_simp
                    try with_reducible rfl
                  go_simp
                  refine wpAnyH_ready (rs := [27]) (by kernel_rfl) (by simp) ?_
                  refine AllReadyH.cons rfl (fun K hK => ?_) AllReadyH.nil
                  obtain ⟨⟨cv0, cx0⟩, ⟨cv1, cx1⟩, fx0, fx1⟩ := HFX.out
                  go_simp
                  refine hK.out _ _ ((HSW.out.1.box.cellAt 1).trans (by simp [swapLI])) (fun hSn => ?_)
                  clear hK K
                  go_simp
                  refine wpAnyH_done (by kernel_rfl) ?_ _
                  exact ⟨rfl, ⟨_, _, _, _, _, _, _, _, _, _, _, _, _, _, _, _, _, _, _, _, _, _, _, _, _, _, rfl⟩, HSW.out⟩
              · rintro a' w5 ⟨⟨u80, u81, u82, u83, u84, u85, u86, u87, u88, u89, u90, u91, u92, u93, u94, u95, u96, u97, u98, u99, u100, u101, u102, u103, u104, u105, rfl⟩, hS, kS⟩
                have HS := Lib.hid hS
                have HKS : Hid (Keeps (fun b => b = p ∨ (Value.slice (some ⟨g, 0, none⟩) l.length c).ownBlock = some b) w0 w5) := Lib.hid (HK3.out.and kS (fun b hb h => by
                  obtain rfl : b = g := h
                  exact .inr rfl))
                have hsl : (swapLI l2 i r ei er).length = l2.length := by simp [swapLI]
                have HSL := Lib.hid hsl
                clear hS kS HSW HCI HCK HFI HB1 HFX a0 a1 a2 f0 f1 f2 hsl
                go_wp2_with fail
                go_roundw
                case rel => exact ⟨r, _, by omega, by first | rfl | go_num, by rw [HSL.out]; exact HL2.out, Lib.hid (HQ3.out.symm.trans HD.out), HS, HKS⟩
                case measure => simp [intOf]; omega
        · have HDN : Hid (downI l2 i = if ahI ek ei then downI (swapLI l2 i k ei ek) k else l2) := Lib.hid (by
            conv => lhs; unfold downI
            rw [dif_neg hend2, hei, ← hk, hek, if_neg (show ¬ 2 * i + 2 < l2.length by omega)])
          have hrI : ¬ (k : Int) + 1 < (m : Int) := by omega
          clear hei hek hk hend2 hr hl2 hl0 hlb hcap2 hii hend hkb hcap hmb
          have HA3 := Lib.hid (aheadI_any p c k i came (some ⟨g, 0, none⟩) l2 ek ei _ HH.out HEk.out HEI.out)
          cases ha3 : ahI ek ei
          · have HF3 := HA3.out
            rw [ha3] at HF3
            have HQ3 : Hid (downI l2 i = l2) := Lib.hid (by rw [HDN.out, ha3]; rfl)
            have HF3' := Lib.hid HF3
            clear HA3 HDN ha3 HF3
            go_wp2_with fail
            refine HF3'.out.mono ?_
            rintro e w3 ⟨rfl, k3⟩
            have HK3 := Lib.hid k3
            clear k3 HF3'
            go_wp2_with fail
            go_ret2
            exact ⟨rfl, by rw [HTK.out, ← HD.out, HQ3.out]; exact (HH.out.calm HK3.out id (fun _ _ => id)), (HK.out.and HK3.out (fun _ _ h => h.elim))⟩
          · have HF3 := HA3.out
            rw [ha3] at HF3
            have HQ3 : Hid (downI l2 i = downI (swapLI l2 i k ei ek) k) := Lib.hid (by rw [HDN.out, ha3]; rfl)
            have HF3' := Lib.hid HF3
            clear HA3 HDN ha3 HF3
            go_wp2_with fail
            refine HF3'.out.mono ?_
            rintro e w3 ⟨rfl, k3⟩
            have HK3' := Lib.hid k3
            clear k3 HF3'
            go_wp2_with fail
            have HH3 := Lib.hid (HH.out.calm HK3'.out id (fun _ _ => id))
            have HK3 := Lib.hid (HK.out.and HK3'.out (fun _ _ h => h.elim))
            clear HK3' HH HK
            obtain ⟨g1, hA3, _, _, HI⟩ := HH3.out.at_ HEI.out
            obtain ⟨rfl⟩ : g = g1 := by injection hA3 with h1; injection h1
            obtain ⟨g2, hA4, _, _, HKc⟩ := HH3.out.at_ HEk.out
            obtain ⟨rfl⟩ : g = g2 := by injection hA4 with h1; injection h1
            clear hA3 hA4
            have hki : k < l2.length := by have := HL2.out; omega
            have hii : i < l2.length := by have := HL2.out; omega
            have HSW := Lib.hid (HH3.out.swap (ei := ei) (ek := ek) hii hki)
            obtain ⟨a0, a1, a2, f0, f1, f2⟩ := three HH3.out.box
            have hiI : (i : Int) < (l2.length : Int) := by have := HL2.out; omega
            have hkI : (k : Int) < (l2.length : Int) := by have := HL2.out; omega
            have hne : i ≠ k := by omega
            have hne2 : k ≠ i := by omega
            have hk0 : (0 : Int) ≤ (k : Int) := by omega
            have hi0 : (0 : Int) ≤ (i : Int) := by omega
            have hW3 : ∃ cs, Whole w3 g 136 cs ∧ l2.length * 2 ≤ cs.size := by
              rcases HH3.out.own.2 with ⟨h, _⟩ | ⟨g', cap, cur, hv, _, hh, hc, _, hs, _⟩
              · cases h
              · injection hv with h1 h2 h3
                injection h1 with h1
                injection h1 with h1
                subst h1 h3
                exact ⟨cur, hh, by rw [hs]; exact Nat.mul_le_mul_right _ hc⟩
            obtain ⟨csw, hW3, hcsw⟩ := hW3
            have HCI : Hid (w3.cell? ⟨g, i * 2, none⟩ = some (.int .i64 ei.x) ∧ w3.cell? ⟨g, i * 2 + 1, none⟩ = some (.int .i64 ei.came)) := Lib.hid (HI w3 (Keeps.refl _ _))
            have HCK : Hid (w3.cell? ⟨g, k * 2, none⟩ = some (.int .i64 ek.x) ∧ w3.cell? ⟨g, k * 2 + 1, none⟩ = some (.int .i64 ek.came)) := Lib.hid (HKc w3 (Keeps.refl _ _))
            have HFI : Hid (w3.frozen? ⟨g, i * 2, none⟩ = false ∧ w3.frozen? ⟨g, i * 2 + 1, none⟩ = false) := Lib.hid ⟨hW3.free _, hW3.free _⟩
            have HB1 : Hid (Whole ((w3.setCell ⟨g, i * 2, none⟩ (.int .i64 ek.x)).setCell ⟨g, i * 2 + 1, none⟩ (.int .i64 ek.came)) p 134 #[.func (.func 62) #[] #[], .slice (some ⟨g, 0, none⟩) l2.length c, .int .i64 came]) := Lib.hid (((HH3.out.box).putFar (p := ⟨g, i * 2, none⟩) hpg2 _).putFar (p := ⟨g, i * 2 + 1, none⟩) hpg2 _)
            have hW4 : ∃ cs, Whole ((w3.setCell ⟨g, i * 2, none⟩ (.int .i64 ek.x)).setCell ⟨g, i * 2 + 1, none⟩ (.int .i64 ek.came)) g 136 cs ∧ l2.length * 2 ≤ cs.size := ⟨_, ((hW3).put (i * 2) _).put (i * 2 + 1) _, by simpa using hcsw⟩
            obtain ⟨csx, hW4, hcsx⟩ := hW4
            have HFX : Hid ((∃ u, ((w3.setCell ⟨g, i * 2, none⟩ (.int .i64 ek.x)).setCell ⟨g, i * 2 + 1, none⟩ (.int .i64 ek.came)).cell? ⟨g, k * 2, none⟩ = some u) ∧ (∃ u, ((w3.setCell ⟨g, i * 2, none⟩ (.int .i64 ek.x)).setCell ⟨g, i * 2 + 1, none⟩ (.int .i64 ek.came)).cell? ⟨g, k * 2 + 1, none⟩ = some u) ∧ ((w3.setCell ⟨g, i * 2, none⟩ (.int .i64 ek.x)).setCell ⟨g, i * 2 + 1, none⟩ (.int .i64 ek.came)).frozen? ⟨g, k * 2, none⟩ = false ∧ ((w3.setCell ⟨g, i * 2, none⟩ (.int .i64 ek.x)).setCell ⟨g, i * 2 + 1, none⟩ (.int .i64 ek.came)).frozen? ⟨g, k * 2 + 1, none⟩ = false) := Lib.hid ⟨⟨_, (hW4.cellAt _).trans (Array.getElem?_eq_getElem (by omega))⟩, ⟨_, (hW4.cellAt _).trans (Array.getElem?_eq_getElem (by omega))⟩, hW4.free _, hW4.free _⟩
            clear HI HKc hW3 hW4 hcsw hcsx
            refine region_cut (fun a a' w' => (∃ u80 u81 u82 u83 u84 u85 u86 u87 u88 u89 u90 u91 u92 u93 u94 u95 u96 u97 u98 u99 u100 u101 u102 u103 u104 u105 : Value, a' = ((((((((((((((((((((((((((a.put (some 80) u80).put (some 81) u81).put (some 82) u82).put (some 83) u83).put (some 84) u84).put (some 85) u85).put (some 86) u86).put (some 87) u87).put (some 88) u88).put (some 89) u89).put (some 90) u90).put (some 91) u91).put (some 92) u92).put (some 93) u93).put (some 94) u94).put (some 95) u95).put (some 96) u96).put (some 97) u97).put (some 98) u98).put (some 99) u99).put (some 100) u100).put (some 101) u101).put (some 102) u102).put (some 103) u103).put (some 104) u104).put (some 105) u105)) ∧ HeapI w' p (some ⟨g, 0, none⟩) c (swapLI l2 i k ei ek) came ∧ Keeps (fun b => b = g) w3 w') ?_ ?_
            · skip
              refine wp_region_held_drew (S := fun W => W.cell? ⟨p, 1, none⟩ = some (.slice (some ⟨g, 0, none⟩) l2.length c)) (by kernel_rfl) (a1) ?_
              intro hSn
              refine wpAnyH_take (i := 0) (v := ?v64) rfl (by kernel_rfl) (by kernel_rfl) (by kernel_rfl) (fun _ _ _ h => by first | exact h | exact absurd h.1 (fun e => by cases e)) (Or.inl ⟨by rfl, ?hy64⟩) (by assumption) ?rest64
              case hy64 =>
                intro w hSw
                have qh := hSw
                go_simp
                try with_reducible rfl
              go_simp
              refine wpAnyH_take (i := 1) (v := ?v65) rfl (by kernel_rfl) (by kernel_rfl) (by kernel_rfl) (fun _ _ _ h => by first | exact h | exact absurd h.1 (fun e => by cases e)) (Or.inl ⟨by rfl, ?hy65⟩) (by assumption) ?rest65
              case hy65 =>
                intro w hSw
                have qh := hSw
                go_simp
                try with_reducible rfl
              go_simp
              refine wpAnyH_take (i := 2) (v := ?v66) rfl (by kernel_rfl) (by kernel_rfl) (by kernel_rfl) (fun _ _ _ h => by first | exact h | exact absurd h.1 (fun e => by cases e)) (Or.inl ⟨by rfl, ?hy66⟩) (by assumption) ?rest66
              case hy66 =>
                intro w hSw
                have qh := hSw
                go_simp
                try with_reducible rfl
              go_simp
              refine wpAnyH_take (i := 3) (v := ?v67) rfl (by kernel_rfl) (by kernel_rfl) (by kernel_rfl) (fun _ _ _ h => by first | exact h | exact absurd h.1 (fun e => by cases e)) (Or.inl ⟨by rfl, ?hy67⟩) (by assumption) ?rest67
              case hy67 =>
                intro w hSw
                have qh := hSw
                go_simp
                try with_reducible rfl
              go_simp
              refine wpAnyH_take (i := 4) (v := ?v68) rfl (by kernel_rfl) (by kernel_rfl) (by kernel_rfl) (fun _ _ _ h => by first | exact h | exact absurd h.1 (fun e => by cases e)) (Or.inl ⟨by rfl, ?hy68⟩) (by assumption) ?rest68
              case hy68 =>
                intro w hSw
                have qh := hSw
                go_simp
                try with_reducible rfl
              go_simp
              refine wpAnyH_take (i := 5) (v := ?v69) rfl (by kernel_rfl) (by kernel_rfl) (by kernel_rfl) (fun _ _ _ h => by first | exact h | exact absurd h.1 (fun e => by cases e)) (Or.inl ⟨by rfl, ?hy69⟩) (by assumption) ?rest69
              case hy69 =>
                intro w hSw
                have qh := hSw
                go_simp
                try with_reducible rfl
              go_simp
              refine wpAnyH_take (i := 6) (v := ?v70) rfl (by kernel_rfl) (by kernel_rfl) (by kernel_rfl) (fun _ _ _ h => by first | exact h | exact absurd h.1 (fun e => by cases e)) (Or.inl ⟨by rfl, ?hy70⟩) (by assumption) ?rest70
              case hy70 =>
                intro w hSw
                have qh := hSw
                go_simp
                try with_reducible rfl
              go_simp
              refine wpAnyH_take (i := 7) (v := ?v71) rfl (by kernel_rfl) (by kernel_rfl) (by kernel_rfl) (fun _ _ _ h => by first | exact h | exact absurd h.1 (fun e => by cases e)) (Or.inl ⟨by rfl, ?hy71⟩) (by assumption) ?rest71
              case hy71 =>
                intro w hSw
                have qh := hSw
                go_simp
                try with_reducible rfl
              go_simp
              refine wpAnyH_take (i := 8) (v := ?v72) rfl (by kernel_rfl) (by kernel_rfl) (by kernel_rfl) (fun _ _ _ h => by first | exact h | exact absurd h.1 (fun e => by cases e)) (Or.inl ⟨by rfl, ?hy72⟩) (by assumption) ?rest72
              case hy72 =>
                intro w hSw
                have qh := hSw
                go_simp
                try with_reducible rfl
              go_simp
              refine wpAnyH_take (i := 9) (v := ?v73) rfl (by kernel_rfl) (by kernel_rfl) (by kernel_rfl) (fun _ _ _ h => by first | exact h | exact absurd h.1 (fun e => by cases e)) (Or.inl ⟨by rfl, ?hy73⟩) (by assumption) ?rest73
              case hy73 =>
                intro w hSw
                have qh := hSw
                go_simp
                try with_reducible rfl
              go_simp
              refine wpAnyH_take (i := 10) (v := ?v74) rfl (by kernel_rfl) (by kernel_rfl) (by kernel_rfl) (fun _ _ _ h => by first | exact h | exact absurd h.1 (fun e => by cases e)) (Or.inl ⟨by rfl, ?hy74⟩) (by assumption) ?rest74
              case hy74 =>
                intro w hSw
                have qh := hSw
                go_simp
                try with_reducible rfl
              go_simp
              refine wpAnyH_take (i := 11) (v := ?v75) rfl (by kernel_rfl) (by kernel_rfl) (by kernel_rfl) (fun _ _ _ h => by first | exact h | exact absurd h.1 (fun e => by cases e)) (Or.inl ⟨by rfl, ?hy75⟩) (by assumption) ?rest75
              case hy75 =>
                intro w hSw
                have qh := hSw
                go_simp
                try with_reducible rfl
              go_simp
              refine wpAnyH_take (i := 12) (v := ?v76) rfl (by kernel_rfl) (by kernel_rfl) (by kernel_rfl) (fun _ _ _ h => by first | exact h | exact absurd h.1 (fun e => by cases e)) (Or.inl ⟨by rfl, ?hy76⟩) (by assumption) ?rest76
              case hy76 =>
                intro w hSw
                have qh := hSw
                go_simp
                try with_reducible rfl
              go_simp
              refine wpAnyH_take (i := 13) (v := ?v77) rfl (by kernel_rfl) (by kernel_rfl) (by kernel_rfl) (fun _ _ _ h => by first | exact h | exact absurd h.1 (fun e => by cases e)) (Or.inl ⟨by rfl, ?hy77⟩) (by assumption) ?rest77
              case hy77 =>
                intro w hSw
                have qh := hSw
                go_simp
                try with_reducible rfl
              go_simp
              refine wpAnyH_take (i := 14) (v := ?v78) rfl (by kernel_rfl) (by kernel_rfl) (by kernel_rfl) (fun _ _ _ h => by first | exact h | exact absurd h.1 (fun e => by cases e)) (Or.inl ⟨by rfl, ?hy78⟩) (by assumption) ?rest78
              case hy78 =>
                intro w hSw
                have qh := hSw
                go_simp
                try with_reducible rfl
              go_simp
              refine wpAnyH_take (i := 15) (v := ?v79) rfl (by kernel_rfl) (by kernel_rfl) (by kernel_rfl) (fun _ _ _ h => by first | exact h | exact absurd h.1 (fun e => by cases e)) (Or.inl ⟨by rfl, ?hy79⟩) (by assumption) ?rest79
              case hy79 =>
                intro w hSw
                have qh := hSw
                go_simp
                try with_reducible rfl
              go_simp
              refine wpAnyH_take (i := 17) (v := ?v80) rfl (by kernel_rfl) (by kernel_rfl) (by kernel_rfl) (fun _ _ _ h => by first | exact h | exact absurd h.1 (fun e => by cases e)) (Or.inl ⟨by rfl, ?hy80⟩) (by assumption) ?rest80
              case hy80 =>
                intro w hSw
                have qh := hSw
                go_simp
                try with_reducible rfl
              go_simp
              refine wpAnyH_take (i := 18) (v := ?v81) rfl (by kernel_rfl) (by kernel_rfl) (by kernel_rfl) (fun _ _ _ h => by first | exact h | exact absurd h.1 (fun e => by cases e)) (Or.inl ⟨by rfl, ?hy81⟩) (by assumption) ?rest81
              case hy81 =>
                intro w hSw
                have qh := hSw
                go_simp
                try with_reducible rfl
              go_simp
              refine wpAnyH_take (i := 19) (v := ?v82) rfl (by kernel_rfl) (by kernel_rfl) (by kernel_rfl) (fun _ _ _ h => by first | exact h | exact absurd h.1 (fun e => by cases e)) (Or.inl ⟨by rfl, ?hy82⟩) (by assumption) ?rest82
              case hy82 =>
                intro w hSw
                have qh := hSw
                go_simp
                try with_reducible rfl
              go_simp
              refine wpAnyH_take (i := 20) (v := ?v83) rfl (by kernel_rfl) (by kernel_rfl) (by kernel_rfl) (fun _ _ _ h => by first | exact h | exact absurd h.1 (fun e => by cases e)) (Or.inl ⟨by rfl, ?hy83⟩) (by assumption) ?rest83
              case hy83 =>
                intro w hSw
                have qh := hSw
                go_simp
                try with_reducible rfl
              go_simp
              refine wpAnyH_take (i := 21) (v := ?v84) rfl (by kernel_rfl) (by kernel_rfl) (by kernel_rfl) (fun _ _ _ h => by first | exact h | exact absurd h.1 (fun e => by cases e)) (Or.inl ⟨by rfl, ?hy84⟩) (by assumption) ?rest84
              case hy84 =>
                intro w hSw
                have qh := hSw
                go_simp
                try with_reducible rfl
              go_simp
              refine wpAnyH_take (i := 22) (v := ?v85) rfl (by kernel_rfl) (by kernel_rfl) (by kernel_rfl) (fun _ _ _ h => by first | exact h | exact absurd h.1 (fun e => by cases e)) (Or.inl ⟨by rfl, ?hy85⟩) (by assumption) ?rest85
              case hy85 =>
                intro w hSw
                have qh := hSw
                go_simp
                try with_reducible rfl
              go_simp
              refine wpAnyH_ready (rs := [16, 23]) (by kernel_rfl) (by simp) ?_
              refine AllReadyH.cons rfl (fun K hK => ?sa) (AllReadyH.cons rfl (fun K hK => ?sb) AllReadyH.nil)
              case sa =>
                obtain ⟨ck0, ck1⟩ := HCK.out
                go_simp
                refine hK.out _ _ (hSn) (fun hSn => ?_)
                clear hK K
                go_simp
                refine wpAnyH_ready (rs := [23]) (by kernel_rfl) (by simp) ?_
                refine AllReadyH.cons rfl (fun K hK => ?_) AllReadyH.nil
                obtain ⟨ci0, ci1⟩ := HCI.out
                go_simp
                refine hK.out _ _ (hSn) (fun hSn => ?_)
                clear hK K
                go_simp
                refine wpAnyH_take (i := 24) (v := ?v86) rfl (by kernel_rfl) (by kernel_rfl) (by kernel_rfl) (fun _ _ _ h => by first | exact h | exact absurd h.1 (fun e => by cases e)) (Or.inl ⟨by rfl, ?hy86⟩) (by assumption) ?rest86
                case hy86 =>
                  intro w hSw
                  have qh := hSw
                  go_simp
                  try with_reducible rfl
                go_simp
                refine wpAnyH_ready (rs := [25]) (by kernel_rfl) (by simp) ?_
                refine AllReadyH.cons rfl (fun K hK => ?_) AllReadyH.nil
                obtain ⟨ci0, ci1⟩ := HCI.out
                obtain ⟨fi0, fi1⟩ := HFI.out
                go_simp
                refine hK.out _ _ ((HB1.out.cellAt 1)) (fun hSn => ?_)
                clear hK K
                go_simp
                refine wpAnyH_take (i := 26) (v := ?v87) rfl (by kernel_rfl) (by kernel_rfl) (by kernel_rfl) (fun _ _ _ h => by first | exact h | exact absurd h.1 (fun e => by cases e)) (Or.inl ⟨by rfl, ?hy87⟩) (by assumption) ?rest87
                case hy87 =>
                  intro w hSw
                  have qh := hSw
                  go_simp
                  try with_reducible rfl
                go_simp
                refine wpAnyH_ready (rs := [27]) (by kernel_rfl) (by simp) ?_
                refine AllReadyH.cons rfl (fun K hK => ?_) AllReadyH.nil
                obtain ⟨⟨cv0, cx0⟩, ⟨cv1, cx1⟩, fx0, fx1⟩ := HFX.out
                go_simp
                refine hK.out _ _ ((HSW.out.1.box.cellAt 1).trans (by simp [swapLI])) (fun hSn => ?_)
                clear hK K
                go_simp
                refine wpAnyH_done (by kernel_rfl) ?_ _
                exact ⟨rfl, ⟨_, _, _, _, _, _, _, _, _, _, _, _, _, _, _, _, _, _, _, _, _, _, _, _, _, _, rfl⟩, HSW.out⟩
              case sb =>
                obtain ⟨ci0, ci1⟩ := HCI.out
                go_simp
                refine hK.out _ _ (hSn) (fun hSn => ?_)
                clear hK K
                go_simp
                refine wpAnyH_ready (rs := [16]) (by kernel_rfl) (by simp) ?_
                refine AllReadyH.cons rfl (fun K hK => ?_) AllReadyH.nil
                obtain ⟨ck0, ck1⟩ := HCK.out
                go_simp
                refine hK.out _ _ (hSn) (fun hSn => ?_)
                clear hK K
                go_simp
                refine wpAnyH_take (i := 24) (v := ?v88) rfl (by kernel_rfl) (by kernel_rfl) (by kernel_rfl) (fun _ _ _ h => by first | exact h | exact absurd h.1 (fun e => by cases e)) (Or.inl ⟨by rfl, ?hy88⟩) (by assumption) ?rest88
                case hy88 =>
                  intro w hSw
                  have qh := hSw
                  go_simp
                  try with_reducible rfl
                go_simp
                refine wpAnyH_ready (rs := [25]) (by kernel_rfl) (by simp) ?_
                refine AllReadyH.cons rfl (fun K hK => ?_) AllReadyH.nil
                obtain ⟨ci0, ci1⟩ := HCI.out
                obtain ⟨fi0, fi1⟩ := HFI.out
                go_simp
                refine hK.out _ _ ((HB1.out.cellAt 1)) (fun hSn => ?_)
                clear hK K
                go_simp
                refine wpAnyH_take (i := 26) (v := ?v89) rfl (by kernel_rfl) (by kernel_rfl) (by kernel_rfl) (fun _ _ _ h => by first | exact h | exact absurd h.1 (fun e => by cases e)) (Or.inl ⟨by rfl, ?hy89⟩) (by assumption) ?rest89
                case hy89 =>
                  intro w hSw
                  have qh := hSw
                  go_simp
                  try with_reducible rfl
                go_simp
                refine wpAnyH_ready (rs := [27]) (by kernel_rfl) (by simp) ?_
                refine AllReadyH.cons rfl (fun K hK => ?_) AllReadyH.nil
                obtain ⟨⟨cv0, cx0⟩, ⟨cv1, cx1⟩, fx0, fx1⟩ := HFX.out
                go_simp
                refine hK.out _ _ ((HSW.out.1.box.cellAt 1).trans (by simp [swapLI])) (fun hSn => ?_)
                clear hK K
                go_simp
                refine wpAnyH_done (by kernel_rfl) ?_ _
                exact ⟨rfl, ⟨_, _, _, _, _, _, _, _, _, _, _, _, _, _, _, _, _, _, _, _, _, _, _, _, _, _, rfl⟩, HSW.out⟩
            · rintro a' w5 ⟨⟨u80, u81, u82, u83, u84, u85, u86, u87, u88, u89, u90, u91, u92, u93, u94, u95, u96, u97, u98, u99, u100, u101, u102, u103, u104, u105, rfl⟩, hS, kS⟩
              have HS := Lib.hid hS
              have HKS : Hid (Keeps (fun b => b = p ∨ (Value.slice (some ⟨g, 0, none⟩) l.length c).ownBlock = some b) w0 w5) := Lib.hid (HK3.out.and kS (fun b hb h => by
                obtain rfl : b = g := h
                exact .inr rfl))
              have hsl : (swapLI l2 i k ei ek).length = l2.length := by simp [swapLI]
              have HSL := Lib.hid hsl
              clear hS kS HSW HCI HCK HFI HB1 HFX a0 a1 a2 f0 f1 f2 hsl
              go_wp2_with fail
              go_roundw
              case rel => exact ⟨k, _, by omega, by first | rfl | go_num, by rw [HSL.out]; exact HL2.out, Lib.hid (HQ3.out.symm.trans HD.out), HS, HKS⟩
              case measure => simp [intOf]; omega
end Go.Proofs.Ytbfhbekocgdceaa
