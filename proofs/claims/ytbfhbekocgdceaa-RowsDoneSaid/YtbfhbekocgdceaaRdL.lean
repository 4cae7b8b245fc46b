/-
  RowsDone: the law's function is true at every bound and every script: the walk. Conditions: the list within what memory holds.
-/
import Derived.Test.YtbfhbekocgdceaaRdA
import Derived.Test.YtbfhbekocgdceaaRbL
import Derived.Test.YtbfhbekocgdceaaHcI
namespace Go.Proofs.Ytbfhbekocgdceaa
open Go.RowKit
set_option maxRecDepth 100000 in
set_option maxHeartbeats 8000000 in
theorem rowsDone_any (most : Int) (ops : List (Int × Int × Int)) (A0 : Option Addr) (cap : Nat) (w : World) (hx : OpLies w w.heap.size A0 ops) (hwf : ∀ x ∈ ops, (-9223372036854775808 ≤ x.1 ∧ x.1 ≤ 9223372036854775807) ∧ (-9223372036854775808 ≤ x.2.1 ∧ x.2.1 ≤ 9223372036854775807) ∧ (-9223372036854775808 ≤ x.2.2 ∧ x.2.2 ≤ 9223372036854775807)) (hms : -9223372036854775808 ≤ most ∧ most ≤ 9223372036854775807) :
    Calls Try.prog 8 #[.int .i64 most, .slice A0 ops.length cap] w fun e w' => e = .returned (.bool true) ∧ Below w.heap.size w w' := by
  have HX := Lib.hid hx
  have HWF := Lib.hid hwf
  clear hx hwf
  go_enter Try.func8, Try.ntmps8
  go_wp2_with fail
  refine (rworks_any w).mono ?_
  rintro e w1 ⟨rfl, k1⟩
  have K1 := Lib.hid k1
  clear k1
  by_cases hbig : 1024 < ops.length
  · have hb : (1024 : Int) < (ops.length : Int) := by omega
    go_wp2_with fail
    go_ret
    exact ⟨rfl, K1.out.below (Nat.le_refl _) (fun _ h => h.elim)⟩
  · have hob : ops.length ≤ 1024 := by omega
    have hb : ¬ (1024 : Int) < (ops.length : Int) := by omega
    clear hbig
    by_cases hneg : most < 0
    · have HN := Lib.hid (newStackP_neg most w1 hneg)
      go_wp2_with fail
      refine HN.out.mono ?_
      rintro e w' ⟨rfl, rfl⟩
      go_wp2_with fail
      go_ret
      exact ⟨rfl, K1.out.below (Nat.le_refl _) (fun _ h => h.elim)⟩
    · have HN := Lib.hid (newStackP_any most w1 (by omega))
      go_wp2_with fail
      refine HN.out.mono ?_
      rintro e w2 ⟨rfl, hst, k2⟩
      obtain ⟨sp, hsp⟩ : ∃ z, z = w1.heap.size := ⟨_, rfl⟩
      rw [← hsp] at hst ⊢
      obtain ⟨B, hB⟩ : ∃ B, B = w.heap.size := ⟨_, rfl⟩
      have hBs : B ≤ sp := by have := K1.out.size; omega
      have KB : Hid (Keeps (fun _ => False) w w2) := Lib.hid (K1.out.trans k2)
      have X2 : Hid (OpLies w2 B A0 ops) := Lib.hid (by rw [hB]; exact HX.out.keep (fun b o h => KB.out.cell h id))
      have hB2 : B ≤ w2.heap.size := by have := KB.out.size; omega
      have HB := Lib.hid hB
      have D0 : Hid (DnAt w2 w2 sp B none 0 none 0 [] 0 most) := Lib.hid (DnAt.start hst (Keeps.refl _ _) hBs (by omega))
      clear HN hst k2 hsp hB HX K1
      go_wp2_with fail
      clear hb hneg
      go_loopw [7, 8, 9] (fun v7 v8 v9 wr => ∃ (i d : Nat) (A : Option Addr) (c : Nat) (aA : Option Addr) (ac : Nat) (l : List (Int × ByteArray)), i ≤ ops.length ∧ v9 = .int .i64 i ∧ v8 = .int .i64 d ∧ v7 = .slice aA l.length ac ∧ l.length ≤ i ∧ Hid (DnAt w2 wr sp B A c aA ac l d most)) (fun _ _ v9 _ => ops.length - (intOf v9).toNat)
      case atStart => exact ⟨0, 0, none, 0, none, 0, [], by omega, rfl, rfl, rfl, Nat.le_refl _, D0⟩
      case round =>
        clear D0
        obtain ⟨i, d, A, c, aA, ac, l, hi, rfl, rfl, rfl, hli, D0⟩ := hrel
        obtain ⟨wr, rfl⟩ : ∃ x, x = wr := ⟨_, rfl⟩
        by_cases hlt : i < ops.length
        · obtain ⟨g, off, hA0, hg, c0, c1, c2⟩ := X2.out i ops[i] (List.getElem?_eq_getElem hlt)
          subst hA0
          have hk0 : ∀ o, g < w2.heap.size := fun _ => by omega
          have b0 : wr.cell? ⟨g, off + i * 3, none⟩ = some (.int .i64 ops[i].1) := (D0.out.keeps.cell (by omega) (by omega)).trans c0
          have b2 : wr.cell? ⟨g, off + i * 3 + 2, none⟩ = some (.int .i64 ops[i].2.2) := (D0.out.keeps.cell (by omega) (by omega)).trans c2
          have hgw : g < wr.heap.size := by have := D0.out.keeps.size; omega
          have d0 : ∀ o, (wr.alloc o).cell? ⟨g, off + i * 3, none⟩ = some (.int .i64 ops[i].1) := fun o => (World.cell?_alloc_lt wr o _ hgw).trans b0
          have hwn := HWF.out _ (List.getElem_mem hlt)
          clear hk0 c0 c1 c2
          generalize ops[i] = op at *
          obtain ⟨k, on, n⟩ := op
          simp only [] at b0 b2 d0 hwn
          by_cases hk0 : k = 0
          · subst hk0
            by_cases hdm : (d : Int) < most
            · skip
              go_wp2_with fail
              obtain ⟨w3, hw3⟩ : ∃ z, z = wr.alloc (.cells #[.int .i8 (IntKind.i8.wrap n), .string ⟨#[112]⟩] 49) := ⟨_, rfl⟩
              have K3 : Keeps (fun _ => False) wr w3 := by rw [hw3]; exact (Keeps.refl _ _).alloc _
              have WX : Hid (Whole w3 wr.heap.size 49 #[.int .i8 (IntKind.i8.wrap n), .string ⟨#[112]⟩]) := Lib.hid (by rw [hw3]; exact Whole.made _ _ _)
              rw [← hw3]
              have D3 := Lib.hid (D0.out.calm K3)
              have hsx : sp < wr.heap.size := D0.out.st.box.inside
              clear hw3
              have hd9 : d < 1000000000 := by have := D0.out.st.le; omega
              refine (doP_any sp c d most (IntKind.i8.wrap n, ⟨#[112]⟩) A l w3 D3.out.st hd9 (by omega)).mono ?_
              rintro e w4 ⟨rfl, A4, c4, hst, hk4, hor⟩
              have hxb : ¬ (wr.heap.size = sp ∨ (Value.slice A l.length c).ownBlock = some wr.heap.size) := fun h => by
                rcases h with h | h
                · omega
                · have := (D0.out.st.own.lt _ h).2; omega
              have WX4 : Hid (Whole w4 wr.heap.size 49 #[.int .i8 (IntKind.i8.wrap n), .string ⟨#[112]⟩]) := Lib.hid (WX.out.keeps hk4 hxb)
              have x0 := WX4.out.cellAt 0
              have x1 := WX4.out.cellAt 1
              simp at x0 x1
              have hdmd : decide ((d : Int) < most) = true := decide_eq_true hdm
              have hrow0 : w4.ownsRow B 49 2 (.slice aA l.length ac) l.length (flat prC l) := own_keepsS D3.out.row hk4 (fun b hb h => by
                rcases h with h | h
                · exact D3.out.nsp (h ▸ hb)
                · exact D3.out.dis b h hb)
              have hrow1 := own_prefixN hrow0 D3.out.st.le
              rw [← flat_take prC_length] at hrow1
              have HROW := Lib.hid hrow1
              have hB4 : B ≤ w4.heap.size := by have := D3.out.low; have := hst.box.inside; omega
              have HST := Lib.hid hst
              have HK4 := Lib.hid hk4
              have HOR := Lib.hid hor
              have haad := D3.out.aad
              have hdac : d ≤ ac := by have := haad.1; have := D3.out.st.le; omega
              have hdacI : (d : Int) ≤ (ac : Int) := by omega
              have HXB3 : Hid (∀ b, (Value.slice aA l.length ac).ownBlock = some b → b < wr.heap.size) := Lib.hid (fun b h => (D0.out.row.lt b h).2)
              clear hrow0 hrow1 hst hk4 hor WX K3 D0
              obtain ⟨xb, hxbe⟩ : ∃ z, z = wr.heap.size := ⟨_, rfl⟩
              rw [← hxbe] at WX4 HXB3 x0 x1 ⊢
              clear hxbe hxb hsx
              rcases haad.2 with ⟨ha, hac, hl0⟩ | ⟨ga, ha⟩
              · subst ha
                obtain rfl : d = 0 := by have := D3.out.st.le; omega
                subst hac
                have hdmd0 : decide ((0 : Int) < most) = true := decide_eq_true (by omega)
                clear haad
                go_wp2_with fail
                refine region_cut (fun a a' w' => (∃ u63 u64 u65 u66 u67 u68 u7 : Value, a' = (((((((a.put (some 63) u63).put (some 64) u64).put (some 65) u65).put (some 66) u66).put (some 67) u67).put (some 68) u68).put (some 7) u7) ∧ ∃ l9, l9.length = 0 + 1 ∧ ∃ aA2 ac2, u7 = .slice aA2 l9.length ac2 ∧ DnAt w2 w' sp B A4 c4 aA2 ac2 l9 (0 + 1) most)) ?_ ?_
                · have HF : ∀ W, Keeps (fun _ => False) w4 W → W.cell? ⟨xb, 0, none⟩ = some (.int .i8 (IntKind.i8.wrap n)) ∧ W.cell? ⟨xb, 1, none⟩ = some (.string ⟨#[112]⟩) := fun W hW => ⟨(WX4.out.keeps hW id).cellAt 0, (WX4.out.keeps hW id).cellAt 1⟩
                  clear x0 x1
                  refine wp_region_held_drew (S := fun W => W.cell? ⟨xb, 0, none⟩ = some (.int .i8 (IntKind.i8.wrap n)) ∧ W.cell? ⟨xb, 1, none⟩ = some (.string ⟨#[112]⟩)) (by kernel_rfl) (HF _ (Keeps.refl _ w4).drew) ?_
                  intro hSn
                  refine wpAnyH_take (i := 0) (v := ?v1) rfl (by kernel_rfl) (by kernel_rfl) (by kernel_rfl) (fun _ _ _ h => by first | exact h | exact absurd h.1 (fun e => by cases e)) (Or.inl ⟨by rfl, ?hy1⟩) (by assumption) ?rest1
                  case hy1 =>
                    intro w hSw
                    obtain ⟨x0, x1⟩ := hSw
                    go_simp
                    try with_reducible rfl
                  go_simp
                  refine wpAnyH_take (i := 1) (v := ?v2) rfl (by kernel_rfl) (by kernel_rfl) (by kernel_rfl) (fun _ _ _ h => by first | exact h | exact absurd h.1 (fun e => by cases e)) (Or.inl ⟨by rfl, ?hy2⟩) (by assumption) ?rest2
                  case hy2 =>
                    intro w hSw
                    obtain ⟨x0, x1⟩ := hSw
                    go_simp
                    try with_reducible rfl
                  go_simp
                  refine wpAnyH_take (i := 2) (v := ?v3) rfl (by kernel_rfl) (by kernel_rfl) (by kernel_rfl) (fun _ _ _ h => by first | exact h | exact absurd h.1 (fun e => by cases e)) (Or.inl ⟨by rfl, ?hy3⟩) (by assumption) ?rest3
                  case hy3 =>
                    intro w hSw
                    obtain ⟨x0, x1⟩ := hSw
                    go_simp
                    try with_reducible rfl
                  go_simp
                  refine wpAnyH_take (i := 3) (v := ?v4) rfl (by kernel_rfl) (by kernel_rfl) (by kernel_rfl) (fun _ _ _ h => by first | exact h | exact absurd h.1 (fun e => by cases e)) (Or.inl ⟨by rfl, ?hy4⟩) (by assumption) ?rest4
                  case hy4 =>
                    intro w hSw
                    obtain ⟨x0, x1⟩ := hSw
                    go_simp
                    try with_reducible rfl
                  go_simp
                  refine wpAnyH_ready (rs := [4]) (by kernel_rfl) (by simp) ?_
                  refine AllReadyH.cons rfl (fun K hK => ?_) AllReadyH.nil
                  go_simp
                  refine hK.out _ _ (HF _ ((Keeps.refl _ w4).drew.alloc _)) (fun hSn => ?_)
                  clear hK K
                  go_simp
                  refine wpAnyH_ready (rs := [5]) (by kernel_rfl) (by simp) ?_
                  refine AllReadyH.cons rfl (fun K hK => ?_) AllReadyH.nil
                  refine step_if (by rfl) ?_
                  refine wp_append_cells _ _ _ 43 rfl B 49 (.agg #[.int .i8 0, .string ⟨#[]⟩]) 2 24 Try.underlying43 info_cP rfl (by decide) (.slice none 0 0) 0 (flat prC (l.take 0)) rfl (HROW.out.alloc _) (w4.heap.size + 1) (some ⟨w4.heap.size, 0, none⟩) 1 1 [.int .i8 (IntKind.i8.wrap n), .string ⟨#[112]⟩] rfl (Lies.row (t := 49) (fr := (0, 0)) (heap_alloc_new _ _) (Nat.lt_succ_self _)) rfl (one_pairs2 (IntKind.i8.wrap n, ⟨#[112]⟩)) (by simp only [maxLen]; omega) (by omega) (by show B ≤ (World.alloc _ _).heap.size; simp; omega) ?_
                  intro aA2 ac2 w5 own2 hg2 hor2 _ _
                  have D5 := Lib.hid (D3.out.did (x := (IntKind.i8.wrap n, ⟨#[112]⟩)) hdm HST.out HK4.out HOR.out own2 hg2 hor2)
                  have hx5 : ¬ (Value.slice none 0 0).ownBlock = some xb := fun h => by cases h
                  have W5 : Whole w5 xb 49 #[.int .i8 (IntKind.i8.wrap n), .string ⟨#[112]⟩] := WX4.out.keeps ((((Keeps.refl (fun b => (Value.slice none 0 0).ownBlock = some b) w4).drew).alloc _).grown hg2 (fun b hb _ => hb)) hx5
                  clear own2 hg2 hor2
                  refine hK.out _ _ (⟨W5.cellAt 0, W5.cellAt 1⟩) (fun hSn => ?_)
                  clear hK K
                  go_simp
                  refine wpAnyH_take (i := 6) (v := ?v5) rfl (by kernel_rfl) (by kernel_rfl) (by kernel_rfl) (fun _ _ _ h => by first | exact h | exact absurd h.1 (fun e => by cases e)) (Or.inl ⟨by rfl, ?hy5⟩) (by assumption) ?rest5
                  case hy5 =>
                    intro w hSw
                    obtain ⟨x0, x1⟩ := hSw
                    go_simp
                    try with_reducible rfl
                  go_simp
                  refine wpAnyH_done (by kernel_rfl) ?_ _
                  have hll : (l.take 0 ++ [((IntKind.i8.wrap n, ⟨#[112]⟩) : Int × ByteArray)]).length = 0 + 1 := by have := D3.out.st.le; simp <;> omega
                  exact ⟨rfl, _, _, _, _, _, _, _, rfl, l.take 0 ++ [(IntKind.i8.wrap n, ⟨#[112]⟩)], hll, aA2, ac2, by rw [hll], D5.out⟩
                · rintro a' w6 ⟨u63, u64, u65, u66, u67, u68, u7, rfl, l9, hl9, aA2, ac2, rfl, hD6⟩
                  obtain ⟨d9, hd9e⟩ : ∃ z, z = 0 + 1 := ⟨_, rfl⟩
                  rw [← hd9e] at hl9 hD6
                  have D9 := Lib.hid hD6
                  have hdl : 0 ≤ l.length := D3.out.st.le
                  have hdI : (1 : Int) = (d9 : Int) := by omega
                  have HDI := Lib.hid hdI
                  have HD9 := Lib.hid hd9e
                  have HL9 := Lib.hid hl9
                  clear hD6 x0 x1 HROW HST HK4 HOR WX4 hdmd D3 hdI hd9e hl9
                  go_wp2_with fail
                  rw [HDI.out]
                  have hl9b : l9.length ≤ i + 1 := by have h1 := HD9.out; have h2 := HL9.out; omega
                  clear HDI HD9 HL9
                  refine (lenP_stack sp c4 d9 most A4 l9 w6 D9.out.st (by omega)).mono ?_
                  rintro e v1 ⟨rfl, kv1⟩
                  have D1 := Lib.hid (D9.out.calm kv1)
                  have hle := D1.out.st.le
                  have htop := D1.out.top
                  have hw1 : IntKind.i64.wrap (((l9).length : Int) - ((d9 : Nat) : Int)) = ((l9).length : Int) - ((d9 : Nat) : Int) := by rw [IntKind.wrap_i64]; omega
                  have hw2 : IntKind.i64.wrap (((d9 : Nat) : Int) + (((l9).length : Int) - ((d9 : Nat) : Int))) = ((d9 : Nat) : Int) + (((l9).length : Int) - ((d9 : Nat) : Int)) := by rw [IntKind.wrap_i64]; omega
                  have hgt : ¬ (most < ((d9 : Nat) : Int) + (((l9).length : Int) - ((d9 : Nat) : Int))) := by omega
                  have hgd : decide (most < ((d9 : Nat) : Int) + (((l9).length : Int) - ((d9 : Nat) : Int))) = false := decide_eq_false hgt
                  have haac : d9 ≤ ac2 := by have := D1.out.aad.1; omega
                  have haacI : ((d9 : Nat) : Int) ≤ (ac2 : Int) := by omega
                  have hdn : Hid (∀ W, Keeps (fun _ => False) v1 W → Calls Try.prog 52 #[.pointer (some ⟨sp, 0, none⟩)] W fun e w' => ∃ A' c', e = .returned (.slice A' d9 c') ∧ PrLies w' w'.heap.size A' ((l9).take d9) ∧ Keeps (fun _ => False) W w') := Lib.hid (fun W hW => (doneP_any sp c4 d9 most A4 l9 W (D1.out.calm hW).st (by omega)).mono (fun e w' h => by
                    obtain ⟨A', c', he, hm⟩ := h
                    have h1 : ((l9).take d9).length = d9 := by rw [List.length_take]; omega
                    rw [h1] at he
                    exact ⟨A', c', he, hm.later (Keeps.refl _ _), hm.keeps⟩))
                  have HSP : Hid (∀ (A' : Option Addr) (c' : Nat) (W1 W2 : World), Keeps (fun _ => False) v1 W1 → PrLies W1 W1.heap.size A' ((l9).take d9) → Calls Try.prog 51 #[.slice A' d9 c', .slice aA2 d9 ac2] W1 fun e w' => e = .returned (.bool true) ∧ Keeps (fun _ => False) W1 w') := Lib.hid (fun A' c' W1 W2 hW hl => by
                    have h1 : ((l9).take d9).length = d9 := by rw [List.length_take]; omega
                    have h2 : PrLies W1 W1.heap.size aA2 ((l9).take d9) := fun j y hy => by
                      rw [List.getElem?_take] at hy
                      split at hy
                      · exact (D1.out.calm hW).lies j y hy
                      · cases hy
                    have h3 := samePairs_eq ((l9).take d9) A' aA2 W1.heap.size W1.heap.size c' ac2 W1 hl h2 (by omega)
                    rw [h1] at h3
                    exact h3)
                  clear kv1 hgt hle htop
                  go_wp2_with fail
                  refine wp_region_held_drew (S := fun W => Keeps (fun _ => False) v1 W) (by kernel_rfl) ((Keeps.refl _ v1).drew) ?_
                  intro hSn
                  refine wpAnyH_take (i := 0) (v := ?v6) rfl (by kernel_rfl) (by kernel_rfl) (by kernel_rfl) (fun _ _ _ h => by first | exact h | exact absurd h.1 (fun e => by cases e)) (Or.inl ⟨by rfl, ?hy6⟩) (by assumption) ?rest6
                  case hy6 =>
                    intro w hSw
                    skip
                    go_simp
                    try with_reducible rfl
                  go_simp
                  refine wpAnyH_take (i := 1) (v := ?v7) rfl (by kernel_rfl) (by kernel_rfl) (by kernel_rfl) (fun _ _ _ h => by first | exact h | exact absurd h.1 (fun e => by cases e)) (Or.inl ⟨by rfl, ?hy7⟩) (by assumption) ?rest7
                  case hy7 =>
                    intro w hSw
                    skip
                    go_simp
                    try with_reducible rfl
                  go_simp
                  refine wpAnyH_take (i := 2) (v := ?v8) rfl (by kernel_rfl) (by kernel_rfl) (by kernel_rfl) (fun _ _ _ h => by first | exact h | exact absurd h.1 (fun e => by cases e)) (Or.inl ⟨by rfl, ?hy8⟩) (by assumption) ?rest8
                  case hy8 =>
                    intro w hSw
                    skip
                    go_simp
                    try with_reducible rfl
                  go_simp
                  refine wpAnyH_take (i := 3) (v := ?v9) rfl (by kernel_rfl) (by kernel_rfl) (by kernel_rfl) (fun _ _ _ h => by first | exact h | exact absurd h.1 (fun e => by cases e)) (Or.inl ⟨by rfl, ?hy9⟩) (by assumption) ?rest9
                  case hy9 =>
                    intro w hSw
                    skip
                    go_simp
                    try with_reducible rfl
                  go_simp
                  refine wpAnyH_take (i := 4) (v := ?v10) rfl (by kernel_rfl) (by kernel_rfl) (by kernel_rfl) (fun _ _ _ h => by first | exact h | exact absurd h.1 (fun e => by cases e)) (Or.inl ⟨by rfl, ?hy10⟩) (by assumption) ?rest10
                  case hy10 =>
                    intro w hSw
                    skip
                    go_simp
                    try with_reducible rfl
                  go_simp
                  refine wpAnyH_take (i := 5) (v := ?v11) rfl (by kernel_rfl) (by kernel_rfl) (by kernel_rfl) (fun _ _ _ h => by first | exact h | exact absurd h.1 (fun e => by cases e)) (Or.inl ⟨by rfl, ?hy11⟩) (by assumption) ?rest11
                  case hy11 =>
                    intro w hSw
                    skip
                    go_simp
                    try with_reducible rfl
                  go_simp
                  refine wpAnyH_take (i := 6) (v := ?v12) rfl (by kernel_rfl) (by kernel_rfl) (by kernel_rfl) (fun _ _ _ h => by first | exact h | exact absurd h.1 (fun e => by cases e)) (Or.inl ⟨by rfl, ?hy12⟩) (by assumption) ?rest12
                  case hy12 =>
                    intro w hSw
                    skip
                    go_simp
                    try with_reducible rfl
                  go_simp
                  refine wpAnyH_take (i := 7) (v := ?v13) rfl (by kernel_rfl) (by kernel_rfl) (by kernel_rfl) (fun _ _ _ h => by first | exact h | exact absurd h.1 (fun e => by cases e)) (Or.inl ⟨by rfl, ?hy13⟩) (by assumption) ?rest13
                  case hy13 =>
                    intro w hSw
                    skip
                    go_simp
                    try with_reducible rfl
                  go_simp
                  refine wpAnyH_take (i := 8) (v := ?v14) rfl (by kernel_rfl) (by kernel_rfl) (by kernel_rfl) (fun _ _ _ h => by first | exact h | exact absurd h.1 (fun e => by cases e)) (Or.inl ⟨by rfl, ?hy14⟩) (by assumption) ?rest14
                  case hy14 =>
                    intro w hSw
                    skip
                    go_simp
                    try with_reducible rfl
                  go_simp
                  refine wpAnyH_take (i := 9) (v := ?v15) rfl (by kernel_rfl) (by kernel_rfl) (by kernel_rfl) (fun _ _ _ h => by first | exact h | exact absurd h.1 (fun e => by cases e)) (Or.inl ⟨by rfl, ?hy15⟩) (by assumption) ?rest15
                  case hy15 =>
                    intro w hSw
                    skip
                    go_simp
                    try with_reducible rfl
                  go_simp
                  refine wpAnyH_take (i := 10) (v := ?v16) rfl (by kernel_rfl) (by kernel_rfl) (by kernel_rfl) (fun _ _ _ h => by first | exact h | exact absurd h.1 (fun e => by cases e)) (Or.inl ⟨by rfl, ?hy16⟩) (by assumption) ?rest16
                  case hy16 =>
                    intro w hSw
                    skip
                    go_simp
                    try with_reducible rfl
                  go_simp
                  refine wpAnyH_take (i := 11) (v := ?v17) rfl (by kernel_rfl) (by kernel_rfl) (by kernel_rfl) (fun _ _ _ h => by first | exact h | exact absurd h.1 (fun e => by cases e)) (Or.inl ⟨by rfl, ?hy17⟩) (by assumption) ?rest17
                  case hy17 =>
                    intro w hSw
                    skip
                    go_simp
                    try with_reducible rfl
                  go_simp
                  refine wpAnyH_take (i := 12) (v := ?v18) rfl (by kernel_rfl) (by kernel_rfl) (by kernel_rfl) (fun _ _ _ h => by first | exact h | exact absurd h.1 (fun e => by cases e)) (Or.inl ⟨by rfl, ?hy18⟩) (by assumption) ?rest18
                  case hy18 =>
                    intro w hSw
                    skip
                    go_simp
                    try with_reducible rfl
                  go_simp
                  refine wpAnyH_take (i := 13) (v := ?v19) rfl (by kernel_rfl) (by kernel_rfl) (by kernel_rfl) (fun _ _ _ h => by first | exact h | exact absurd h.1 (fun e => by cases e)) (Or.inl ⟨by rfl, ?hy19⟩) (by assumption) ?rest19
                  case hy19 =>
                    intro w hSw
                    skip
                    go_simp
                    try with_reducible rfl
                  go_simp
                  refine wpAnyH_take (i := 14) (v := ?v20) rfl (by kernel_rfl) (by kernel_rfl) (by kernel_rfl) (fun _ _ _ h => by first | exact h | exact absurd h.1 (fun e => by cases e)) (Or.inl ⟨by rfl, ?hy20⟩) (by assumption) ?rest20
                  case hy20 =>
                    intro w hSw
                    skip
                    go_simp
                    try with_reducible rfl
                  go_simp
                  refine wpAnyH_take (i := 15) (v := ?v21) rfl (by kernel_rfl) (by kernel_rfl) (by kernel_rfl) (fun _ _ _ h => by first | exact h | exact absurd h.1 (fun e => by cases e)) (Or.inl ⟨by rfl, ?hy21⟩) (by assumption) ?rest21
                  case hy21 =>
                    intro w hSw
                    skip
                    go_simp
                    try with_reducible rfl
                  go_simp
                  refine wpAnyH_take (i := 16) (v := ?v22) rfl (by kernel_rfl) (by kernel_rfl) (by kernel_rfl) (fun _ _ _ h => by first | exact h | exact absurd h.1 (fun e => by cases e)) (Or.inl ⟨by rfl, ?hy22⟩) (by assumption) ?rest22
                  case hy22 =>
                    intro w hSw
                    skip
                    go_simp
                    try with_reducible rfl
                  go_simp
                  refine wpAnyH_take (i := 17) (v := ?v23) rfl (by kernel_rfl) (by kernel_rfl) (by kernel_rfl) (fun _ _ _ h => by first | exact h | exact absurd h.1 (fun e => by cases e)) (Or.inl ⟨by rfl, ?hy23⟩) (by assumption) ?rest23
                  case hy23 =>
                    intro w hSw
                    skip
                    go_simp
                    try with_reducible rfl
                  go_simp
                  refine wpAnyH_take (i := 18) (v := undef) rfl (by kernel_rfl) (by kernel_rfl) (by kernel_rfl) (fun _ _ _ h => by first | exact h | exact absurd h.1 (fun e => by cases e)) (Or.inr ⟨by rfl, rfl⟩) (by assumption) ?rest24
                  go_simp
                  refine wpAnyH_take (i := 19) (v := undef) rfl (by kernel_rfl) (by kernel_rfl) (by kernel_rfl) (fun _ _ _ h => by first | exact h | exact absurd h.1 (fun e => by cases e)) (Or.inr ⟨by rfl, rfl⟩) (by assumption) ?rest25
                  go_simp
                  refine wpAnyH_take (i := 20) (v := undef) rfl (by kernel_rfl) (by kernel_rfl) (by kernel_rfl) (fun _ _ _ h => by first | exact h | exact absurd h.1 (fun e => by cases e)) (Or.inr ⟨by rfl, rfl⟩) (by assumption) ?rest26
                  go_simp
                  refine wpAnyH_take (i := 21) (v := undef) rfl (by kernel_rfl) (by kernel_rfl) (by kernel_rfl) (fun _ _ _ h => by first | exact h | exact absurd h.1 (fun e => by cases e)) (Or.inr ⟨by rfl, rfl⟩) (by assumption) ?rest27
                  go_simp
                  refine wpAnyH_take (i := 22) (v := ?v28) rfl (by kernel_rfl) (by kernel_rfl) (by kernel_rfl) (fun _ _ _ h => by first | exact h | exact absurd h.1 (fun e => by cases e)) (Or.inl ⟨by rfl, ?hy28⟩) (by assumption) ?rest28
                  case hy28 =>
                    intro w hSw
                    skip
                    go_simp
                    try with_reducible rfl
                  go_simp
                  refine wpAnyH_take (i := 23) (v := ?v29) rfl (by kernel_rfl) (by kernel_rfl) (by kernel_rfl) (fun _ _ _ h => by first | exact h | exact absurd h.1 (fun e => by cases e)) (Or.inl ⟨by rfl, ?hy29⟩) (by assumption) ?rest29
                  case hy29 =>
                    intro w hSw
                    skip
                    go_simp
                    try with_reducible rfl
                  go_simp
                  refine wpAnyH_take (i := 24) (v := ?v30) rfl (by kernel_rfl) (by kernel_rfl) (by kernel_rfl) (fun _ _ _ h => by first | exact h | exact absurd h.1 (fun e => by cases e)) (Or.inl ⟨by rfl, ?hy30⟩) (by assumption) ?rest30
                  case hy30 =>
                    intro w hSw
                    skip
                    go_simp
                    try with_reducible rfl
                  go_simp
                  refine wpAnyH_take (i := 25) (v := ?v31) rfl (by kernel_rfl) (by kernel_rfl) (by kernel_rfl) (fun _ _ _ h => by first | exact h | exact absurd h.1 (fun e => by cases e)) (Or.inl ⟨by rfl, ?hy31⟩) (by assumption) ?rest31
                  case hy31 =>
                    intro w hSw
                    skip
                    go_simp
                    try with_reducible rfl
                  go_simp
                  refine wpAnyH_take (i := 27) (v := ?v32) rfl (by kernel_rfl) (by kernel_rfl) (by kernel_rfl) (fun _ _ _ h => by first | exact h | exact absurd h.1 (fun e => by cases e)) (Or.inl ⟨by rfl, ?hy32⟩) (by assumption) ?rest32
                  case hy32 =>
                    intro w hSw
                    skip
                    go_simp
                    try with_reducible rfl
                  go_simp
                  refine wpAnyH_take (i := 28) (v := ?v33) rfl (by kernel_rfl) (by kernel_rfl) (by kernel_rfl) (fun _ _ _ h => by first | exact h | exact absurd h.1 (fun e => by cases e)) (Or.inl ⟨by rfl, ?hy33⟩) (by assumption) ?rest33
                  case hy33 =>
                    intro w hSw
                    skip
                    go_simp
                    try with_reducible rfl
                  go_simp
                  refine wpAnyH_take (i := 29) (v := ?v34) rfl (by kernel_rfl) (by kernel_rfl) (by kernel_rfl) (fun _ _ _ h => by first | exact h | exact absurd h.1 (fun e => by cases e)) (Or.inl ⟨by rfl, ?hy34⟩) (by assumption) ?rest34
                  case hy34 =>
                    intro w hSw
                    skip
                    go_simp
                    try with_reducible rfl
                  go_simp
                  refine wpAnyH_ready (rs := [26]) (by kernel_rfl) (by simp) ?_
                  refine AllReadyH.cons rfl (fun K hK => ?_) AllReadyH.nil
                  go_simp
                  refine (hdn.out _ hSn).mono ?_
                  rintro e v2 ⟨A8, c8, rfl, hl8, k8⟩
                  have hl8k := hSn.trans k8
                  refine hK.out _ _ (hSn.trans k8) (fun hSn => ?_)
                  clear hK K
                  go_simp
                  refine wpAnyH_ready (rs := [30]) (by kernel_rfl) (by simp) ?_
                  refine AllReadyH.cons rfl (fun K hK => ?_) AllReadyH.nil
                  go_simp
                  refine (HSP.out A8 c8 v2 v2 hl8k hl8).mono ?_
                  rintro e v3 ⟨rfl, k9⟩
                  refine hK.out _ _ (hSn.trans k9) (fun hSn => ?_)
                  clear hK K
                  go_simp
                  refine wpAnyH_take (i := 31) (v := ?v35) rfl (by kernel_rfl) (by kernel_rfl) (by kernel_rfl) (fun _ _ _ h => by first | exact h | exact absurd h.1 (fun e => by cases e)) (Or.inl ⟨by rfl, ?hy35⟩) (by assumption) ?rest35
                  case hy35 =>
                    intro w hSw
                    skip
                    go_simp
                    try with_reducible rfl
                  go_simp
                  refine wpAnyH_take (i := 32) (v := ?v36) rfl (by kernel_rfl) (by kernel_rfl) (by kernel_rfl) (fun _ _ _ h => by first | exact h | exact absurd h.1 (fun e => by cases e)) (Or.inl ⟨by rfl, ?hy36⟩) (by assumption) ?rest36
                  case hy36 =>
                    intro w hSw
                    skip
                    go_simp
                    try with_reducible rfl
                  go_simp
                  refine wpAnyH_done (by kernel_rfl) ?_ _
                  have D2 := Lib.hid (D1.out.calm hSn)
                  clear hSn hl8 hl8k k8 k9 hdn HSP hw1 hw2 hgd haacI
                  go_simp
                  go_wp2_with fail
                  go_roundw
                  case rel => exact ⟨i + 1, d9, A4, c4, aA2, ac2, l9, by omega, by go_num, by first | rfl | go_num, rfl, (by omega), D2⟩
                  case measure => simp [intOf]; omega
              · subst ha
                clear haad
                have XBNO : Hid (¬ ga = xb) := Lib.hid (fun h => by have h1 : (Value.slice (some ⟨ga, 0, none⟩) l.length ac).ownBlock = some ga := rfl; have := HXB3.out ga h1; omega)
                go_wp2_with fail
                refine region_cut (fun a a' w' => (∃ u63 u64 u65 u66 u67 u68 u7 : Value, a' = (((((((a.put (some 63) u63).put (some 64) u64).put (some 65) u65).put (some 66) u66).put (some 67) u67).put (some 68) u68).put (some 7) u7) ∧ ∃ l9, l9.length = d + 1 ∧ ∃ aA2 ac2, u7 = .slice aA2 l9.length ac2 ∧ DnAt w2 w' sp B A4 c4 aA2 ac2 l9 (d + 1) most)) ?_ ?_
                · have HF : ∀ W, Keeps (fun _ => False) w4 W → W.cell? ⟨xb, 0, none⟩ = some (.int .i8 (IntKind.i8.wrap n)) ∧ W.cell? ⟨xb, 1, none⟩ = some (.string ⟨#[112]⟩) := fun W hW => ⟨(WX4.out.keeps hW id).cellAt 0, (WX4.out.keeps hW id).cellAt 1⟩
                  clear x0 x1
                  refine wp_region_held_drew (S := fun W => W.cell? ⟨xb, 0, none⟩ = some (.int .i8 (IntKind.i8.wrap n)) ∧ W.cell? ⟨xb, 1, none⟩ = some (.string ⟨#[112]⟩)) (by kernel_rfl) (HF _ (Keeps.refl _ w4).drew) ?_
                  intro hSn
                  refine wpAnyH_take (i := 0) (v := ?v37) rfl (by kernel_rfl) (by kernel_rfl) (by kernel_rfl) (fun _ _ _ h => by first | exact h | exact absurd h.1 (fun e => by cases e)) (Or.inl ⟨by rfl, ?hy37⟩) (by assumption) ?rest37
                  case hy37 =>
                    intro w hSw
                    obtain ⟨x0, x1⟩ := hSw
                    go_simp
                    try with_reducible rfl
                  go_simp
                  refine wpAnyH_take (i := 1) (v := ?v38) rfl (by kernel_rfl) (by kernel_rfl) (by kernel_rfl) (fun _ _ _ h => by first | exact h | exact absurd h.1 (fun e => by cases e)) (Or.inl ⟨by rfl, ?hy38⟩) (by assumption) ?rest38
                  case hy38 =>
                    intro w hSw
                    obtain ⟨x0, x1⟩ := hSw
                    go_simp
                    try with_reducible rfl
                  go_simp
                  refine wpAnyH_take (i := 2) (v := ?v39) rfl (by kernel_rfl) (by kernel_rfl) (by kernel_rfl) (fun _ _ _ h => by first | exact h | exact absurd h.1 (fun e => by cases e)) (Or.inl ⟨by rfl, ?hy39⟩) (by assumption) ?rest39
                  case hy39 =>
                    intro w hSw
                    obtain ⟨x0, x1⟩ := hSw
                    go_simp
                    try with_reducible rfl
                  go_simp
                  refine wpAnyH_take (i := 3) (v := ?v40) rfl (by kernel_rfl) (by kernel_rfl) (by kernel_rfl) (fun _ _ _ h => by first | exact h | exact absurd h.1 (fun e => by cases e)) (Or.inl ⟨by rfl, ?hy40⟩) (by assumption) ?rest40
                  case hy40 =>
                    intro w hSw
                    obtain ⟨x0, x1⟩ := hSw
                    go_simp
                    try with_reducible rfl
                  go_simp
                  refine wpAnyH_ready (rs := [4]) (by kernel_rfl) (by simp) ?_
                  refine AllReadyH.cons rfl (fun K hK => ?_) AllReadyH.nil
                  go_simp
                  refine hK.out _ _ (HF _ ((Keeps.refl _ w4).drew.alloc _)) (fun hSn => ?_)
                  clear hK K
                  go_simp
                  refine wpAnyH_ready (rs := [5]) (by kernel_rfl) (by simp) ?_
                  refine AllReadyH.cons rfl (fun K hK => ?_) AllReadyH.nil
                  refine step_if (by rfl) ?_
                  refine wp_append_cells _ _ _ 43 rfl B 49 (.agg #[.int .i8 0, .string ⟨#[]⟩]) 2 24 Try.underlying43 info_cP rfl (by decide) (.slice (some ⟨ga, 0, none⟩) d ac) d (flat prC (l.take d)) rfl (HROW.out.alloc _) (w4.heap.size + 1) (some ⟨w4.heap.size, 0, none⟩) 1 1 [.int .i8 (IntKind.i8.wrap n), .string ⟨#[112]⟩] rfl (Lies.row (t := 49) (fr := (0, 0)) (heap_alloc_new _ _) (Nat.lt_succ_self _)) rfl (one_pairs2 (IntKind.i8.wrap n, ⟨#[112]⟩)) (by simp only [maxLen]; omega) (by omega) (by show B ≤ (World.alloc _ _).heap.size; simp; omega) ?_
                  intro aA2 ac2 w5 own2 hg2 hor2 _ _
                  have D5 := Lib.hid (D3.out.did (x := (IntKind.i8.wrap n, ⟨#[112]⟩)) hdm HST.out HK4.out HOR.out own2 hg2 hor2)
                  have hx5 : ¬ (Value.slice (some ⟨ga, 0, none⟩) d ac).ownBlock = some xb := fun h => XBNO.out (by injection h)
                  have W5 : Whole w5 xb 49 #[.int .i8 (IntKind.i8.wrap n), .string ⟨#[112]⟩] := WX4.out.keeps ((((Keeps.refl (fun b => (Value.slice (some ⟨ga, 0, none⟩) d ac).ownBlock = some b) w4).drew).alloc _).grown hg2 (fun b hb _ => hb)) hx5
                  clear own2 hg2 hor2
                  refine hK.out _ _ (⟨W5.cellAt 0, W5.cellAt 1⟩) (fun hSn => ?_)
                  clear hK K
                  go_simp
                  refine wpAnyH_take (i := 6) (v := ?v41) rfl (by kernel_rfl) (by kernel_rfl) (by kernel_rfl) (fun _ _ _ h => by first | exact h | exact absurd h.1 (fun e => by cases e)) (Or.inl ⟨by rfl, ?hy41⟩) (by assumption) ?rest41
                  case hy41 =>
                    intro w hSw
                    obtain ⟨x0, x1⟩ := hSw
                    go_simp
                    try with_reducible rfl
                  go_simp
                  refine wpAnyH_done (by kernel_rfl) ?_ _
                  have hll : (l.take d ++ [((IntKind.i8.wrap n, ⟨#[112]⟩) : Int × ByteArray)]).length = d + 1 := by have := D3.out.st.le; simp <;> omega
                  exact ⟨rfl, _, _, _, _, _, _, _, rfl, l.take d ++ [(IntKind.i8.wrap n, ⟨#[112]⟩)], hll, aA2, ac2, by rw [hll], D5.out⟩
                · rintro a' w6 ⟨u63, u64, u65, u66, u67, u68, u7, rfl, l9, hl9, aA2, ac2, rfl, hD6⟩
                  obtain ⟨d9, hd9e⟩ : ∃ z, z = d + 1 := ⟨_, rfl⟩
                  rw [← hd9e] at hl9 hD6
                  have D9 := Lib.hid hD6
                  have hdl : d ≤ l.length := D3.out.st.le
                  have hdI : ((d : Int) + 1) = (d9 : Int) := by omega
                  have HDI := Lib.hid hdI
                  have HD9 := Lib.hid hd9e
                  have HL9 := Lib.hid hl9
                  clear hD6 x0 x1 HROW HST HK4 HOR WX4 hdmd D3 hdI hd9e hl9
                  go_wp2_with fail
                  rw [HDI.out]
                  have hl9b : l9.length ≤ i + 1 := by have h1 := HD9.out; have h2 := HL9.out; omega
                  clear HDI HD9 HL9
                  refine (lenP_stack sp c4 d9 most A4 l9 w6 D9.out.st (by omega)).mono ?_
                  rintro e v1 ⟨rfl, kv1⟩
                  have D1 := Lib.hid (D9.out.calm kv1)
                  have hle := D1.out.st.le
                  have htop := D1.out.top
                  have hw1 : IntKind.i64.wrap (((l9).length : Int) - ((d9 : Nat) : Int)) = ((l9).length : Int) - ((d9 : Nat) : Int) := by rw [IntKind.wrap_i64]; omega
                  have hw2 : IntKind.i64.wrap (((d9 : Nat) : Int) + (((l9).length : Int) - ((d9 : Nat) : Int))) = ((d9 : Nat) : Int) + (((l9).length : Int) - ((d9 : Nat) : Int)) := by rw [IntKind.wrap_i64]; omega
                  have hgt : ¬ (most < ((d9 : Nat) : Int) + (((l9).length : Int) - ((d9 : Nat) : Int))) := by omega
                  have hgd : decide (most < ((d9 : Nat) : Int) + (((l9).length : Int) - ((d9 : Nat) : Int))) = false := decide_eq_false hgt
                  have haac : d9 ≤ ac2 := by have := D1.out.aad.1; omega
                  have haacI : ((d9 : Nat) : Int) ≤ (ac2 : Int) := by omega
                  have hdn : Hid (∀ W, Keeps (fun _ => False) v1 W → Calls Try.prog 52 #[.pointer (some ⟨sp, 0, none⟩)] W fun e w' => ∃ A' c', e = .returned (.slice A' d9 c') ∧ PrLies w' w'.heap.size A' ((l9).take d9) ∧ Keeps (fun _ => False) W w') := Lib.hid (fun W hW => (doneP_any sp c4 d9 most A4 l9 W (D1.out.calm hW).st (by omega)).mono (fun e w' h => by
                    obtain ⟨A', c', he, hm⟩ := h
                    have h1 : ((l9).take d9).length = d9 := by rw [List.length_take]; omega
                    rw [h1] at he
                    exact ⟨A', c', he, hm.later (Keeps.refl _ _), hm.keeps⟩))
                  have HSP : Hid (∀ (A' : Option Addr) (c' : Nat) (W1 W2 : World), Keeps (fun _ => False) v1 W1 → PrLies W1 W1.heap.size A' ((l9).take d9) → Calls Try.prog 51 #[.slice A' d9 c', .slice aA2 d9 ac2] W1 fun e w' => e = .returned (.bool true) ∧ Keeps (fun _ => False) W1 w') := Lib.hid (fun A' c' W1 W2 hW hl => by
                    have h1 : ((l9).take d9).length = d9 := by rw [List.length_take]; omega
                    have h2 : PrLies W1 W1.heap.size aA2 ((l9).take d9) := fun j y hy => by
                      rw [List.getElem?_take] at hy
                      split at hy
                      · exact (D1.out.calm hW).lies j y hy
                      · cases hy
                    have h3 := samePairs_eq ((l9).take d9) A' aA2 W1.heap.size W1.heap.size c' ac2 W1 hl h2 (by omega)
                    rw [h1] at h3
                    exact h3)
                  clear kv1 hgt hle htop
                  go_wp2_with fail
                  refine wp_region_held_drew (S := fun W => Keeps (fun _ => False) v1 W) (by kernel_rfl) ((Keeps.refl _ v1).drew) ?_
                  intro hSn
                  refine wpAnyH_take (i := 0) (v := ?v42) rfl (by kernel_rfl) (by kernel_rfl) (by kernel_rfl) (fun _ _ _ h => by first | exact h | exact absurd h.1 (fun e => by cases e)) (Or.inl ⟨by rfl, ?hy42⟩) (by assumption) ?rest42
                  case hy42 =>
                    intro w hSw
                    skip
                    go_simp
                    try with_reducible rfl
                  go_simp
                  refine wpAnyH_take (i := 1) (v := ?v43) rfl (by kernel_rfl) (by kernel_rfl) (by kernel_rfl) (fun _ _ _ h => by first | exact h | exact absurd h.1 (fun e => by cases e)) (Or.inl ⟨by rfl, ?hy43⟩) (by assumption) ?rest43
                  case hy43 =>
                    intro w hSw
                    skip
                    go_simp
                    try with_reducible rfl
                  go_simp
                  refine wpAnyH_take (i := 2) (v := ?v44) rfl (by kernel_rfl) (by kernel_rfl) (by kernel_rfl) (fun _ _ _ h => by first | exact h | exact absurd h.1 (fun e => by cases e)) (Or.inl ⟨by rfl, ?hy44⟩) (by assumption) ?rest44
                  case hy44 =>
                    intro w hSw
                    skip
                    go_simp
                    try with_reducible rfl
                  go_simp
                  refine wpAnyH_take (i := 3) (v := ?v45) rfl (by kernel_rfl) (by kernel_rfl) (by kernel_rfl) (fun _ _ _ h => by first | exact h | exact absurd h.1 (fun e => by cases e)) (Or.inl ⟨by rfl, ?hy45⟩) (by assumption) ?rest45
                  case hy45 =>
                    intro w hSw
                    skip
                    go_simp
                    try with_reducible rfl
                  go_simp
                  refine wpAnyH_take (i := 4) (v := ?v46) rfl (by kernel_rfl) (by kernel_rfl) (by kernel_rfl) (fun _ _ _ h => by first | exact h | exact absurd h.1 (fun e => by cases e)) (Or.inl ⟨by rfl, ?hy46⟩) (by assumption) ?rest46
                  case hy46 =>
                    intro w hSw
                    skip
                    go_simp
                    try with_reducible rfl
                  go_simp
                  refine wpAnyH_take (i := 5) (v := ?v47) rfl (by kernel_rfl) (by kernel_rfl) (by kernel_rfl) (fun _ _ _ h => by first | exact h | exact absurd h.1 (fun e => by cases e)) (Or.inl ⟨by rfl, ?hy47⟩) (by assumption) ?rest47
                  case hy47 =>
                    intro w hSw
                    skip
                    go_simp
                    try with_reducible rfl
                  go_simp
                  refine wpAnyH_take (i := 6) (v := ?v48) rfl (by kernel_rfl) (by kernel_rfl) (by kernel_rfl) (fun _ _ _ h => by first | exact h | exact absurd h.1 (fun e => by cases e)) (Or.inl ⟨by rfl, ?hy48⟩) (by assumption) ?rest48
                  case hy48 =>
                    intro w hSw
                    skip
                    go_simp
                    try with_reducible rfl
                  go_simp
                  refine wpAnyH_take (i := 7) (v := ?v49) rfl (by kernel_rfl) (by kernel_rfl) (by kernel_rfl) (fun _ _ _ h => by first | exact h | exact absurd h.1 (fun e => by cases e)) (Or.inl ⟨by rfl, ?hy49⟩) (by assumption) ?rest49
                  case hy49 =>
                    intro w hSw
                    skip
                    go_simp
                    try with_reducible rfl
                  go_simp
                  refine wpAnyH_take (i := 8) (v := ?v50) rfl (by kernel_rfl) (by kernel_rfl) (by kernel_rfl) (fun _ _ _ h => by first | exact h | exact absurd h.1 (fun e => by cases e)) (Or.inl ⟨by rfl, ?hy50⟩) (by assumption) ?rest50
                  case hy50 =>
                    intro w hSw
                    skip
                    go_simp
                    try with_reducible rfl
                  go_simp
                  refine wpAnyH_take (i := 9) (v := ?v51) rfl (by kernel_rfl) (by kernel_rfl) (by kernel_rfl) (fun _ _ _ h => by first | exact h | exact absurd h.1 (fun e => by cases e)) (Or.inl ⟨by rfl, ?hy51⟩) (by assumption) ?rest51
                  case hy51 =>
                    intro w hSw
                    skip
                    go_simp
                    try with_reducible rfl
                  go_simp
                  refine wpAnyH_take (i := 10) (v := ?v52) rfl (by kernel_rfl) (by kernel_rfl) (by kernel_rfl) (fun _ _ _ h => by first | exact h | exact absurd h.1 (fun e => by cases e)) (Or.inl ⟨by rfl, ?hy52⟩) (by assumption) ?rest52
                  case hy52 =>
                    intro w hSw
                    skip
                    go_simp
                    try with_reducible rfl
                  go_simp
                  refine wpAnyH_take (i := 11) (v := ?v53) rfl (by kernel_rfl) (by kernel_rfl) (by kernel_rfl) (fun _ _ _ h => by first | exact h | exact absurd h.1 (fun e => by cases e)) (Or.inl ⟨by rfl, ?hy53⟩) (by assumption) ?rest53
                  case hy53 =>
                    intro w hSw
                    skip
                    go_simp
                    try with_reducible rfl
                  go_simp
                  refine wpAnyH_take (i := 12) (v := ?v54) rfl (by kernel_rfl) (by kernel_rfl) (by kernel_rfl) (fun _ _ _ h => by first | exact h | exact absurd h.1 (fun e => by cases e)) (Or.inl ⟨by rfl, ?hy54⟩) (by assumption) ?rest54
                  case hy54 =>
                    intro w hSw
                    skip
                    go_simp
                    try with_reducible rfl
                  go_simp
                  refine wpAnyH_take (i := 13) (v := ?v55) rfl (by kernel_rfl) (by kernel_rfl) (by kernel_rfl) (fun _ _ _ h => by first | exact h | exact absurd h.1 (fun e => by cases e)) (Or.inl ⟨by rfl, ?hy55⟩) (by assumption) ?rest55
                  case hy55 =>
                    intro w hSw
                    skip
                    go_simp
                    try with_reducible rfl
                  go_simp
                  refine wpAnyH_take (i := 14) (v := ?v56) rfl (by kernel_rfl) (by kernel_rfl) (by kernel_rfl) (fun _ _ _ h => by first | exact h | exact absurd h.1 (fun e => by cases e)) (Or.inl ⟨by rfl, ?hy56⟩) (by assumption) ?rest56
                  case hy56 =>
                    intro w hSw
                    skip
                    go_simp
                    try with_reducible rfl
                  go_simp
                  refine wpAnyH_take (i := 15) (v := ?v57) rfl (by kernel_rfl) (by kernel_rfl) (by kernel_rfl) (fun _ _ _ h => by first | exact h | exact absurd h.1 (fun e => by cases e)) (Or.inl ⟨by rfl, ?hy57⟩) (by assumption) ?rest57
                  case hy57 =>
                    intro w hSw
                    skip
                    go_simp
                    try with_reducible rfl
                  go_simp
                  refine wpAnyH_take (i := 16) (v := ?v58) rfl (by kernel_rfl) (by kernel_rfl) (by kernel_rfl) (fun _ _ _ h => by first | exact h | exact absurd h.1 (fun e => by cases e)) (Or.inl ⟨by rfl, ?hy58⟩) (by assumption) ?rest58
                  case hy58 =>
                    intro w hSw
                    skip
                    go_simp
                    try with_reducible rfl
                  go_simp
                  refine wpAnyH_take (i := 17) (v := ?v59) rfl (by kernel_rfl) (by kernel_rfl) (by kernel_rfl) (fun _ _ _ h => by first | exact h | exact absurd h.1 (fun e => by cases e)) (Or.inl ⟨by rfl, ?hy59⟩) (by assumption) ?rest59
                  case hy59 =>
                    intro w hSw
                    skip
                    go_simp
                    try with_reducible rfl
                  go_simp
                  refine wpAnyH_take (i := 18) (v := undef) rfl (by kernel_rfl) (by kernel_rfl) (by kernel_rfl) (fun _ _ _ h => by first | exact h | exact absurd h.1 (fun e => by cases e)) (Or.inr ⟨by rfl, rfl⟩) (by assumption) ?rest60
                  go_simp
                  refine wpAnyH_take (i := 19) (v := undef) rfl (by kernel_rfl) (by kernel_rfl) (by kernel_rfl) (fun _ _ _ h => by first | exact h | exact absurd h.1 (fun e => by cases e)) (Or.inr ⟨by rfl, rfl⟩) (by assumption) ?rest61
                  go_simp
                  refine wpAnyH_take (i := 20) (v := undef) rfl (by kernel_rfl) (by kernel_rfl) (by kernel_rfl) (fun _ _ _ h => by first | exact h | exact absurd h.1 (fun e => by cases e)) (Or.inr ⟨by rfl, rfl⟩) (by assumption) ?rest62
                  go_simp
                  refine wpAnyH_take (i := 21) (v := undef) rfl (by kernel_rfl) (by kernel_rfl) (by kernel_rfl) (fun _ _ _ h => by first | exact h | exact absurd h.1 (fun e => by cases e)) (Or.inr ⟨by rfl, rfl⟩) (by assumption) ?rest63
                  go_simp
                  refine wpAnyH_take (i := 22) (v := ?v64) rfl (by kernel_rfl) (by kernel_rfl) (by kernel_rfl) (fun _ _ _ h => by first | exact h | exact absurd h.1 (fun e => by cases e)) (Or.inl ⟨by rfl, ?hy64⟩) (by assumption) ?rest64
                  case hy64 =>
                    intro w hSw
                    skip
                    go_simp
                    try with_reducible rfl
                  go_simp
                  refine wpAnyH_take (i := 23) (v := ?v65) rfl (by kernel_rfl) (by kernel_rfl) (by kernel_rfl) (fun _ _ _ h => by first | exact h | exact absurd h.1 (fun e => by cases e)) (Or.inl ⟨by rfl, ?hy65⟩) (by assumption) ?rest65
                  case hy65 =>
                    intro w hSw
                    skip
                    go_simp
                    try with_reducible rfl
                  go_simp
                  refine wpAnyH_take (i := 24) (v := ?v66) rfl (by kernel_rfl) (by kernel_rfl) (by kernel_rfl) (fun _ _ _ h => by first | exact h | exact absurd h.1 (fun e => by cases e)) (Or.inl ⟨by rfl, ?hy66⟩) (by assumption) ?rest66
                  case hy66 =>
                    intro w hSw
                    skip
                    go_simp
                    try with_reducible rfl
                  go_simp
                  refine wpAnyH_take (i := 25) (v := ?v67) rfl (by kernel_rfl) (by kernel_rfl) (by kernel_rfl) (fun _ _ _ h => by first | exact h | exact absurd h.1 (fun e => by cases e)) (Or.inl ⟨by rfl, ?hy67⟩) (by assumption) ?rest67
                  case hy67 =>
                    intro w hSw
                    skip
                    go_simp
                    try with_reducible rfl
                  go_simp
                  refine wpAnyH_take (i := 27) (v := ?v68) rfl (by kernel_rfl) (by kernel_rfl) (by kernel_rfl) (fun _ _ _ h => by first | exact h | exact absurd h.1 (fun e => by cases e)) (Or.inl ⟨by rfl, ?hy68⟩) (by assumption) ?rest68
                  case hy68 =>
                    intro w hSw
                    skip
                    go_simp
                    try with_reducible rfl
                  go_simp
                  refine wpAnyH_take (i := 28) (v := ?v69) rfl (by kernel_rfl) (by kernel_rfl) (by kernel_rfl) (fun _ _ _ h => by first | exact h | exact absurd h.1 (fun e => by cases e)) (Or.inl ⟨by rfl, ?hy69⟩) (by assumption) ?rest69
                  case hy69 =>
                    intro w hSw
                    skip
                    go_simp
                    try with_reducible rfl
                  go_simp
                  refine wpAnyH_take (i := 29) (v := ?v70) rfl (by kernel_rfl) (by kernel_rfl) (by kernel_rfl) (fun _ _ _ h => by first | exact h | exact absurd h.1 (fun e => by cases e)) (Or.inl ⟨by rfl, ?hy70⟩) (by assumption) ?rest70
                  case hy70 =>
                    intro w hSw
                    skip
                    go_simp
                    try with_reducible rfl
                  go_simp
                  refine wpAnyH_ready (rs := [26]) (by kernel_rfl) (by simp) ?_
                  refine AllReadyH.cons rfl (fun K hK => ?_) AllReadyH.nil
                  go_simp
                  refine (hdn.out _ hSn).mono ?_
                  rintro e v2 ⟨A8, c8, rfl, hl8, k8⟩
                  have hl8k := hSn.trans k8
                  refine hK.out _ _ (hSn.trans k8) (fun hSn => ?_)
                  clear hK K
                  go_simp
                  refine wpAnyH_ready (rs := [30]) (by kernel_rfl) (by simp) ?_
                  refine AllReadyH.cons rfl (fun K hK => ?_) AllReadyH.nil
                  go_simp
                  refine (HSP.out A8 c8 v2 v2 hl8k hl8).mono ?_
                  rintro e v3 ⟨rfl, k9⟩
                  refine hK.out _ _ (hSn.trans k9) (fun hSn => ?_)
                  clear hK K
                  go_simp
                  refine wpAnyH_take (i := 31) (v := ?v71) rfl (by kernel_rfl) (by kernel_rfl) (by kernel_rfl) (fun _ _ _ h => by first | exact h | exact absurd h.1 (fun e => by cases e)) (Or.inl ⟨by rfl, ?hy71⟩) (by assumption) ?rest71
                  case hy71 =>
                    intro w hSw
                    skip
                    go_simp
                    try with_reducible rfl
                  go_simp
                  refine wpAnyH_take (i := 32) (v := ?v72) rfl (by kernel_rfl) (by kernel_rfl) (by kernel_rfl) (fun _ _ _ h => by first | exact h | exact absurd h.1 (fun e => by cases e)) (Or.inl ⟨by rfl, ?hy72⟩) (by assumption) ?rest72
                  case hy72 =>
                    intro w hSw
                    skip
                    go_simp
                    try with_reducible rfl
                  go_simp
                  refine wpAnyH_done (by kernel_rfl) ?_ _
                  have D2 := Lib.hid (D1.out.calm hSn)
                  clear hSn hl8 hl8k k8 k9 hdn HSP hw1 hw2 hgd haacI
                  go_simp
                  go_wp2_with fail
                  go_roundw
                  case rel => exact ⟨i + 1, d9, A4, c4, aA2, ac2, l9, by omega, by go_num, by first | rfl | go_num, rfl, (by omega), D2⟩
                  case measure => simp [intOf]; omega
            · have hdmd : decide ((d : Int) < most) = false := decide_eq_false hdm
              go_wp2_with fail
              obtain ⟨w3, hw3⟩ : ∃ z, z = wr.alloc (.cells #[.int .i8 (IntKind.i8.wrap n), .string ⟨#[112]⟩] 49) := ⟨_, rfl⟩
              have K3 : Keeps (fun _ => False) wr w3 := by rw [hw3]; exact (Keeps.refl _ _).alloc _
              have WX : Hid (Whole w3 wr.heap.size 49 #[.int .i8 (IntKind.i8.wrap n), .string ⟨#[112]⟩]) := Lib.hid (by rw [hw3]; exact Whole.made _ _ _)
              rw [← hw3]
              have D3 := Lib.hid (D0.out.calm K3)
              have hsx : sp < wr.heap.size := D0.out.st.box.inside
              clear hw3
              obtain rfl : most = (d : Int) := by have := D0.out.top; have := D0.out.st.le; omega
              refine (doP_full sp c d (IntKind.i8.wrap n, ⟨#[112]⟩) A l w3 D3.out.st).mono ?_
              rintro e w4 ⟨rfl, k4⟩
              have D4 := Lib.hid (D3.out.calm k4)
              clear K3 k4 D3 D0 WX hdm
              go_wp2_with fail
              refine (lenP_stack sp c d (d : Int) A l w4 D4.out.st (by omega)).mono ?_
              rintro e v1 ⟨rfl, kv1⟩
              have D1 := Lib.hid (D4.out.calm kv1)
              have hle := D1.out.st.le
              have htop := D1.out.top
              have hw1 : IntKind.i64.wrap (((l).length : Int) - ((d : Nat) : Int)) = ((l).length : Int) - ((d : Nat) : Int) := by rw [IntKind.wrap_i64]; omega
              have hw2 : IntKind.i64.wrap (((d : Nat) : Int) + (((l).length : Int) - ((d : Nat) : Int))) = ((d : Nat) : Int) + (((l).length : Int) - ((d : Nat) : Int)) := by rw [IntKind.wrap_i64]; omega
              have hgt : ¬ ((d : Int) < ((d : Nat) : Int) + (((l).length : Int) - ((d : Nat) : Int))) := by omega
              have hgd : decide ((d : Int) < ((d : Nat) : Int) + (((l).length : Int) - ((d : Nat) : Int))) = false := decide_eq_false hgt
              have haac : d ≤ ac := by have := D1.out.aad.1; omega
              have haacI : ((d : Nat) : Int) ≤ (ac : Int) := by omega
              have hdn : Hid (∀ W, Keeps (fun _ => False) v1 W → Calls Try.prog 52 #[.pointer (some ⟨sp, 0, none⟩)] W fun e w' => ∃ A' c', e = .returned (.slice A' d c') ∧ PrLies w' w'.heap.size A' ((l).take d) ∧ Keeps (fun _ => False) W w') := Lib.hid (fun W hW => (doneP_any sp c d (d : Int) A l W (D1.out.calm hW).st (by omega)).mono (fun e w' h => by
                obtain ⟨A', c', he, hm⟩ := h
                have h1 : ((l).take d).length = d := by rw [List.length_take]; omega
                rw [h1] at he
                exact ⟨A', c', he, hm.later (Keeps.refl _ _), hm.keeps⟩))
              have HSP : Hid (∀ (A' : Option Addr) (c' : Nat) (W1 W2 : World), Keeps (fun _ => False) v1 W1 → PrLies W1 W1.heap.size A' ((l).take d) → Calls Try.prog 51 #[.slice A' d c', .slice aA d ac] W1 fun e w' => e = .returned (.bool true) ∧ Keeps (fun _ => False) W1 w') := Lib.hid (fun A' c' W1 W2 hW hl => by
                have h1 : ((l).take d).length = d := by rw [List.length_take]; omega
                have h2 : PrLies W1 W1.heap.size aA ((l).take d) := fun j y hy => by
                  rw [List.getElem?_take] at hy
                  split at hy
                  · exact (D1.out.calm hW).lies j y hy
                  · cases hy
                have h3 := samePairs_eq ((l).take d) A' aA W1.heap.size W1.heap.size c' ac W1 hl h2 (by omega)
                rw [h1] at h3
                exact h3)
              clear kv1 hgt hle htop
              go_wp2_with fail
              refine wp_region_held_drew (S := fun W => Keeps (fun _ => False) v1 W) (by kernel_rfl) ((Keeps.refl _ v1).drew) ?_
              intro hSn
              refine wpAnyH_take (i := 0) (v := ?v73) rfl (by kernel_rfl) (by kernel_rfl) (by kernel_rfl) (fun _ _ _ h => by first | exact h | exact absurd h.1 (fun e => by cases e)) (Or.inl ⟨by rfl, ?hy73⟩) (by assumption) ?rest73
              case hy73 =>
                intro w hSw
                skip
                go_simp
                try with_reducible rfl
              go_simp
              refine wpAnyH_take (i := 1) (v := ?v74) rfl (by kernel_rfl) (by kernel_rfl) (by kernel_rfl) (fun _ _ _ h => by first | exact h | exact absurd h.1 (fun e => by cases e)) (Or.inl ⟨by rfl, ?hy74⟩) (by assumption) ?rest74
              case hy74 =>
                intro w hSw
                skip
                go_simp
                try with_reducible rfl
              go_simp
              refine wpAnyH_take (i := 2) (v := ?v75) rfl (by kernel_rfl) (by kernel_rfl) (by kernel_rfl) (fun _ _ _ h => by first | exact h | exact absurd h.1 (fun e => by cases e)) (Or.inl ⟨by rfl, ?hy75⟩) (by assumption) ?rest75
              case hy75 =>
                intro w hSw
                skip
                go_simp
                try with_reducible rfl
              go_simp
              refine wpAnyH_take (i := 3) (v := ?v76) rfl (by kernel_rfl) (by kernel_rfl) (by kernel_rfl) (fun _ _ _ h => by first | exact h | exact absurd h.1 (fun e => by cases e)) (Or.inl ⟨by rfl, ?hy76⟩) (by assumption) ?rest76
              case hy76 =>
                intro w hSw
                skip
                go_simp
                try with_reducible rfl
              go_simp
              refine wpAnyH_take (i := 4) (v := ?v77) rfl (by kernel_rfl) (by kernel_rfl) (by kernel_rfl) (fun _ _ _ h => by first | exact h | exact absurd h.1 (fun e => by cases e)) (Or.inl ⟨by rfl, ?hy77⟩) (by assumption) ?rest77
              case hy77 =>
                intro w hSw
                skip
                go_simp
                try with_reducible rfl
              go_simp
              refine wpAnyH_take (i := 5) (v := ?v78) rfl (by kernel_rfl) (by kernel_rfl) (by kernel_rfl) (fun _ _ _ h => by first | exact h | exact absurd h.1 (fun e => by cases e)) (Or.inl ⟨by rfl, ?hy78⟩) (by assumption) ?rest78
              case hy78 =>
                intro w hSw
                skip
                go_simp
                try with_reducible rfl
              go_simp
              refine wpAnyH_take (i := 6) (v := ?v79) rfl (by kernel_rfl) (by kernel_rfl) (by kernel_rfl) (fun _ _ _ h => by first | exact h | exact absurd h.1 (fun e => by cases e)) (Or.inl ⟨by rfl, ?hy79⟩) (by assumption) ?rest79
              case hy79 =>
                intro w hSw
                skip
                go_simp
                try with_reducible rfl
              go_simp
              refine wpAnyH_take (i := 7) (v := ?v80) rfl (by kernel_rfl) (by kernel_rfl) (by kernel_rfl) (fun _ _ _ h => by first | exact h | exact absurd h.1 (fun e => by cases e)) (Or.inl ⟨by rfl, ?hy80⟩) (by assumption) ?rest80
              case hy80 =>
                intro w hSw
                skip
                go_simp
                try with_reducible rfl
              go_simp
              refine wpAnyH_take (i := 8) (v := ?v81) rfl (by kernel_rfl) (by kernel_rfl) (by kernel_rfl) (fun _ _ _ h => by first | exact h | exact absurd h.1 (fun e => by cases e)) (Or.inl ⟨by rfl, ?hy81⟩) (by assumption) ?rest81
              case hy81 =>
                intro w hSw
                skip
                go_simp
                try with_reducible rfl
              go_simp
              refine wpAnyH_take (i := 9) (v := ?v82) rfl (by kernel_rfl) (by kernel_rfl) (by kernel_rfl) (fun _ _ _ h => by first | exact h | exact absurd h.1 (fun e => by cases e)) (Or.inl ⟨by rfl, ?hy82⟩) (by assumption) ?rest82
              case hy82 =>
                intro w hSw
                skip
                go_simp
                try with_reducible rfl
              go_simp
              refine wpAnyH_take (i := 10) (v := ?v83) rfl (by kernel_rfl) (by kernel_rfl) (by kernel_rfl) (fun _ _ _ h => by first | exact h | exact absurd h.1 (fun e => by cases e)) (Or.inl ⟨by rfl, ?hy83⟩) (by assumption) ?rest83
              case hy83 =>
                intro w hSw
                skip
                go_simp
                try with_reducible rfl
              go_simp
              refine wpAnyH_take (i := 11) (v := ?v84) rfl (by kernel_rfl) (by kernel_rfl) (by kernel_rfl) (fun _ _ _ h => by first | exact h | exact absurd h.1 (fun e => by cases e)) (Or.inl ⟨by rfl, ?hy84⟩) (by assumption) ?rest84
              case hy84 =>
                intro w hSw
                skip
                go_simp
                try with_reducible rfl
              go_simp
              refine wpAnyH_take (i := 12) (v := ?v85) rfl (by kernel_rfl) (by kernel_rfl) (by kernel_rfl) (fun _ _ _ h => by first | exact h | exact absurd h.1 (fun e => by cases e)) (Or.inl ⟨by rfl, ?hy85⟩) (by assumption) ?rest85
              case hy85 =>
                intro w hSw
                skip
                go_simp
                try with_reducible rfl
              go_simp
              refine wpAnyH_take (i := 13) (v := ?v86) rfl (by kernel_rfl) (by kernel_rfl) (by kernel_rfl) (fun _ _ _ h => by first | exact h | exact absurd h.1 (fun e => by cases e)) (Or.inl ⟨by rfl, ?hy86⟩) (by assumption) ?rest86
              case hy86 =>
                intro w hSw
                skip
                go_simp
                try with_reducible rfl
              go_simp
              refine wpAnyH_take (i := 14) (v := ?v87) rfl (by kernel_rfl) (by kernel_rfl) (by kernel_rfl) (fun _ _ _ h => by first | exact h | exact absurd h.1 (fun e => by cases e)) (Or.inl ⟨by rfl, ?hy87⟩) (by assumption) ?rest87
              case hy87 =>
                intro w hSw
                skip
                go_simp
                try with_reducible rfl
              go_simp
              refine wpAnyH_take (i := 15) (v := ?v88) rfl (by kernel_rfl) (by kernel_rfl) (by kernel_rfl) (fun _ _ _ h => by first | exact h | exact absurd h.1 (fun e => by cases e)) (Or.inl ⟨by rfl, ?hy88⟩) (by assumption) ?rest88
              case hy88 =>
                intro w hSw
                skip
                go_simp
                try with_reducible rfl
              go_simp
              refine wpAnyH_take (i := 16) (v := ?v89) rfl (by kernel_rfl) (by kernel_rfl) (by kernel_rfl) (fun _ _ _ h => by first | exact h | exact absurd h.1 (fun e => by cases e)) (Or.inl ⟨by rfl, ?hy89⟩) (by assumption) ?rest89
              case hy89 =>
                intro w hSw
                skip
                go_simp
                try with_reducible rfl
              go_simp
              refine wpAnyH_take (i := 17) (v := ?v90) rfl (by kernel_rfl) (by kernel_rfl) (by kernel_rfl) (fun _ _ _ h => by first | exact h | exact absurd h.1 (fun e => by cases e)) (Or.inl ⟨by rfl, ?hy90⟩) (by assumption) ?rest90
              case hy90 =>
                intro w hSw
                skip
                go_simp
                try with_reducible rfl
              go_simp
              refine wpAnyH_take (i := 18) (v := undef) rfl (by kernel_rfl) (by kernel_rfl) (by kernel_rfl) (fun _ _ _ h => by first | exact h | exact absurd h.1 (fun e => by cases e)) (Or.inr ⟨by rfl, rfl⟩) (by assumption) ?rest91
              go_simp
              refine wpAnyH_take (i := 19) (v := undef) rfl (by kernel_rfl) (by kernel_rfl) (by kernel_rfl) (fun _ _ _ h => by first | exact h | exact absurd h.1 (fun e => by cases e)) (Or.inr ⟨by rfl, rfl⟩) (by assumption) ?rest92
              go_simp
              refine wpAnyH_take (i := 20) (v := undef) rfl (by kernel_rfl) (by kernel_rfl) (by kernel_rfl) (fun _ _ _ h => by first | exact h | exact absurd h.1 (fun e => by cases e)) (Or.inr ⟨by rfl, rfl⟩) (by assumption) ?rest93
              go_simp
              refine wpAnyH_take (i := 21) (v := undef) rfl (by kernel_rfl) (by kernel_rfl) (by kernel_rfl) (fun _ _ _ h => by first | exact h | exact absurd h.1 (fun e => by cases e)) (Or.inr ⟨by rfl, rfl⟩) (by assumption) ?rest94
              go_simp
              refine wpAnyH_take (i := 22) (v := ?v95) rfl (by kernel_rfl) (by kernel_rfl) (by kernel_rfl) (fun _ _ _ h => by first | exact h | exact absurd h.1 (fun e => by cases e)) (Or.inl ⟨by rfl, ?hy95⟩) (by assumption) ?rest95
              case hy95 =>
                intro w hSw
                skip
                go_simp
                try with_reducible rfl
              go_simp
              refine wpAnyH_take (i := 23) (v := ?v96) rfl (by kernel_rfl) (by kernel_rfl) (by kernel_rfl) (fun _ _ _ h => by first | exact h | exact absurd h.1 (fun e => by cases e)) (Or.inl ⟨by rfl, ?hy96⟩) (by assumption) ?rest96
              case hy96 =>
                intro w hSw
                skip
                go_simp
                try with_reducible rfl
              go_simp
              refine wpAnyH_take (i := 24) (v := ?v97) rfl (by kernel_rfl) (by kernel_rfl) (by kernel_rfl) (fun _ _ _ h => by first | exact h | exact absurd h.1 (fun e => by cases e)) (Or.inl ⟨by rfl, ?hy97⟩) (by assumption) ?rest97
              case hy97 =>
                intro w hSw
                skip
                go_simp
                try with_reducible rfl
              go_simp
              refine wpAnyH_take (i := 25) (v := ?v98) rfl (by kernel_rfl) (by kernel_rfl) (by kernel_rfl) (fun _ _ _ h => by first | exact h | exact absurd h.1 (fun e => by cases e)) (Or.inl ⟨by rfl, ?hy98⟩) (by assumption) ?rest98
              case hy98 =>
                intro w hSw
                skip
                go_simp
                try with_reducible rfl
              go_simp
              refine wpAnyH_take (i := 27) (v := ?v99) rfl (by kernel_rfl) (by kernel_rfl) (by kernel_rfl) (fun _ _ _ h => by first | exact h | exact absurd h.1 (fun e => by cases e)) (Or.inl ⟨by rfl, ?hy99⟩) (by assumption) ?rest99
              case hy99 =>
                intro w hSw
                skip
                go_simp
                try with_reducible rfl
              go_simp
              refine wpAnyH_take (i := 28) (v := ?v100) rfl (by kernel_rfl) (by kernel_rfl) (by kernel_rfl) (fun _ _ _ h => by first | exact h | exact absurd h.1 (fun e => by cases e)) (Or.inl ⟨by rfl, ?hy100⟩) (by assumption) ?rest100
              case hy100 =>
                intro w hSw
                skip
                go_simp
                try with_reducible rfl
              go_simp
              refine wpAnyH_take (i := 29) (v := ?v101) rfl (by kernel_rfl) (by kernel_rfl) (by kernel_rfl) (fun _ _ _ h => by first | exact h | exact absurd h.1 (fun e => by cases e)) (Or.inl ⟨by rfl, ?hy101⟩) (by assumption) ?rest101
              case hy101 =>
                intro w hSw
                skip
                go_simp
                try with_reducible rfl
              go_simp
              refine wpAnyH_ready (rs := [26]) (by kernel_rfl) (by simp) ?_
              refine AllReadyH.cons rfl (fun K hK => ?_) AllReadyH.nil
              go_simp
              refine (hdn.out _ hSn).mono ?_
              rintro e v2 ⟨A8, c8, rfl, hl8, k8⟩
              have hl8k := hSn.trans k8
              refine hK.out _ _ (hSn.trans k8) (fun hSn => ?_)
              clear hK K
              go_simp
              refine wpAnyH_ready (rs := [30]) (by kernel_rfl) (by simp) ?_
              refine AllReadyH.cons rfl (fun K hK => ?_) AllReadyH.nil
              go_simp
              refine (HSP.out A8 c8 v2 v2 hl8k hl8).mono ?_
              rintro e v3 ⟨rfl, k9⟩
              refine hK.out _ _ (hSn.trans k9) (fun hSn => ?_)
              clear hK K
              go_simp
              refine wpAnyH_take (i := 31) (v := ?v102) rfl (by kernel_rfl) (by kernel_rfl) (by kernel_rfl) (fun _ _ _ h => by first | exact h | exact absurd h.1 (fun e => by cases e)) (Or.inl ⟨by rfl, ?hy102⟩) (by assumption) ?rest102
              case hy102 =>
                intro w hSw
                skip
                go_simp
                try with_reducible rfl
              go_simp
              refine wpAnyH_take (i := 32) (v := ?v103) rfl (by kernel_rfl) (by kernel_rfl) (by kernel_rfl) (fun _ _ _ h => by first | exact h | exact absurd h.1 (fun e => by cases e)) (Or.inl ⟨by rfl, ?hy103⟩) (by assumption) ?rest103
              case hy103 =>
                intro w hSw
                skip
                go_simp
                try with_reducible rfl
              go_simp
              refine wpAnyH_done (by kernel_rfl) ?_ _
              have D2 := Lib.hid (D1.out.calm hSn)
              clear hSn hl8 hl8k k8 k9 hdn HSP hw1 hw2 hgd haacI
              go_simp
              go_wp2_with fail
              go_roundw
              case rel => exact ⟨i + 1, d, A, c, aA, ac, l, by omega, by go_num, by first | rfl | go_num, rfl, (by omega), D2⟩
              case measure => simp [intOf]; omega
          · have e0 : decide (k = 0) = false := decide_eq_false hk0
            by_cases hk1 : k = 1
            · skip
              subst hk1
              have hdle := D0.out.st.le
              rcases Nat.eq_zero_or_pos d with hd0 | hd0
              · have hz1 : decide ((0 : Int) < (d : Int)) = false := decide_eq_false (by omega)
                have hz2 : decide (0 < d) = false := decide_eq_false (by omega)
                have HD0 := Lib.hid hd0
                clear hd0
                go_wp2_with fail
                obtain ⟨w3, hw3⟩ : ∃ z, z = wr.alloc (.cells #[.int .i8 (IntKind.i8.wrap n), .string ⟨#[112]⟩] 49) := ⟨_, rfl⟩
                have K3 : Keeps (fun _ => False) wr w3 := by rw [hw3]; exact (Keeps.refl _ _).alloc _
                have WX : Hid (Whole w3 wr.heap.size 49 #[.int .i8 (IntKind.i8.wrap n), .string ⟨#[112]⟩]) := Lib.hid (by rw [hw3]; exact Whole.made _ _ _)
                rw [← hw3]
                have D3 := Lib.hid (D0.out.calm K3)
                have hsx : sp < wr.heap.size := D0.out.st.box.inside
                clear hw3
                refine (undoP_none sp c d most A l w3 D3.out.st HD0.out).mono ?_
                rintro e w4 ⟨rfl, k4⟩
                have D4 := Lib.hid (D3.out.calm k4)
                clear K3 k4 D3 D0 WX b0 b2 d0
                go_wp2_with fail
                obtain ⟨w5, hw5⟩ : ∃ z, z = w4.alloc (.cells #[.int .i8 0, .string ⟨#[]⟩] 49) := ⟨_, rfl⟩
                have K5 : Keeps (fun _ => False) w4 w5 := by rw [hw5]; exact (Keeps.refl _ _).alloc _
                have WY : Hid (Whole w5 w4.heap.size 49 #[.int .i8 0, .string ⟨#[]⟩]) := Lib.hid (by rw [hw5]; exact Whole.made _ _ _)
                rw [← hw5]
                have D5 := Lib.hid (D4.out.calm K5)
                obtain ⟨yb, hyb⟩ : ∃ z, z = w4.heap.size := ⟨_, rfl⟩
                rw [← hyb] at WY ⊢
                have y0 := WY.out.cellAt 0
                have y1 := WY.out.cellAt 1
                simp at y0 y1
                clear hw5 K5 hyb D4 WY
                go_quiet (fail)
                have D6 := Lib.hid (D5.out.calm ((Keeps.refl _ _).drewN nq))
                clear D5 y0 y1
                obtain ⟨w6, hw6⟩ : ∃ z, z = w5.drewN nq := ⟨_, rfl⟩
                rw [← hw6] at D6 ⊢
                clear hw6
                go_wp2_with fail
                refine (lenP_stack sp c d most A l w6 D6.out.st (by omega)).mono ?_
                rintro e v1 ⟨rfl, kv1⟩
                have D1 := Lib.hid (D6.out.calm kv1)
                have hle := D1.out.st.le
                have htop := D1.out.top
                have hw1 : IntKind.i64.wrap (((l).length : Int) - ((d : Nat) : Int)) = ((l).length : Int) - ((d : Nat) : Int) := by rw [IntKind.wrap_i64]; omega
                have hw2 : IntKind.i64.wrap (((d : Nat) : Int) + (((l).length : Int) - ((d : Nat) : Int))) = ((d : Nat) : Int) + (((l).length : Int) - ((d : Nat) : Int)) := by rw [IntKind.wrap_i64]; omega
                have hgt : ¬ (most < ((d : Nat) : Int) + (((l).length : Int) - ((d : Nat) : Int))) := by omega
                have hgd : decide (most < ((d : Nat) : Int) + (((l).length : Int) - ((d : Nat) : Int))) = false := decide_eq_false hgt
                have haac : d ≤ ac := by have := D1.out.aad.1; omega
                have haacI : ((d : Nat) : Int) ≤ (ac : Int) := by omega
                have hdn : Hid (∀ W, Keeps (fun _ => False) v1 W → Calls Try.prog 52 #[.pointer (some ⟨sp, 0, none⟩)] W fun e w' => ∃ A' c', e = .returned (.slice A' d c') ∧ PrLies w' w'.heap.size A' ((l).take d) ∧ Keeps (fun _ => False) W w') := Lib.hid (fun W hW => (doneP_any sp c d most A l W (D1.out.calm hW).st (by omega)).mono (fun e w' h => by
                  obtain ⟨A', c', he, hm⟩ := h
                  have h1 : ((l).take d).length = d := by rw [List.length_take]; omega
                  rw [h1] at he
                  exact ⟨A', c', he, hm.later (Keeps.refl _ _), hm.keeps⟩))
                have HSP : Hid (∀ (A' : Option Addr) (c' : Nat) (W1 W2 : World), Keeps (fun _ => False) v1 W1 → PrLies W1 W1.heap.size A' ((l).take d) → Calls Try.prog 51 #[.slice A' d c', .slice aA d ac] W1 fun e w' => e = .returned (.bool true) ∧ Keeps (fun _ => False) W1 w') := Lib.hid (fun A' c' W1 W2 hW hl => by
                  have h1 : ((l).take d).length = d := by rw [List.length_take]; omega
                  have h2 : PrLies W1 W1.heap.size aA ((l).take d) := fun j y hy => by
                    rw [List.getElem?_take] at hy
                    split at hy
                    · exact (D1.out.calm hW).lies j y hy
                    · cases hy
                  have h3 := samePairs_eq ((l).take d) A' aA W1.heap.size W1.heap.size c' ac W1 hl h2 (by omega)
                  rw [h1] at h3
                  exact h3)
                clear kv1 hgt hle htop
                go_wp2_with fail
                refine wp_region_held_drew (S := fun W => Keeps (fun _ => False) v1 W) (by kernel_rfl) ((Keeps.refl _ v1).drew) ?_
                intro hSn
                refine wpAnyH_take (i := 0) (v := ?v104) rfl (by kernel_rfl) (by kernel_rfl) (by kernel_rfl) (fun _ _ _ h => by first | exact h | exact absurd h.1 (fun e => by cases e)) (Or.inl ⟨by rfl, ?hy104⟩) (by assumption) ?rest104
                case hy104 =>
                  intro w hSw
                  skip
                  go_simp
                  try with_reducible rfl
                go_simp
                refine wpAnyH_take (i := 1) (v := ?v105) rfl (by kernel_rfl) (by kernel_rfl) (by kernel_rfl) (fun _ _ _ h => by first | exact h | exact absurd h.1 (fun e => by cases e)) (Or.inl ⟨by rfl, ?hy105⟩) (by assumption) ?rest105
                case hy105 =>
                  intro w hSw
                  skip
                  go_simp
                  try with_reducible rfl
                go_simp
                refine wpAnyH_take (i := 2) (v := ?v106) rfl (by kernel_rfl) (by kernel_rfl) (by kernel_rfl) (fun _ _ _ h => by first | exact h | exact absurd h.1 (fun e => by cases e)) (Or.inl ⟨by rfl, ?hy106⟩) (by assumption) ?rest106
                case hy106 =>
                  intro w hSw
                  skip
                  go_simp
                  try with_reducible rfl
                go_simp
                refine wpAnyH_take (i := 3) (v := ?v107) rfl (by kernel_rfl) (by kernel_rfl) (by kernel_rfl) (fun _ _ _ h => by first | exact h | exact absurd h.1 (fun e => by cases e)) (Or.inl ⟨by rfl, ?hy107⟩) (by assumption) ?rest107
                case hy107 =>
                  intro w hSw
                  skip
                  go_simp
                  try with_reducible rfl
                go_simp
                refine wpAnyH_take (i := 4) (v := ?v108) rfl (by kernel_rfl) (by kernel_rfl) (by kernel_rfl) (fun _ _ _ h => by first | exact h | exact absurd h.1 (fun e => by cases e)) (Or.inl ⟨by rfl, ?hy108⟩) (by assumption) ?rest108
                case hy108 =>
                  intro w hSw
                  skip
                  go_simp
                  try with_reducible rfl
                go_simp
                refine wpAnyH_take (i := 5) (v := ?v109) rfl (by kernel_rfl) (by kernel_rfl) (by kernel_rfl) (fun _ _ _ h => by first | exact h | exact absurd h.1 (fun e => by cases e)) (Or.inl ⟨by rfl, ?hy109⟩) (by assumption) ?rest109
                case hy109 =>
                  intro w hSw
                  skip
                  go_simp
                  try with_reducible rfl
                go_simp
                refine wpAnyH_take (i := 6) (v := ?v110) rfl (by kernel_rfl) (by kernel_rfl) (by kernel_rfl) (fun _ _ _ h => by first | exact h | exact absurd h.1 (fun e => by cases e)) (Or.inl ⟨by rfl, ?hy110⟩) (by assumption) ?rest110
                case hy110 =>
                  intro w hSw
                  skip
                  go_simp
                  try with_reducible rfl
                go_simp
                refine wpAnyH_take (i := 7) (v := ?v111) rfl (by kernel_rfl) (by kernel_rfl) (by kernel_rfl) (fun _ _ _ h => by first | exact h | exact absurd h.1 (fun e => by cases e)) (Or.inl ⟨by rfl, ?hy111⟩) (by assumption) ?rest111
                case hy111 =>
                  intro w hSw
                  skip
                  go_simp
                  try with_reducible rfl
                go_simp
                refine wpAnyH_take (i := 8) (v := ?v112) rfl (by kernel_rfl) (by kernel_rfl) (by kernel_rfl) (fun _ _ _ h => by first | exact h | exact absurd h.1 (fun e => by cases e)) (Or.inl ⟨by rfl, ?hy112⟩) (by assumption) ?rest112
                case hy112 =>
                  intro w hSw
                  skip
                  go_simp
                  try with_reducible rfl
                go_simp
                refine wpAnyH_take (i := 9) (v := ?v113) rfl (by kernel_rfl) (by kernel_rfl) (by kernel_rfl) (fun _ _ _ h => by first | exact h | exact absurd h.1 (fun e => by cases e)) (Or.inl ⟨by rfl, ?hy113⟩) (by assumption) ?rest113
                case hy113 =>
                  intro w hSw
                  skip
                  go_simp
                  try with_reducible rfl
                go_simp
                refine wpAnyH_take (i := 10) (v := ?v114) rfl (by kernel_rfl) (by kernel_rfl) (by kernel_rfl) (fun _ _ _ h => by first | exact h | exact absurd h.1 (fun e => by cases e)) (Or.inl ⟨by rfl, ?hy114⟩) (by assumption) ?rest114
                case hy114 =>
                  intro w hSw
                  skip
                  go_simp
                  try with_reducible rfl
                go_simp
                refine wpAnyH_take (i := 11) (v := ?v115) rfl (by kernel_rfl) (by kernel_rfl) (by kernel_rfl) (fun _ _ _ h => by first | exact h | exact absurd h.1 (fun e => by cases e)) (Or.inl ⟨by rfl, ?hy115⟩) (by assumption) ?rest115
                case hy115 =>
                  intro w hSw
                  skip
                  go_simp
                  try with_reducible rfl
                go_simp
                refine wpAnyH_take (i := 12) (v := ?v116) rfl (by kernel_rfl) (by kernel_rfl) (by kernel_rfl) (fun _ _ _ h => by first | exact h | exact absurd h.1 (fun e => by cases e)) (Or.inl ⟨by rfl, ?hy116⟩) (by assumption) ?rest116
                case hy116 =>
                  intro w hSw
                  skip
                  go_simp
                  try with_reducible rfl
                go_simp
                refine wpAnyH_take (i := 13) (v := ?v117) rfl (by kernel_rfl) (by kernel_rfl) (by kernel_rfl) (fun _ _ _ h => by first | exact h | exact absurd h.1 (fun e => by cases e)) (Or.inl ⟨by rfl, ?hy117⟩) (by assumption) ?rest117
                case hy117 =>
                  intro w hSw
                  skip
                  go_simp
                  try with_reducible rfl
                go_simp
                refine wpAnyH_take (i := 14) (v := ?v118) rfl (by kernel_rfl) (by kernel_rfl) (by kernel_rfl) (fun _ _ _ h => by first | exact h | exact absurd h.1 (fun e => by cases e)) (Or.inl ⟨by rfl, ?hy118⟩) (by assumption) ?rest118
                case hy118 =>
                  intro w hSw
                  skip
                  go_simp
                  try with_reducible rfl
                go_simp
                refine wpAnyH_take (i := 15) (v := ?v119) rfl (by kernel_rfl) (by kernel_rfl) (by kernel_rfl) (fun _ _ _ h => by first | exact h | exact absurd h.1 (fun e => by cases e)) (Or.inl ⟨by rfl, ?hy119⟩) (by assumption) ?rest119
                case hy119 =>
                  intro w hSw
                  skip
                  go_simp
                  try with_reducible rfl
                go_simp
                refine wpAnyH_take (i := 16) (v := ?v120) rfl (by kernel_rfl) (by kernel_rfl) (by kernel_rfl) (fun _ _ _ h => by first | exact h | exact absurd h.1 (fun e => by cases e)) (Or.inl ⟨by rfl, ?hy120⟩) (by assumption) ?rest120
                case hy120 =>
                  intro w hSw
                  skip
                  go_simp
                  try with_reducible rfl
                go_simp
                refine wpAnyH_take (i := 17) (v := ?v121) rfl (by kernel_rfl) (by kernel_rfl) (by kernel_rfl) (fun _ _ _ h => by first | exact h | exact absurd h.1 (fun e => by cases e)) (Or.inl ⟨by rfl, ?hy121⟩) (by assumption) ?rest121
                case hy121 =>
                  intro w hSw
                  skip
                  go_simp
                  try with_reducible rfl
                go_simp
                refine wpAnyH_take (i := 18) (v := undef) rfl (by kernel_rfl) (by kernel_rfl) (by kernel_rfl) (fun _ _ _ h => by first | exact h | exact absurd h.1 (fun e => by cases e)) (Or.inr ⟨by rfl, rfl⟩) (by assumption) ?rest122
                go_simp
                refine wpAnyH_take (i := 19) (v := undef) rfl (by kernel_rfl) (by kernel_rfl) (by kernel_rfl) (fun _ _ _ h => by first | exact h | exact absurd h.1 (fun e => by cases e)) (Or.inr ⟨by rfl, rfl⟩) (by assumption) ?rest123
                go_simp
                refine wpAnyH_take (i := 20) (v := undef) rfl (by kernel_rfl) (by kernel_rfl) (by kernel_rfl) (fun _ _ _ h => by first | exact h | exact absurd h.1 (fun e => by cases e)) (Or.inr ⟨by rfl, rfl⟩) (by assumption) ?rest124
                go_simp
                refine wpAnyH_take (i := 21) (v := undef) rfl (by kernel_rfl) (by kernel_rfl) (by kernel_rfl) (fun _ _ _ h => by first | exact h | exact absurd h.1 (fun e => by cases e)) (Or.inr ⟨by rfl, rfl⟩) (by assumption) ?rest125
                go_simp
                refine wpAnyH_take (i := 22) (v := ?v126) rfl (by kernel_rfl) (by kernel_rfl) (by kernel_rfl) (fun _ _ _ h => by first | exact h | exact absurd h.1 (fun e => by cases e)) (Or.inl ⟨by rfl, ?hy126⟩) (by assumption) ?rest126
                case hy126 =>
                  intro w hSw
                  skip
                  go_simp
                  try with_reducible rfl
                go_simp
                refine wpAnyH_take (i := 23) (v := ?v127) rfl (by kernel_rfl) (by kernel_rfl) (by kernel_rfl) (fun _ _ _ h => by first | exact h | exact absurd h.1 (fun e => by cases e)) (Or.inl ⟨by rfl, ?hy127⟩) (by assumption) ?rest127
                case hy127 =>
                  intro w hSw
                  skip
                  go_simp
                  try with_reducible rfl
                go_simp
                refine wpAnyH_take (i := 24) (v := ?v128) rfl (by kernel_rfl) (by kernel_rfl) (by kernel_rfl) (fun _ _ _ h => by first | exact h | exact absurd h.1 (fun e => by cases e)) (Or.inl ⟨by rfl, ?hy128⟩) (by assumption) ?rest128
                case hy128 =>
                  intro w hSw
                  skip
                  go_simp
                  try with_reducible rfl
                go_simp
                refine wpAnyH_take (i := 25) (v := ?v129) rfl (by kernel_rfl) (by kernel_rfl) (by kernel_rfl) (fun _ _ _ h => by first | exact h | exact absurd h.1 (fun e => by cases e)) (Or.inl ⟨by rfl, ?hy129⟩) (by assumption) ?rest129
                case hy129 =>
                  intro w hSw
                  skip
                  go_simp
                  try with_reducible rfl
                go_simp
                refine wpAnyH_take (i := 27) (v := ?v130) rfl (by kernel_rfl) (by kernel_rfl) (by kernel_rfl) (fun _ _ _ h => by first | exact h | exact absurd h.1 (fun e => by cases e)) (Or.inl ⟨by rfl, ?hy130⟩) (by assumption) ?rest130
                case hy130 =>
                  intro w hSw
                  skip
                  go_simp
                  try with_reducible rfl
                go_simp
                refine wpAnyH_take (i := 28) (v := ?v131) rfl (by kernel_rfl) (by kernel_rfl) (by kernel_rfl) (fun _ _ _ h => by first | exact h | exact absurd h.1 (fun e => by cases e)) (Or.inl ⟨by rfl, ?hy131⟩) (by assumption) ?rest131
                case hy131 =>
                  intro w hSw
                  skip
                  go_simp
                  try with_reducible rfl
                go_simp
                refine wpAnyH_take (i := 29) (v := ?v132) rfl (by kernel_rfl) (by kernel_rfl) (by kernel_rfl) (fun _ _ _ h => by first | exact h | exact absurd h.1 (fun e => by cases e)) (Or.inl ⟨by rfl, ?hy132⟩) (by assumption) ?rest132
                case hy132 =>
                  intro w hSw
                  skip
                  go_simp
                  try with_reducible rfl
                go_simp
                refine wpAnyH_ready (rs := [26]) (by kernel_rfl) (by simp) ?_
                refine AllReadyH.cons rfl (fun K hK => ?_) AllReadyH.nil
                go_simp
                refine (hdn.out _ hSn).mono ?_
                rintro e v2 ⟨A8, c8, rfl, hl8, k8⟩
                have hl8k := hSn.trans k8
                refine hK.out _ _ (hSn.trans k8) (fun hSn => ?_)
                clear hK K
                go_simp
                refine wpAnyH_ready (rs := [30]) (by kernel_rfl) (by simp) ?_
                refine AllReadyH.cons rfl (fun K hK => ?_) AllReadyH.nil
                go_simp
                refine (HSP.out A8 c8 v2 v2 hl8k hl8).mono ?_
                rintro e v3 ⟨rfl, k9⟩
                refine hK.out _ _ (hSn.trans k9) (fun hSn => ?_)
                clear hK K
                go_simp
                refine wpAnyH_take (i := 31) (v := ?v133) rfl (by kernel_rfl) (by kernel_rfl) (by kernel_rfl) (fun _ _ _ h => by first | exact h | exact absurd h.1 (fun e => by cases e)) (Or.inl ⟨by rfl, ?hy133⟩) (by assumption) ?rest133
                case hy133 =>
                  intro w hSw
                  skip
                  go_simp
                  try with_reducible rfl
                go_simp
                refine wpAnyH_take (i := 32) (v := ?v134) rfl (by kernel_rfl) (by kernel_rfl) (by kernel_rfl) (fun _ _ _ h => by first | exact h | exact absurd h.1 (fun e => by cases e)) (Or.inl ⟨by rfl, ?hy134⟩) (by assumption) ?rest134
                case hy134 =>
                  intro w hSw
                  skip
                  go_simp
                  try with_reducible rfl
                go_simp
                refine wpAnyH_done (by kernel_rfl) ?_ _
                have D2 := Lib.hid (D1.out.calm hSn)
                clear hSn hl8 hl8k k8 k9 hdn HSP hw1 hw2 hgd haacI
                go_simp
                go_wp2_with fail
                go_roundw
                case rel => exact ⟨i + 1, d, A, c, aA, ac, l, by omega, by go_num, by first | rfl | go_num, rfl, (by omega), D2⟩
                case measure => simp [intOf]; omega
              · obtain ⟨d8, he⟩ : ∃ z, d = z + 1 := ⟨d - 1, by omega⟩
                have hz1 : decide ((0 : Int) < (d : Int)) = true := decide_eq_true (by omega)
                have hz2 : decide (0 < d) = true := decide_eq_true (by omega)
                have hwd : IntKind.i64.wrap ((d : Int) - 1) = (d8 : Int) := by rw [IntKind.wrap_i64]; omega
                have hel : (d8 : Int) < (l.length : Int) := by omega
                obtain ⟨x, hx⟩ : ∃ x, l[d8]? = some x := ⟨_, List.getElem?_eq_getElem (by omega)⟩
                have hat : d8 < 1000000000 := by omega
                have HE := Lib.hid he
                clear he hd0
                go_wp2_with fail
                obtain ⟨w3, hw3⟩ : ∃ z, z = wr.alloc (.cells #[.int .i8 (IntKind.i8.wrap n), .string ⟨#[112]⟩] 49) := ⟨_, rfl⟩
                have K3 : Keeps (fun _ => False) wr w3 := by rw [hw3]; exact (Keeps.refl _ _).alloc _
                have WX : Hid (Whole w3 wr.heap.size 49 #[.int .i8 (IntKind.i8.wrap n), .string ⟨#[112]⟩]) := Lib.hid (by rw [hw3]; exact Whole.made _ _ _)
                rw [← hw3]
                have D3 := Lib.hid (D0.out.calm K3)
                have hsx : sp < wr.heap.size := D0.out.st.box.inside
                clear hw3
                refine (undoP_any sp c d8 most x A l w3 (by rw [← HE.out]; exact D3.out.st) hx hat).mono ?_
                rintro e' w4 ⟨rfl, hst, k4⟩
                have D4 : Hid (DnAt w2 w4 sp B A c aA ac l d8 most) := Lib.hid (D3.out.moved (hst) k4)
                clear K3 k4 hst D3 D0 WX b0 b2 d0
                go_wp2_with fail
                obtain ⟨w5, hw5⟩ : ∃ z, z = w4.alloc (.cells #[.int .i8 x.1, .string x.2] 49) := ⟨_, rfl⟩
                have K5 : Keeps (fun _ => False) w4 w5 := by rw [hw5]; exact (Keeps.refl _ _).alloc _
                have WY : Hid (Whole w5 w4.heap.size 49 #[.int .i8 x.1, .string x.2]) := Lib.hid (by rw [hw5]; exact Whole.made _ _ _)
                rw [← hw5]
                have D5 := Lib.hid (D4.out.calm K5)
                obtain ⟨yb, hyb⟩ : ∃ z, z = w4.heap.size := ⟨_, rfl⟩
                rw [← hyb] at WY ⊢
                have y0 := WY.out.cellAt 0
                have y1 := WY.out.cellAt 1
                simp at y0 y1
                clear hw5 K5 hyb D4 WY
                obtain ⟨g2, off2, hA2, -, cy0, cy1⟩ := D5.out.lies d8 x hx
                subst hA2
                have hq := fun w => ne_pair x x w
                simp only [decide_true, Bool.not_true] at hq
                go_quiet (fail)
                have D6 := Lib.hid (D5.out.calm ((Keeps.refl _ _).drewN nq))
                clear D5 y0 y1 hq cy0 cy1
                obtain ⟨w6, hw6⟩ : ∃ z, z = w5.drewN nq := ⟨_, rfl⟩
                rw [← hw6] at D6 ⊢
                clear hw6
                go_wp2_with fail
                refine (lenP_stack sp c d8 most A l w6 D6.out.st (by omega)).mono ?_
                rintro e v1 ⟨rfl, kv1⟩
                have D1 := Lib.hid (D6.out.calm kv1)
                have hle := D1.out.st.le
                have htop := D1.out.top
                have hw1 : IntKind.i64.wrap (((l).length : Int) - ((d8 : Nat) : Int)) = ((l).length : Int) - ((d8 : Nat) : Int) := by rw [IntKind.wrap_i64]; omega
                have hw2 : IntKind.i64.wrap (((d8 : Nat) : Int) + (((l).length : Int) - ((d8 : Nat) : Int))) = ((d8 : Nat) : Int) + (((l).length : Int) - ((d8 : Nat) : Int)) := by rw [IntKind.wrap_i64]; omega
                have hgt : ¬ (most < ((d8 : Nat) : Int) + (((l).length : Int) - ((d8 : Nat) : Int))) := by omega
                have hgd : decide (most < ((d8 : Nat) : Int) + (((l).length : Int) - ((d8 : Nat) : Int))) = false := decide_eq_false hgt
                have haac : d8 ≤ ac := by have := D1.out.aad.1; omega
                have haacI : ((d8 : Nat) : Int) ≤ (ac : Int) := by omega
                have hdn : Hid (∀ W, Keeps (fun _ => False) v1 W → Calls Try.prog 52 #[.pointer (some ⟨sp, 0, none⟩)] W fun e w' => ∃ A' c', e = .returned (.slice A' d8 c') ∧ PrLies w' w'.heap.size A' ((l).take d8) ∧ Keeps (fun _ => False) W w') := Lib.hid (fun W hW => (doneP_any sp c d8 most A l W (D1.out.calm hW).st (by omega)).mono (fun e w' h => by
                  obtain ⟨A', c', he, hm⟩ := h
                  have h1 : ((l).take d8).length = d8 := by rw [List.length_take]; omega
                  rw [h1] at he
                  exact ⟨A', c', he, hm.later (Keeps.refl _ _), hm.keeps⟩))
                have HSP : Hid (∀ (A' : Option Addr) (c' : Nat) (W1 W2 : World), Keeps (fun _ => False) v1 W1 → PrLies W1 W1.heap.size A' ((l).take d8) → Calls Try.prog 51 #[.slice A' d8 c', .slice (some ⟨g2, off2, none⟩) d8 ac] W1 fun e w' => e = .returned (.bool true) ∧ Keeps (fun _ => False) W1 w') := Lib.hid (fun A' c' W1 W2 hW hl => by
                  have h1 : ((l).take d8).length = d8 := by rw [List.length_take]; omega
                  have h2 : PrLies W1 W1.heap.size (some ⟨g2, off2, none⟩) ((l).take d8) := fun j y hy => by
                    rw [List.getElem?_take] at hy
                    split at hy
                    · exact (D1.out.calm hW).lies j y hy
                    · cases hy
                  have h3 := samePairs_eq ((l).take d8) A' (some ⟨g2, off2, none⟩) W1.heap.size W1.heap.size c' ac W1 hl h2 (by omega)
                  rw [h1] at h3
                  exact h3)
                clear kv1 hgt hle htop
                go_wp2_with fail
                refine wp_region_held_drew (S := fun W => Keeps (fun _ => False) v1 W) (by kernel_rfl) ((Keeps.refl _ v1).drew) ?_
                intro hSn
                refine wpAnyH_take (i := 0) (v := ?v135) rfl (by kernel_rfl) (by kernel_rfl) (by kernel_rfl) (fun _ _ _ h => by first | exact h | exact absurd h.1 (fun e => by cases e)) (Or.inl ⟨by rfl, ?hy135⟩) (by assumption) ?rest135
                case hy135 =>
                  intro w hSw
                  skip
                  go_simp
                  try with_reducible rfl
                go_simp
                refine wpAnyH_take (i := 1) (v := ?v136) rfl (by kernel_rfl) (by kernel_rfl) (by kernel_rfl) (fun _ _ _ h => by first | exact h | exact absurd h.1 (fun e => by cases e)) (Or.inl ⟨by rfl, ?hy136⟩) (by assumption) ?rest136
                case hy136 =>
                  intro w hSw
                  skip
                  go_simp
                  try with_reducible rfl
                go_simp
                refine wpAnyH_take (i := 2) (v := ?v137) rfl (by kernel_rfl) (by kernel_rfl) (by kernel_rfl) (fun _ _ _ h => by first | exact h | exact absurd h.1 (fun e => by cases e)) (Or.inl ⟨by rfl, ?hy137⟩) (by assumption) ?rest137
                case hy137 =>
                  intro w hSw
                  skip
                  go_simp
                  try with_reducible rfl
                go_simp
                refine wpAnyH_take (i := 3) (v := ?v138) rfl (by kernel_rfl) (by kernel_rfl) (by kernel_rfl) (fun _ _ _ h => by first | exact h | exact absurd h.1 (fun e => by cases e)) (Or.inl ⟨by rfl, ?hy138⟩) (by assumption) ?rest138
                case hy138 =>
                  intro w hSw
                  skip
                  go_simp
                  try with_reducible rfl
                go_simp
                refine wpAnyH_take (i := 4) (v := ?v139) rfl (by kernel_rfl) (by kernel_rfl) (by kernel_rfl) (fun _ _ _ h => by first | exact h | exact absurd h.1 (fun e => by cases e)) (Or.inl ⟨by rfl, ?hy139⟩) (by assumption) ?rest139
                case hy139 =>
                  intro w hSw
                  skip
                  go_simp
                  try with_reducible rfl
                go_simp
                refine wpAnyH_take (i := 5) (v := ?v140) rfl (by kernel_rfl) (by kernel_rfl) (by kernel_rfl) (fun _ _ _ h => by first | exact h | exact absurd h.1 (fun e => by cases e)) (Or.inl ⟨by rfl, ?hy140⟩) (by assumption) ?rest140
                case hy140 =>
                  intro w hSw
                  skip
                  go_simp
                  try with_reducible rfl
                go_simp
                refine wpAnyH_take (i := 6) (v := ?v141) rfl (by kernel_rfl) (by kernel_rfl) (by kernel_rfl) (fun _ _ _ h => by first | exact h | exact absurd h.1 (fun e => by cases e)) (Or.inl ⟨by rfl, ?hy141⟩) (by assumption) ?rest141
                case hy141 =>
                  intro w hSw
                  skip
                  go_simp
                  try with_reducible rfl
                go_simp
                refine wpAnyH_take (i := 7) (v := ?v142) rfl (by kernel_rfl) (by kernel_rfl) (by kernel_rfl) (fun _ _ _ h => by first | exact h | exact absurd h.1 (fun e => by cases e)) (Or.inl ⟨by rfl, ?hy142⟩) (by assumption) ?rest142
                case hy142 =>
                  intro w hSw
                  skip
                  go_simp
                  try with_reducible rfl
                go_simp
                refine wpAnyH_take (i := 8) (v := ?v143) rfl (by kernel_rfl) (by kernel_rfl) (by kernel_rfl) (fun _ _ _ h => by first | exact h | exact absurd h.1 (fun e => by cases e)) (Or.inl ⟨by rfl, ?hy143⟩) (by assumption) ?rest143
                case hy143 =>
                  intro w hSw
                  skip
                  go_simp
                  try with_reducible rfl
                go_simp
                refine wpAnyH_take (i := 9) (v := ?v144) rfl (by kernel_rfl) (by kernel_rfl) (by kernel_rfl) (fun _ _ _ h => by first | exact h | exact absurd h.1 (fun e => by cases e)) (Or.inl ⟨by rfl, ?hy144⟩) (by assumption) ?rest144
                case hy144 =>
                  intro w hSw
                  skip
                  go_simp
                  try with_reducible rfl
                go_simp
                refine wpAnyH_take (i := 10) (v := ?v145) rfl (by kernel_rfl) (by kernel_rfl) (by kernel_rfl) (fun _ _ _ h => by first | exact h | exact absurd h.1 (fun e => by cases e)) (Or.inl ⟨by rfl, ?hy145⟩) (by assumption) ?rest145
                case hy145 =>
                  intro w hSw
                  skip
                  go_simp
                  try with_reducible rfl
                go_simp
                refine wpAnyH_take (i := 11) (v := ?v146) rfl (by kernel_rfl) (by kernel_rfl) (by kernel_rfl) (fun _ _ _ h => by first | exact h | exact absurd h.1 (fun e => by cases e)) (Or.inl ⟨by rfl, ?hy146⟩) (by assumption) ?rest146
                case hy146 =>
                  intro w hSw
                  skip
                  go_simp
                  try with_reducible rfl
                go_simp
                refine wpAnyH_take (i := 12) (v := ?v147) rfl (by kernel_rfl) (by kernel_rfl) (by kernel_rfl) (fun _ _ _ h => by first | exact h | exact absurd h.1 (fun e => by cases e)) (Or.inl ⟨by rfl, ?hy147⟩) (by assumption) ?rest147
                case hy147 =>
                  intro w hSw
                  skip
                  go_simp
                  try with_reducible rfl
                go_simp
                refine wpAnyH_take (i := 13) (v := ?v148) rfl (by kernel_rfl) (by kernel_rfl) (by kernel_rfl) (fun _ _ _ h => by first | exact h | exact absurd h.1 (fun e => by cases e)) (Or.inl ⟨by rfl, ?hy148⟩) (by assumption) ?rest148
                case hy148 =>
                  intro w hSw
                  skip
                  go_simp
                  try with_reducible rfl
                go_simp
                refine wpAnyH_take (i := 14) (v := ?v149) rfl (by kernel_rfl) (by kernel_rfl) (by kernel_rfl) (fun _ _ _ h => by first | exact h | exact absurd h.1 (fun e => by cases e)) (Or.inl ⟨by rfl, ?hy149⟩) (by assumption) ?rest149
                case hy149 =>
                  intro w hSw
                  skip
                  go_simp
                  try with_reducible rfl
                go_simp
                refine wpAnyH_take (i := 15) (v := ?v150) rfl (by kernel_rfl) (by kernel_rfl) (by kernel_rfl) (fun _ _ _ h => by first | exact h | exact absurd h.1 (fun e => by cases e)) (Or.inl ⟨by rfl, ?hy150⟩) (by assumption) ?rest150
                case hy150 =>
                  intro w hSw
                  skip
                  go_simp
                  try with_reducible rfl
                go_simp
                refine wpAnyH_take (i := 16) (v := ?v151) rfl (by kernel_rfl) (by kernel_rfl) (by kernel_rfl) (fun _ _ _ h => by first | exact h | exact absurd h.1 (fun e => by cases e)) (Or.inl ⟨by rfl, ?hy151⟩) (by assumption) ?rest151
                case hy151 =>
                  intro w hSw
                  skip
                  go_simp
                  try with_reducible rfl
                go_simp
                refine wpAnyH_take (i := 17) (v := ?v152) rfl (by kernel_rfl) (by kernel_rfl) (by kernel_rfl) (fun _ _ _ h => by first | exact h | exact absurd h.1 (fun e => by cases e)) (Or.inl ⟨by rfl, ?hy152⟩) (by assumption) ?rest152
                case hy152 =>
                  intro w hSw
                  skip
                  go_simp
                  try with_reducible rfl
                go_simp
                refine wpAnyH_take (i := 18) (v := undef) rfl (by kernel_rfl) (by kernel_rfl) (by kernel_rfl) (fun _ _ _ h => by first | exact h | exact absurd h.1 (fun e => by cases e)) (Or.inr ⟨by rfl, rfl⟩) (by assumption) ?rest153
                go_simp
                refine wpAnyH_take (i := 19) (v := undef) rfl (by kernel_rfl) (by kernel_rfl) (by kernel_rfl) (fun _ _ _ h => by first | exact h | exact absurd h.1 (fun e => by cases e)) (Or.inr ⟨by rfl, rfl⟩) (by assumption) ?rest154
                go_simp
                refine wpAnyH_take (i := 20) (v := undef) rfl (by kernel_rfl) (by kernel_rfl) (by kernel_rfl) (fun _ _ _ h => by first | exact h | exact absurd h.1 (fun e => by cases e)) (Or.inr ⟨by rfl, rfl⟩) (by assumption) ?rest155
                go_simp
                refine wpAnyH_take (i := 21) (v := undef) rfl (by kernel_rfl) (by kernel_rfl) (by kernel_rfl) (fun _ _ _ h => by first | exact h | exact absurd h.1 (fun e => by cases e)) (Or.inr ⟨by rfl, rfl⟩) (by assumption) ?rest156
                go_simp
                refine wpAnyH_take (i := 22) (v := ?v157) rfl (by kernel_rfl) (by kernel_rfl) (by kernel_rfl) (fun _ _ _ h => by first | exact h | exact absurd h.1 (fun e => by cases e)) (Or.inl ⟨by rfl, ?hy157⟩) (by assumption) ?rest157
                case hy157 =>
                  intro w hSw
                  skip
                  go_simp
                  try with_reducible rfl
                go_simp
                refine wpAnyH_take (i := 23) (v := ?v158) rfl (by kernel_rfl) (by kernel_rfl) (by kernel_rfl) (fun _ _ _ h => by first | exact h | exact absurd h.1 (fun e => by cases e)) (Or.inl ⟨by rfl, ?hy158⟩) (by assumption) ?rest158
                case hy158 =>
                  intro w hSw
                  skip
                  go_simp
                  try with_reducible rfl
                go_simp
                refine wpAnyH_take (i := 24) (v := ?v159) rfl (by kernel_rfl) (by kernel_rfl) (by kernel_rfl) (fun _ _ _ h => by first | exact h | exact absurd h.1 (fun e => by cases e)) (Or.inl ⟨by rfl, ?hy159⟩) (by assumption) ?rest159
                case hy159 =>
                  intro w hSw
                  skip
                  go_simp
                  try with_reducible rfl
                go_simp
                refine wpAnyH_take (i := 25) (v := ?v160) rfl (by kernel_rfl) (by kernel_rfl) (by kernel_rfl) (fun _ _ _ h => by first | exact h | exact absurd h.1 (fun e => by cases e)) (Or.inl ⟨by rfl, ?hy160⟩) (by assumption) ?rest160
                case hy160 =>
                  intro w hSw
                  skip
                  go_simp
                  try with_reducible rfl
                go_simp
                refine wpAnyH_take (i := 27) (v := ?v161) rfl (by kernel_rfl) (by kernel_rfl) (by kernel_rfl) (fun _ _ _ h => by first | exact h | exact absurd h.1 (fun e => by cases e)) (Or.inl ⟨by rfl, ?hy161⟩) (by assumption) ?rest161
                case hy161 =>
                  intro w hSw
                  skip
                  go_simp
                  try with_reducible rfl
                go_simp
                refine wpAnyH_take (i := 28) (v := ?v162) rfl (by kernel_rfl) (by kernel_rfl) (by kernel_rfl) (fun _ _ _ h => by first | exact h | exact absurd h.1 (fun e => by cases e)) (Or.inl ⟨by rfl, ?hy162⟩) (by assumption) ?rest162
                case hy162 =>
                  intro w hSw
                  skip
                  go_simp
                  try with_reducible rfl
                go_simp
                refine wpAnyH_take (i := 29) (v := ?v163) rfl (by kernel_rfl) (by kernel_rfl) (by kernel_rfl) (fun _ _ _ h => by first | exact h | exact absurd h.1 (fun e => by cases e)) (Or.inl ⟨by rfl, ?hy163⟩) (by assumption) ?rest163
                case hy163 =>
                  intro w hSw
                  skip
                  go_simp
                  try with_reducible rfl
                go_simp
                refine wpAnyH_ready (rs := [26]) (by kernel_rfl) (by simp) ?_
                refine AllReadyH.cons rfl (fun K hK => ?_) AllReadyH.nil
                go_simp
                refine (hdn.out _ hSn).mono ?_
                rintro e v2 ⟨A8, c8, rfl, hl8, k8⟩
                have hl8k := hSn.trans k8
                refine hK.out _ _ (hSn.trans k8) (fun hSn => ?_)
                clear hK K
                go_simp
                refine wpAnyH_ready (rs := [30]) (by kernel_rfl) (by simp) ?_
                refine AllReadyH.cons rfl (fun K hK => ?_) AllReadyH.nil
                go_simp
                refine (HSP.out A8 c8 v2 v2 hl8k hl8).mono ?_
                rintro e v3 ⟨rfl, k9⟩
                refine hK.out _ _ (hSn.trans k9) (fun hSn => ?_)
                clear hK K
                go_simp
                refine wpAnyH_take (i := 31) (v := ?v164) rfl (by kernel_rfl) (by kernel_rfl) (by kernel_rfl) (fun _ _ _ h => by first | exact h | exact absurd h.1 (fun e => by cases e)) (Or.inl ⟨by rfl, ?hy164⟩) (by assumption) ?rest164
                case hy164 =>
                  intro w hSw
                  skip
                  go_simp
                  try with_reducible rfl
                go_simp
                refine wpAnyH_take (i := 32) (v := ?v165) rfl (by kernel_rfl) (by kernel_rfl) (by kernel_rfl) (fun _ _ _ h => by first | exact h | exact absurd h.1 (fun e => by cases e)) (Or.inl ⟨by rfl, ?hy165⟩) (by assumption) ?rest165
                case hy165 =>
                  intro w hSw
                  skip
                  go_simp
                  try with_reducible rfl
                go_simp
                refine wpAnyH_done (by kernel_rfl) ?_ _
                have D2 := Lib.hid (D1.out.calm hSn)
                clear hSn hl8 hl8k k8 k9 hdn HSP hw1 hw2 hgd haacI
                go_simp
                go_wp2_with fail
                go_roundw
                case rel => exact ⟨i + 1, d8, A, c, (some ⟨g2, off2, none⟩), ac, l, by omega, by go_num, by first | rfl | go_num, rfl, (by omega), D2⟩
                case measure => simp [intOf]; omega
            · have e1 : decide (k = 1) = false := decide_eq_false hk1
              by_cases hk2 : k = 2
              · skip
                subst hk2
                have hdle := D0.out.st.le
                rcases Nat.eq_or_lt_of_le hdle with hd0 | hd0
                · have hz1 : decide ((d : Int) < (l.length : Int)) = false := decide_eq_false (by omega)
                  have hz2 : decide (d < l.length) = false := decide_eq_false (by omega)
                  have HD0 := Lib.hid hd0
                  clear hd0
                  go_wp2_with fail
                  obtain ⟨w3, hw3⟩ : ∃ z, z = wr.alloc (.cells #[.int .i8 (IntKind.i8.wrap n), .string ⟨#[112]⟩] 49) := ⟨_, rfl⟩
                  have K3 : Keeps (fun _ => False) wr w3 := by rw [hw3]; exact (Keeps.refl _ _).alloc _
                  have WX : Hid (Whole w3 wr.heap.size 49 #[.int .i8 (IntKind.i8.wrap n), .string ⟨#[112]⟩]) := Lib.hid (by rw [hw3]; exact Whole.made _ _ _)
                  rw [← hw3]
                  have D3 := Lib.hid (D0.out.calm K3)
                  have hsx : sp < wr.heap.size := D0.out.st.box.inside
                  clear hw3
                  refine (redoP_none sp c d most A l w3 D3.out.st HD0.out).mono ?_
                  rintro e w4 ⟨rfl, k4⟩
                  have D4 := Lib.hid (D3.out.calm k4)
                  clear K3 k4 D3 D0 WX b0 b2 d0
                  go_wp2_with fail
                  obtain ⟨w5, hw5⟩ : ∃ z, z = w4.alloc (.cells #[.int .i8 0, .string ⟨#[]⟩] 49) := ⟨_, rfl⟩
                  have K5 : Keeps (fun _ => False) w4 w5 := by rw [hw5]; exact (Keeps.refl _ _).alloc _
                  have WY : Hid (Whole w5 w4.heap.size 49 #[.int .i8 0, .string ⟨#[]⟩]) := Lib.hid (by rw [hw5]; exact Whole.made _ _ _)
                  rw [← hw5]
                  have D5 := Lib.hid (D4.out.calm K5)
                  obtain ⟨yb, hyb⟩ : ∃ z, z = w4.heap.size := ⟨_, rfl⟩
                  rw [← hyb] at WY ⊢
                  have y0 := WY.out.cellAt 0
                  have y1 := WY.out.cellAt 1
                  simp at y0 y1
                  clear hw5 K5 hyb D4 WY
                  go_quiet (fail)
                  have D6 := Lib.hid (D5.out.calm ((Keeps.refl _ _).drewN nq))
                  clear D5 y0 y1
                  obtain ⟨w6, hw6⟩ : ∃ z, z = w5.drewN nq := ⟨_, rfl⟩
                  rw [← hw6] at D6 ⊢
                  clear hw6
                  go_wp2_with fail
                  refine (lenP_stack sp c d most A l w6 D6.out.st (by omega)).mono ?_
                  rintro e v1 ⟨rfl, kv1⟩
                  have D1 := Lib.hid (D6.out.calm kv1)
                  have hle := D1.out.st.le
                  have htop := D1.out.top
                  have hw1 : IntKind.i64.wrap (((l).length : Int) - ((d : Nat) : Int)) = ((l).length : Int) - ((d : Nat) : Int) := by rw [IntKind.wrap_i64]; omega
                  have hw2 : IntKind.i64.wrap (((d : Nat) : Int) + (((l).length : Int) - ((d : Nat) : Int))) = ((d : Nat) : Int) + (((l).length : Int) - ((d : Nat) : Int)) := by rw [IntKind.wrap_i64]; omega
                  have hgt : ¬ (most < ((d : Nat) : Int) + (((l).length : Int) - ((d : Nat) : Int))) := by omega
                  have hgd : decide (most < ((d : Nat) : Int) + (((l).length : Int) - ((d : Nat) : Int))) = false := decide_eq_false hgt
                  have haac : d ≤ ac := by have := D1.out.aad.1; omega
                  have haacI : ((d : Nat) : Int) ≤ (ac : Int) := by omega
                  have hdn : Hid (∀ W, Keeps (fun _ => False) v1 W → Calls Try.prog 52 #[.pointer (some ⟨sp, 0, none⟩)] W fun e w' => ∃ A' c', e = .returned (.slice A' d c') ∧ PrLies w' w'.heap.size A' ((l).take d) ∧ Keeps (fun _ => False) W w') := Lib.hid (fun W hW => (doneP_any sp c d most A l W (D1.out.calm hW).st (by omega)).mono (fun e w' h => by
                    obtain ⟨A', c', he, hm⟩ := h
                    have h1 : ((l).take d).length = d := by rw [List.length_take]; omega
                    rw [h1] at he
                    exact ⟨A', c', he, hm.later (Keeps.refl _ _), hm.keeps⟩))
                  have HSP : Hid (∀ (A' : Option Addr) (c' : Nat) (W1 W2 : World), Keeps (fun _ => False) v1 W1 → PrLies W1 W1.heap.size A' ((l).take d) → Calls Try.prog 51 #[.slice A' d c', .slice aA d ac] W1 fun e w' => e = .returned (.bool true) ∧ Keeps (fun _ => False) W1 w') := Lib.hid (fun A' c' W1 W2 hW hl => by
                    have h1 : ((l).take d).length = d := by rw [List.length_take]; omega
                    have h2 : PrLies W1 W1.heap.size aA ((l).take d) := fun j y hy => by
                      rw [List.getElem?_take] at hy
                      split at hy
                      · exact (D1.out.calm hW).lies j y hy
                      · cases hy
                    have h3 := samePairs_eq ((l).take d) A' aA W1.heap.size W1.heap.size c' ac W1 hl h2 (by omega)
                    rw [h1] at h3
                    exact h3)
                  clear kv1 hgt hle htop
                  go_wp2_with fail
                  refine wp_region_held_drew (S := fun W => Keeps (fun _ => False) v1 W) (by kernel_rfl) ((Keeps.refl _ v1).drew) ?_
                  intro hSn
                  refine wpAnyH_take (i := 0) (v := ?v166) rfl (by kernel_rfl) (by kernel_rfl) (by kernel_rfl) (fun _ _ _ h => by first | exact h | exact absurd h.1 (fun e => by cases e)) (Or.inl ⟨by rfl, ?hy166⟩) (by assumption) ?rest166
                  case hy166 =>
                    intro w hSw
                    skip
                    go_simp
                    try with_reducible rfl
                  go_simp
                  refine wpAnyH_take (i := 1) (v := ?v167) rfl (by kernel_rfl) (by kernel_rfl) (by kernel_rfl) (fun _ _ _ h => by first | exact h | exact absurd h.1 (fun e => by cases e)) (Or.inl ⟨by rfl, ?hy167⟩) (by assumption) ?rest167
                  case hy167 =>
                    intro w hSw
                    skip
                    go_simp
                    try with_reducible rfl
                  go_simp
                  refine wpAnyH_take (i := 2) (v := ?v168) rfl (by kernel_rfl) (by kernel_rfl) (by kernel_rfl) (fun _ _ _ h => by first | exact h | exact absurd h.1 (fun e => by cases e)) (Or.inl ⟨by rfl, ?hy168⟩) (by assumption) ?rest168
                  case hy168 =>
                    intro w hSw
                    skip
                    go_simp
                    try with_reducible rfl
                  go_simp
                  refine wpAnyH_take (i := 3) (v := ?v169) rfl (by kernel_rfl) (by kernel_rfl) (by kernel_rfl) (fun _ _ _ h => by first | exact h | exact absurd h.1 (fun e => by cases e)) (Or.inl ⟨by rfl, ?hy169⟩) (by assumption) ?rest169
                  case hy169 =>
                    intro w hSw
                    skip
                    go_simp
                    try with_reducible rfl
                  go_simp
                  refine wpAnyH_take (i := 4) (v := ?v170) rfl (by kernel_rfl) (by kernel_rfl) (by kernel_rfl) (fun _ _ _ h => by first | exact h | exact absurd h.1 (fun e => by cases e)) (Or.inl ⟨by rfl, ?hy170⟩) (by assumption) ?rest170
                  case hy170 =>
                    intro w hSw
                    skip
                    go_simp
                    try with_reducible rfl
                  go_simp
                  refine wpAnyH_take (i := 5) (v := ?v171) rfl (by kernel_rfl) (by kernel_rfl) (by kernel_rfl) (fun _ _ _ h => by first | exact h | exact absurd h.1 (fun e => by cases e)) (Or.inl ⟨by rfl, ?hy171⟩) (by assumption) ?rest171
                  case hy171 =>
                    intro w hSw
                    skip
                    go_simp
                    try with_reducible rfl
                  go_simp
                  refine wpAnyH_take (i := 6) (v := ?v172) rfl (by kernel_rfl) (by kernel_rfl) (by kernel_rfl) (fun _ _ _ h => by first | exact h | exact absurd h.1 (fun e => by cases e)) (Or.inl ⟨by rfl, ?hy172⟩) (by assumption) ?rest172
                  case hy172 =>
                    intro w hSw
                    skip
                    go_simp
                    try with_reducible rfl
                  go_simp
                  refine wpAnyH_take (i := 7) (v := ?v173) rfl (by kernel_rfl) (by kernel_rfl) (by kernel_rfl) (fun _ _ _ h => by first | exact h | exact absurd h.1 (fun e => by cases e)) (Or.inl ⟨by rfl, ?hy173⟩) (by assumption) ?rest173
                  case hy173 =>
                    intro w hSw
                    skip
                    go_simp
                    try with_reducible rfl
                  go_simp
                  refine wpAnyH_take (i := 8) (v := ?v174) rfl (by kernel_rfl) (by kernel_rfl) (by kernel_rfl) (fun _ _ _ h => by first | exact h | exact absurd h.1 (fun e => by cases e)) (Or.inl ⟨by rfl, ?hy174⟩) (by assumption) ?rest174
                  case hy174 =>
                    intro w hSw
                    skip
                    go_simp
                    try with_reducible rfl
                  go_simp
                  refine wpAnyH_take (i := 9) (v := ?v175) rfl (by kernel_rfl) (by kernel_rfl) (by kernel_rfl) (fun _ _ _ h => by first | exact h | exact absurd h.1 (fun e => by cases e)) (Or.inl ⟨by rfl, ?hy175⟩) (by assumption) ?rest175
                  case hy175 =>
                    intro w hSw
                    skip
                    go_simp
                    try with_reducible rfl
                  go_simp
                  refine wpAnyH_take (i := 10) (v := ?v176) rfl (by kernel_rfl) (by kernel_rfl) (by kernel_rfl) (fun _ _ _ h => by first | exact h | exact absurd h.1 (fun e => by cases e)) (Or.inl ⟨by rfl, ?hy176⟩) (by assumption) ?rest176
                  case hy176 =>
                    intro w hSw
                    skip
                    go_simp
                    try with_reducible rfl
                  go_simp
                  refine wpAnyH_take (i := 11) (v := ?v177) rfl (by kernel_rfl) (by kernel_rfl) (by kernel_rfl) (fun _ _ _ h => by first | exact h | exact absurd h.1 (fun e => by cases e)) (Or.inl ⟨by rfl, ?hy177⟩) (by assumption) ?rest177
                  case hy177 =>
                    intro w hSw
                    skip
                    go_simp
                    try with_reducible rfl
                  go_simp
                  refine wpAnyH_take (i := 12) (v := ?v178) rfl (by kernel_rfl) (by kernel_rfl) (by kernel_rfl) (fun _ _ _ h => by first | exact h | exact absurd h.1 (fun e => by cases e)) (Or.inl ⟨by rfl, ?hy178⟩) (by assumption) ?rest178
                  case hy178 =>
                    intro w hSw
                    skip
                    go_simp
                    try with_reducible rfl
                  go_simp
                  refine wpAnyH_take (i := 13) (v := ?v179) rfl (by kernel_rfl) (by kernel_rfl) (by kernel_rfl) (fun _ _ _ h => by first | exact h | exact absurd h.1 (fun e => by cases e)) (Or.inl ⟨by rfl, ?hy179⟩) (by assumption) ?rest179
                  case hy179 =>
                    intro w hSw
                    skip
                    go_simp
                    try with_reducible rfl
                  go_simp
                  refine wpAnyH_take (i := 14) (v := ?v180) rfl (by kernel_rfl) (by kernel_rfl) (by kernel_rfl) (fun _ _ _ h => by first | exact h | exact absurd h.1 (fun e => by cases e)) (Or.inl ⟨by rfl, ?hy180⟩) (by assumption) ?rest180
                  case hy180 =>
                    intro w hSw
                    skip
                    go_simp
                    try with_reducible rfl
                  go_simp
                  refine wpAnyH_take (i := 15) (v := ?v181) rfl (by kernel_rfl) (by kernel_rfl) (by kernel_rfl) (fun _ _ _ h => by first | exact h | exact absurd h.1 (fun e => by cases e)) (Or.inl ⟨by rfl, ?hy181⟩) (by assumption) ?rest181
                  case hy181 =>
                    intro w hSw
                    skip
                    go_simp
                    try with_reducible rfl
                  go_simp
                  refine wpAnyH_take (i := 16) (v := ?v182) rfl (by kernel_rfl) (by kernel_rfl) (by kernel_rfl) (fun _ _ _ h => by first | exact h | exact absurd h.1 (fun e => by cases e)) (Or.inl ⟨by rfl, ?hy182⟩) (by assumption) ?rest182
                  case hy182 =>
                    intro w hSw
                    skip
                    go_simp
                    try with_reducible rfl
                  go_simp
                  refine wpAnyH_take (i := 17) (v := ?v183) rfl (by kernel_rfl) (by kernel_rfl) (by kernel_rfl) (fun _ _ _ h => by first | exact h | exact absurd h.1 (fun e => by cases e)) (Or.inl ⟨by rfl, ?hy183⟩) (by assumption) ?rest183
                  case hy183 =>
                    intro w hSw
                    skip
                    go_simp
                    try with_reducible rfl
                  go_simp
                  refine wpAnyH_take (i := 18) (v := undef) rfl (by kernel_rfl) (by kernel_rfl) (by kernel_rfl) (fun _ _ _ h => by first | exact h | exact absurd h.1 (fun e => by cases e)) (Or.inr ⟨by rfl, rfl⟩) (by assumption) ?rest184
                  go_simp
                  refine wpAnyH_take (i := 19) (v := undef) rfl (by kernel_rfl) (by kernel_rfl) (by kernel_rfl) (fun _ _ _ h => by first | exact h | exact absurd h.1 (fun e => by cases e)) (Or.inr ⟨by rfl, rfl⟩) (by assumption) ?rest185
                  go_simp
                  refine wpAnyH_take (i := 20) (v := undef) rfl (by kernel_rfl) (by kernel_rfl) (by kernel_rfl) (fun _ _ _ h => by first | exact h | exact absurd h.1 (fun e => by cases e)) (Or.inr ⟨by rfl, rfl⟩) (by assumption) ?rest186
                  go_simp
                  refine wpAnyH_take (i := 21) (v := undef) rfl (by kernel_rfl) (by kernel_rfl) (by kernel_rfl) (fun _ _ _ h => by first | exact h | exact absurd h.1 (fun e => by cases e)) (Or.inr ⟨by rfl, rfl⟩) (by assumption) ?rest187
                  go_simp
                  refine wpAnyH_take (i := 22) (v := ?v188) rfl (by kernel_rfl) (by kernel_rfl) (by kernel_rfl) (fun _ _ _ h => by first | exact h | exact absurd h.1 (fun e => by cases e)) (Or.inl ⟨by rfl, ?hy188⟩) (by assumption) ?rest188
                  case hy188 =>
                    intro w hSw
                    skip
                    go_simp
                    try with_reducible rfl
                  go_simp
                  refine wpAnyH_take (i := 23) (v := ?v189) rfl (by kernel_rfl) (by kernel_rfl) (by kernel_rfl) (fun _ _ _ h => by first | exact h | exact absurd h.1 (fun e => by cases e)) (Or.inl ⟨by rfl, ?hy189⟩) (by assumption) ?rest189
                  case hy189 =>
                    intro w hSw
                    skip
                    go_simp
                    try with_reducible rfl
                  go_simp
                  refine wpAnyH_take (i := 24) (v := ?v190) rfl (by kernel_rfl) (by kernel_rfl) (by kernel_rfl) (fun _ _ _ h => by first | exact h | exact absurd h.1 (fun e => by cases e)) (Or.inl ⟨by rfl, ?hy190⟩) (by assumption) ?rest190
                  case hy190 =>
                    intro w hSw
                    skip
                    go_simp
                    try with_reducible rfl
                  go_simp
                  refine wpAnyH_take (i := 25) (v := ?v191) rfl (by kernel_rfl) (by kernel_rfl) (by kernel_rfl) (fun _ _ _ h => by first | exact h | exact absurd h.1 (fun e => by cases e)) (Or.inl ⟨by rfl, ?hy191⟩) (by assumption) ?rest191
                  case hy191 =>
                    intro w hSw
                    skip
                    go_simp
                    try with_reducible rfl
                  go_simp
                  refine wpAnyH_take (i := 27) (v := ?v192) rfl (by kernel_rfl) (by kernel_rfl) (by kernel_rfl) (fun _ _ _ h => by first | exact h | exact absurd h.1 (fun e => by cases e)) (Or.inl ⟨by rfl, ?hy192⟩) (by assumption) ?rest192
                  case hy192 =>
                    intro w hSw
                    skip
                    go_simp
                    try with_reducible rfl
                  go_simp
                  refine wpAnyH_take (i := 28) (v := ?v193) rfl (by kernel_rfl) (by kernel_rfl) (by kernel_rfl) (fun _ _ _ h => by first | exact h | exact absurd h.1 (fun e => by cases e)) (Or.inl ⟨by rfl, ?hy193⟩) (by assumption) ?rest193
                  case hy193 =>
                    intro w hSw
                    skip
                    go_simp
                    try with_reducible rfl
                  go_simp
                  refine wpAnyH_take (i := 29) (v := ?v194) rfl (by kernel_rfl) (by kernel_rfl) (by kernel_rfl) (fun _ _ _ h => by first | exact h | exact absurd h.1 (fun e => by cases e)) (Or.inl ⟨by rfl, ?hy194⟩) (by assumption) ?rest194
                  case hy194 =>
                    intro w hSw
                    skip
                    go_simp
                    try with_reducible rfl
                  go_simp
                  refine wpAnyH_ready (rs := [26]) (by kernel_rfl) (by simp) ?_
                  refine AllReadyH.cons rfl (fun K hK => ?_) AllReadyH.nil
                  go_simp
                  refine (hdn.out _ hSn).mono ?_
                  rintro e v2 ⟨A8, c8, rfl, hl8, k8⟩
                  have hl8k := hSn.trans k8
                  refine hK.out _ _ (hSn.trans k8) (fun hSn => ?_)
                  clear hK K
                  go_simp
                  refine wpAnyH_ready (rs := [30]) (by kernel_rfl) (by simp) ?_
                  refine AllReadyH.cons rfl (fun K hK => ?_) AllReadyH.nil
                  go_simp
                  refine (HSP.out A8 c8 v2 v2 hl8k hl8).mono ?_
                  rintro e v3 ⟨rfl, k9⟩
                  refine hK.out _ _ (hSn.trans k9) (fun hSn => ?_)
                  clear hK K
                  go_simp
                  refine wpAnyH_take (i := 31) (v := ?v195) rfl (by kernel_rfl) (by kernel_rfl) (by kernel_rfl) (fun _ _ _ h => by first | exact h | exact absurd h.1 (fun e => by cases e)) (Or.inl ⟨by rfl, ?hy195⟩) (by assumption) ?rest195
                  case hy195 =>
                    intro w hSw
                    skip
                    go_simp
                    try with_reducible rfl
                  go_simp
                  refine wpAnyH_take (i := 32) (v := ?v196) rfl (by kernel_rfl) (by kernel_rfl) (by kernel_rfl) (fun _ _ _ h => by first | exact h | exact absurd h.1 (fun e => by cases e)) (Or.inl ⟨by rfl, ?hy196⟩) (by assumption) ?rest196
                  case hy196 =>
                    intro w hSw
                    skip
                    go_simp
                    try with_reducible rfl
                  go_simp
                  refine wpAnyH_done (by kernel_rfl) ?_ _
                  have D2 := Lib.hid (D1.out.calm hSn)
                  clear hSn hl8 hl8k k8 k9 hdn HSP hw1 hw2 hgd haacI
                  go_simp
                  go_wp2_with fail
                  go_roundw
                  case rel => exact ⟨i + 1, d, A, c, aA, ac, l, by omega, by go_num, by first | rfl | go_num, rfl, (by omega), D2⟩
                  case measure => simp [intOf]; omega
                · obtain ⟨d8, he⟩ : ∃ z, z = d + 1 := ⟨d + 1, rfl⟩
                  have hz1 : decide ((d : Int) < (l.length : Int)) = true := decide_eq_true (by omega)
                  have hz2 : decide (d < l.length) = true := decide_eq_true (by omega)
                  have hwd : IntKind.i64.wrap ((d : Int) + 1) = (d8 : Int) := by rw [IntKind.wrap_i64]; omega
                  have hel : (d : Int) < (l.length : Int) := by omega
                  obtain ⟨x, hx⟩ : ∃ x, l[d]? = some x := ⟨_, List.getElem?_eq_getElem (by omega)⟩
                  have hat : d < 1000000000 := by omega
                  have HE := Lib.hid he
                  clear he hd0
                  go_wp2_with fail
                  obtain ⟨w3, hw3⟩ : ∃ z, z = wr.alloc (.cells #[.int .i8 (IntKind.i8.wrap n), .string ⟨#[112]⟩] 49) := ⟨_, rfl⟩
                  have K3 : Keeps (fun _ => False) wr w3 := by rw [hw3]; exact (Keeps.refl _ _).alloc _
                  have WX : Hid (Whole w3 wr.heap.size 49 #[.int .i8 (IntKind.i8.wrap n), .string ⟨#[112]⟩]) := Lib.hid (by rw [hw3]; exact Whole.made _ _ _)
                  rw [← hw3]
                  have D3 := Lib.hid (D0.out.calm K3)
                  have hsx : sp < wr.heap.size := D0.out.st.box.inside
                  clear hw3
                  refine (redoP_any sp c d most x A l w3 D3.out.st hx hat).mono ?_
                  rintro e' w4 ⟨rfl, hst, k4⟩
                  have D4 : Hid (DnAt w2 w4 sp B A c aA ac l d8 most) := Lib.hid (D3.out.moved ((by rw [HE.out]; exact hst)) k4)
                  clear K3 k4 hst D3 D0 WX b0 b2 d0
                  go_wp2_with fail
                  obtain ⟨w5, hw5⟩ : ∃ z, z = w4.alloc (.cells #[.int .i8 x.1, .string x.2] 49) := ⟨_, rfl⟩
                  have K5 : Keeps (fun _ => False) w4 w5 := by rw [hw5]; exact (Keeps.refl _ _).alloc _
                  have WY : Hid (Whole w5 w4.heap.size 49 #[.int .i8 x.1, .string x.2]) := Lib.hid (by rw [hw5]; exact Whole.made _ _ _)
                  rw [← hw5]
                  have D5 := Lib.hid (D4.out.calm K5)
                  obtain ⟨yb, hyb⟩ : ∃ z, z = w4.heap.size := ⟨_, rfl⟩
                  rw [← hyb] at WY ⊢
                  have y0 := WY.out.cellAt 0
                  have y1 := WY.out.cellAt 1
                  simp at y0 y1
                  clear hw5 K5 hyb D4 WY
                  obtain ⟨g2, off2, hA2, -, cy0, cy1⟩ := D5.out.lies d x hx
                  subst hA2
                  have hq := fun w => ne_pair x x w
                  simp only [decide_true, Bool.not_true] at hq
                  go_quiet (fail)
                  have D6 := Lib.hid (D5.out.calm ((Keeps.refl _ _).drewN nq))
                  clear D5 y0 y1 hq cy0 cy1
                  obtain ⟨w6, hw6⟩ : ∃ z, z = w5.drewN nq := ⟨_, rfl⟩
                  rw [← hw6] at D6 ⊢
                  clear hw6
                  go_wp2_with fail
                  refine (lenP_stack sp c d8 most A l w6 D6.out.st (by omega)).mono ?_
                  rintro e v1 ⟨rfl, kv1⟩
                  have D1 := Lib.hid (D6.out.calm kv1)
                  have hle := D1.out.st.le
                  have htop := D1.out.top
                  have hw1 : IntKind.i64.wrap (((l).length : Int) - ((d8 : Nat) : Int)) = ((l).length : Int) - ((d8 : Nat) : Int) := by rw [IntKind.wrap_i64]; omega
                  have hw2 : IntKind.i64.wrap (((d8 : Nat) : Int) + (((l).length : Int) - ((d8 : Nat) : Int))) = ((d8 : Nat) : Int) + (((l).length : Int) - ((d8 : Nat) : Int)) := by rw [IntKind.wrap_i64]; omega
                  have hgt : ¬ (most < ((d8 : Nat) : Int) + (((l).length : Int) - ((d8 : Nat) : Int))) := by omega
                  have hgd : decide (most < ((d8 : Nat) : Int) + (((l).length : Int) - ((d8 : Nat) : Int))) = false := decide_eq_false hgt
                  have haac : d8 ≤ ac := by have := D1.out.aad.1; omega
                  have haacI : ((d8 : Nat) : Int) ≤ (ac : Int) := by omega
                  have hdn : Hid (∀ W, Keeps (fun _ => False) v1 W → Calls Try.prog 52 #[.pointer (some ⟨sp, 0, none⟩)] W fun e w' => ∃ A' c', e = .returned (.slice A' d8 c') ∧ PrLies w' w'.heap.size A' ((l).take d8) ∧ Keeps (fun _ => False) W w') := Lib.hid (fun W hW => (doneP_any sp c d8 most A l W (D1.out.calm hW).st (by omega)).mono (fun e w' h => by
                    obtain ⟨A', c', he, hm⟩ := h
                    have h1 : ((l).take d8).length = d8 := by rw [List.length_take]; omega
                    rw [h1] at he
                    exact ⟨A', c', he, hm.later (Keeps.refl _ _), hm.keeps⟩))
                  have HSP : Hid (∀ (A' : Option Addr) (c' : Nat) (W1 W2 : World), Keeps (fun _ => False) v1 W1 → PrLies W1 W1.heap.size A' ((l).take d8) → Calls Try.prog 51 #[.slice A' d8 c', .slice (some ⟨g2, off2, none⟩) d8 ac] W1 fun e w' => e = .returned (.bool true) ∧ Keeps (fun _ => False) W1 w') := Lib.hid (fun A' c' W1 W2 hW hl => by
                    have h1 : ((l).take d8).length = d8 := by rw [List.length_take]; omega
                    have h2 : PrLies W1 W1.heap.size (some ⟨g2, off2, none⟩) ((l).take d8) := fun j y hy => by
                      rw [List.getElem?_take] at hy
                      split at hy
                      · exact (D1.out.calm hW).lies j y hy
                      · cases hy
                    have h3 := samePairs_eq ((l).take d8) A' (some ⟨g2, off2, none⟩) W1.heap.size W1.heap.size c' ac W1 hl h2 (by omega)
                    rw [h1] at h3
                    exact h3)
                  clear kv1 hgt hle htop
                  go_wp2_with fail
                  refine wp_region_held_drew (S := fun W => Keeps (fun _ => False) v1 W) (by kernel_rfl) ((Keeps.refl _ v1).drew) ?_
                  intro hSn
                  refine wpAnyH_take (i := 0) (v := ?v197) rfl (by kernel_rfl) (by kernel_rfl) (by kernel_rfl) (fun _ _ _ h => by first | exact h | exact absurd h.1 (fun e => by cases e)) (Or.inl ⟨by rfl, ?hy197⟩) (by assumption) ?rest197
                  case hy197 =>
                    intro w hSw
                    skip
                    go_simp
                    try with_reducible rfl
                  go_simp
                  refine wpAnyH_take (i := 1) (v := ?v198) rfl (by kernel_rfl) (by kernel_rfl) (by kernel_rfl) (fun _ _ _ h => by first | exact h | exact absurd h.1 (fun e => by cases e)) (Or.inl ⟨by rfl, ?hy198⟩) (by assumption) ?rest198
                  case hy198 =>
                    intro w hSw
                    skip
                    go_simp
                    try with_reducible rfl
                  go_simp
                  refine wpAnyH_take (i := 2) (v := ?v199) rfl (by kernel_rfl) (by kernel_rfl) (by kernel_rfl) (fun _ _ _ h => by first | exact h | exact absurd h.1 (fun e => by cases e)) (Or.inl ⟨by rfl, ?hy199⟩) (by assumption) ?rest199
                  case hy199 =>
                    intro w hSw
                    skip
                    go_simp
                    try with_reducible rfl
                  go_simp
                  refine wpAnyH_take (i := 3) (v := ?v200) rfl (by kernel_rfl) (by kernel_rfl) (by kernel_rfl) (fun _ _ _ h => by first | exact h | exact absurd h.1 (fun e => by cases e)) (Or.inl ⟨by rfl, ?hy200⟩) (by assumption) ?rest200
                  case hy200 =>
                    intro w hSw
                    skip
                    go_simp
                    try with_reducible rfl
                  go_simp
                  refine wpAnyH_take (i := 4) (v := ?v201) rfl (by kernel_rfl) (by kernel_rfl) (by kernel_rfl) (fun _ _ _ h => by first | exact h | exact absurd h.1 (fun e => by cases e)) (Or.inl ⟨by rfl, ?hy201⟩) (by assumption) ?rest201
                  case hy201 =>
                    intro w hSw
                    skip
                    go_simp
                    try with_reducible rfl
                  go_simp
                  refine wpAnyH_take (i := 5) (v := ?v202) rfl (by kernel_rfl) (by kernel_rfl) (by kernel_rfl) (fun _ _ _ h => by first | exact h | exact absurd h.1 (fun e => by cases e)) (Or.inl ⟨by rfl, ?hy202⟩) (by assumption) ?rest202
                  case hy202 =>
                    intro w hSw
                    skip
                    go_simp
                    try with_reducible rfl
                  go_simp
                  refine wpAnyH_take (i := 6) (v := ?v203) rfl (by kernel_rfl) (by kernel_rfl) (by kernel_rfl) (fun _ _ _ h => by first | exact h | exact absurd h.1 (fun e => by cases e)) (Or.inl ⟨by rfl, ?hy203⟩) (by assumption) ?rest203
                  case hy203 =>
                    intro w hSw
                    skip
                    go_simp
                    try with_reducible rfl
                  go_simp
                  refine wpAnyH_take (i := 7) (v := ?v204) rfl (by kernel_rfl) (by kernel_rfl) (by kernel_rfl) (fun _ _ _ h => by first | exact h | exact absurd h.1 (fun e => by cases e)) (Or.inl ⟨by rfl, ?hy204⟩) (by assumption) ?rest204
                  case hy204 =>
                    intro w hSw
                    skip
                    go_simp
                    try with_reducible rfl
                  go_simp
                  refine wpAnyH_take (i := 8) (v := ?v205) rfl (by kernel_rfl) (by kernel_rfl) (by kernel_rfl) (fun _ _ _ h => by first | exact h | exact absurd h.1 (fun e => by cases e)) (Or.inl ⟨by rfl, ?hy205⟩) (by assumption) ?rest205
                  case hy205 =>
                    intro w hSw
                    skip
                    go_simp
                    try with_reducible rfl
                  go_simp
                  refine wpAnyH_take (i := 9) (v := ?v206) rfl (by kernel_rfl) (by kernel_rfl) (by kernel_rfl) (fun _ _ _ h => by first | exact h | exact absurd h.1 (fun e => by cases e)) (Or.inl ⟨by rfl, ?hy206⟩) (by assumption) ?rest206
                  case hy206 =>
                    intro w hSw
                    skip
                    go_simp
                    try with_reducible rfl
                  go_simp
                  refine wpAnyH_take (i := 10) (v := ?v207) rfl (by kernel_rfl) (by kernel_rfl) (by kernel_rfl) (fun _ _ _ h => by first | exact h | exact absurd h.1 (fun e => by cases e)) (Or.inl ⟨by rfl, ?hy207⟩) (by assumption) ?rest207
                  case hy207 =>
                    intro w hSw
                    skip
                    go_simp
                    try with_reducible rfl
                  go_simp
                  refine wpAnyH_take (i := 11) (v := ?v208) rfl (by kernel_rfl) (by kernel_rfl) (by kernel_rfl) (fun _ _ _ h => by first | exact h | exact absurd h.1 (fun e => by cases e)) (Or.inl ⟨by rfl, ?hy208⟩) (by assumption) ?rest208
                  case hy208 =>
                    intro w hSw
                    skip
                    go_simp
                    try with_reducible rfl
                  go_simp
                  refine wpAnyH_take (i := 12) (v := ?v209) rfl (by kernel_rfl) (by kernel_rfl) (by kernel_rfl) (fun _ _ _ h => by first | exact h | exact absurd h.1 (fun e => by cases e)) (Or.inl ⟨by rfl, ?hy209⟩) (by assumption) ?rest209
                  case hy209 =>
                    intro w hSw
                    skip
                    go_simp
                    try with_reducible rfl
                  go_simp
                  refine wpAnyH_take (i := 13) (v := ?v210) rfl (by kernel_rfl) (by kernel_rfl) (by kernel_rfl) (fun _ _ _ h => by first | exact h | exact absurd h.1 (fun e => by cases e)) (Or.inl ⟨by rfl, ?hy210⟩) (by assumption) ?rest210
                  case hy210 =>
                    intro w hSw
                    skip
                    go_simp
                    try with_reducible rfl
                  go_simp
                  refine wpAnyH_take (i := 14) (v := ?v211) rfl (by kernel_rfl) (by kernel_rfl) (by kernel_rfl) (fun _ _ _ h => by first | exact h | exact absurd h.1 (fun e => by cases e)) (Or.inl ⟨by rfl, ?hy211⟩) (by assumption) ?rest211
                  case hy211 =>
                    intro w hSw
                    skip
                    go_simp
                    try with_reducible rfl
                  go_simp
                  refine wpAnyH_take (i := 15) (v := ?v212) rfl (by kernel_rfl) (by kernel_rfl) (by kernel_rfl) (fun _ _ _ h => by first | exact h | exact absurd h.1 (fun e => by cases e)) (Or.inl ⟨by rfl, ?hy212⟩) (by assumption) ?rest212
                  case hy212 =>
                    intro w hSw
                    skip
                    go_simp
                    try with_reducible rfl
                  go_simp
                  refine wpAnyH_take (i := 16) (v := ?v213) rfl (by kernel_rfl) (by kernel_rfl) (by kernel_rfl) (fun _ _ _ h => by first | exact h | exact absurd h.1 (fun e => by cases e)) (Or.inl ⟨by rfl, ?hy213⟩) (by assumption) ?rest213
                  case hy213 =>
                    intro w hSw
                    skip
                    go_simp
                    try with_reducible rfl
                  go_simp
                  refine wpAnyH_take (i := 17) (v := ?v214) rfl (by kernel_rfl) (by kernel_rfl) (by kernel_rfl) (fun _ _ _ h => by first | exact h | exact absurd h.1 (fun e => by cases e)) (Or.inl ⟨by rfl, ?hy214⟩) (by assumption) ?rest214
                  case hy214 =>
                    intro w hSw
                    skip
                    go_simp
                    try with_reducible rfl
                  go_simp
                  refine wpAnyH_take (i := 18) (v := undef) rfl (by kernel_rfl) (by kernel_rfl) (by kernel_rfl) (fun _ _ _ h => by first | exact h | exact absurd h.1 (fun e => by cases e)) (Or.inr ⟨by rfl, rfl⟩) (by assumption) ?rest215
                  go_simp
                  refine wpAnyH_take (i := 19) (v := undef) rfl (by kernel_rfl) (by kernel_rfl) (by kernel_rfl) (fun _ _ _ h => by first | exact h | exact absurd h.1 (fun e => by cases e)) (Or.inr ⟨by rfl, rfl⟩) (by assumption) ?rest216
                  go_simp
                  refine wpAnyH_take (i := 20) (v := undef) rfl (by kernel_rfl) (by kernel_rfl) (by kernel_rfl) (fun _ _ _ h => by first | exact h | exact absurd h.1 (fun e => by cases e)) (Or.inr ⟨by rfl, rfl⟩) (by assumption) ?rest217
                  go_simp
                  refine wpAnyH_take (i := 21) (v := undef) rfl (by kernel_rfl) (by kernel_rfl) (by kernel_rfl) (fun _ _ _ h => by first | exact h | exact absurd h.1 (fun e => by cases e)) (Or.inr ⟨by rfl, rfl⟩) (by assumption) ?rest218
                  go_simp
                  refine wpAnyH_take (i := 22) (v := ?v219) rfl (by kernel_rfl) (by kernel_rfl) (by kernel_rfl) (fun _ _ _ h => by first | exact h | exact absurd h.1 (fun e => by cases e)) (Or.inl ⟨by rfl, ?hy219⟩) (by assumption) ?rest219
                  case hy219 =>
                    intro w hSw
                    skip
                    go_simp
                    try with_reducible rfl
                  go_simp
                  refine wpAnyH_take (i := 23) (v := ?v220) rfl (by kernel_rfl) (by kernel_rfl) (by kernel_rfl) (fun _ _ _ h => by first | exact h | exact absurd h.1 (fun e => by cases e)) (Or.inl ⟨by rfl, ?hy220⟩) (by assumption) ?rest220
                  case hy220 =>
                    intro w hSw
                    skip
                    go_simp
                    try with_reducible rfl
                  go_simp
                  refine wpAnyH_take (i := 24) (v := ?v221) rfl (by kernel_rfl) (by kernel_rfl) (by kernel_rfl) (fun _ _ _ h => by first | exact h | exact absurd h.1 (fun e => by cases e)) (Or.inl ⟨by rfl, ?hy221⟩) (by assumption) ?rest221
                  case hy221 =>
                    intro w hSw
                    skip
                    go_simp
                    try with_reducible rfl
                  go_simp
                  refine wpAnyH_take (i := 25) (v := ?v222) rfl (by kernel_rfl) (by kernel_rfl) (by kernel_rfl) (fun _ _ _ h => by first | exact h | exact absurd h.1 (fun e => by cases e)) (Or.inl ⟨by rfl, ?hy222⟩) (by assumption) ?rest222
                  case hy222 =>
                    intro w hSw
                    skip
                    go_simp
                    try with_reducible rfl
                  go_simp
                  refine wpAnyH_take (i := 27) (v := ?v223) rfl (by kernel_rfl) (by kernel_rfl) (by kernel_rfl) (fun _ _ _ h => by first | exact h | exact absurd h.1 (fun e => by cases e)) (Or.inl ⟨by rfl, ?hy223⟩) (by assumption) ?rest223
                  case hy223 =>
                    intro w hSw
                    skip
                    go_simp
                    try with_reducible rfl
                  go_simp
                  refine wpAnyH_take (i := 28) (v := ?v224) rfl (by kernel_rfl) (by kernel_rfl) (by kernel_rfl) (fun _ _ _ h => by first | exact h | exact absurd h.1 (fun e => by cases e)) (Or.inl ⟨by rfl, ?hy224⟩) (by assumption) ?rest224
                  case hy224 =>
                    intro w hSw
                    skip
                    go_simp
                    try with_reducible rfl
                  go_simp
                  refine wpAnyH_take (i := 29) (v := ?v225) rfl (by kernel_rfl) (by kernel_rfl) (by kernel_rfl) (fun _ _ _ h => by first | exact h | exact absurd h.1 (fun e => by cases e)) (Or.inl ⟨by rfl, ?hy225⟩) (by assumption) ?rest225
                  case hy225 =>
                    intro w hSw
                    skip
                    go_simp
                    try with_reducible rfl
                  go_simp
                  refine wpAnyH_ready (rs := [26]) (by kernel_rfl) (by simp) ?_
                  refine AllReadyH.cons rfl (fun K hK => ?_) AllReadyH.nil
                  go_simp
                  refine (hdn.out _ hSn).mono ?_
                  rintro e v2 ⟨A8, c8, rfl, hl8, k8⟩
                  have hl8k := hSn.trans k8
                  refine hK.out _ _ (hSn.trans k8) (fun hSn => ?_)
                  clear hK K
                  go_simp
                  refine wpAnyH_ready (rs := [30]) (by kernel_rfl) (by simp) ?_
                  refine AllReadyH.cons rfl (fun K hK => ?_) AllReadyH.nil
                  go_simp
                  refine (HSP.out A8 c8 v2 v2 hl8k hl8).mono ?_
                  rintro e v3 ⟨rfl, k9⟩
                  refine hK.out _ _ (hSn.trans k9) (fun hSn => ?_)
                  clear hK K
                  go_simp
                  refine wpAnyH_take (i := 31) (v := ?v226) rfl (by kernel_rfl) (by kernel_rfl) (by kernel_rfl) (fun _ _ _ h => by first | exact h | exact absurd h.1 (fun e => by cases e)) (Or.inl ⟨by rfl, ?hy226⟩) (by assumption) ?rest226
                  case hy226 =>
                    intro w hSw
                    skip
                    go_simp
                    try with_reducible rfl
                  go_simp
                  refine wpAnyH_take (i := 32) (v := ?v227) rfl (by kernel_rfl) (by kernel_rfl) (by kernel_rfl) (fun _ _ _ h => by first | exact h | exact absurd h.1 (fun e => by cases e)) (Or.inl ⟨by rfl, ?hy227⟩) (by assumption) ?rest227
                  case hy227 =>
                    intro w hSw
                    skip
                    go_simp
                    try with_reducible rfl
                  go_simp
                  refine wpAnyH_done (by kernel_rfl) ?_ _
                  have D2 := Lib.hid (D1.out.calm hSn)
                  clear hSn hl8 hl8k k8 k9 hdn HSP hw1 hw2 hgd haacI
                  go_simp
                  go_wp2_with fail
                  go_roundw
                  case rel => exact ⟨i + 1, d8, A, c, (some ⟨g2, off2, none⟩), ac, l, by omega, by go_num, by first | rfl | go_num, rfl, (by omega), D2⟩
                  case measure => simp [intOf]; omega
              · have e2 : decide (k = 2) = false := decide_eq_false hk2
                go_wp2_with fail
                obtain ⟨w3, hw3⟩ : ∃ z, z = wr.alloc (.cells #[.int .i8 (IntKind.i8.wrap n), .string ⟨#[112]⟩] 49) := ⟨_, rfl⟩
                have K3 : Keeps (fun _ => False) wr w3 := by rw [hw3]; exact (Keeps.refl _ _).alloc _
                have WX : Hid (Whole w3 wr.heap.size 49 #[.int .i8 (IntKind.i8.wrap n), .string ⟨#[112]⟩]) := Lib.hid (by rw [hw3]; exact Whole.made _ _ _)
                rw [← hw3]
                have D3 := Lib.hid (D0.out.calm K3)
                have hsx : sp < wr.heap.size := D0.out.st.box.inside
                clear hw3
                clear K3 D0 WX b0 b2 d0
                refine (lenP_stack sp c d most A l w3 D3.out.st (by omega)).mono ?_
                rintro e v1 ⟨rfl, kv1⟩
                have D1 := Lib.hid (D3.out.calm kv1)
                have hle := D1.out.st.le
                have htop := D1.out.top
                have hw1 : IntKind.i64.wrap (((l).length : Int) - ((d : Nat) : Int)) = ((l).length : Int) - ((d : Nat) : Int) := by rw [IntKind.wrap_i64]; omega
                have hw2 : IntKind.i64.wrap (((d : Nat) : Int) + (((l).length : Int) - ((d : Nat) : Int))) = ((d : Nat) : Int) + (((l).length : Int) - ((d : Nat) : Int)) := by rw [IntKind.wrap_i64]; omega
                have hgt : ¬ (most < ((d : Nat) : Int) + (((l).length : Int) - ((d : Nat) : Int))) := by omega
                have hgd : decide (most < ((d : Nat) : Int) + (((l).length : Int) - ((d : Nat) : Int))) = false := decide_eq_false hgt
                have haac : d ≤ ac := by have := D1.out.aad.1; omega
                have haacI : ((d : Nat) : Int) ≤ (ac : Int) := by omega
                have hdn : Hid (∀ W, Keeps (fun _ => False) v1 W → Calls Try.prog 52 #[.pointer (some ⟨sp, 0, none⟩)] W fun e w' => ∃ A' c', e = .returned (.slice A' d c') ∧ PrLies w' w'.heap.size A' ((l).take d) ∧ Keeps (fun _ => False) W w') := Lib.hid (fun W hW => (doneP_any sp c d most A l W (D1.out.calm hW).st (by omega)).mono (fun e w' h => by
                  obtain ⟨A', c', he, hm⟩ := h
                  have h1 : ((l).take d).length = d := by rw [List.length_take]; omega
                  rw [h1] at he
                  exact ⟨A', c', he, hm.later (Keeps.refl _ _), hm.keeps⟩))
                have HSP : Hid (∀ (A' : Option Addr) (c' : Nat) (W1 W2 : World), Keeps (fun _ => False) v1 W1 → PrLies W1 W1.heap.size A' ((l).take d) → Calls Try.prog 51 #[.slice A' d c', .slice aA d ac] W1 fun e w' => e = .returned (.bool true) ∧ Keeps (fun _ => False) W1 w') := Lib.hid (fun A' c' W1 W2 hW hl => by
                  have h1 : ((l).take d).length = d := by rw [List.length_take]; omega
                  have h2 : PrLies W1 W1.heap.size aA ((l).take d) := fun j y hy => by
                    rw [List.getElem?_take] at hy
                    split at hy
                    · exact (D1.out.calm hW).lies j y hy
                    · cases hy
                  have h3 := samePairs_eq ((l).take d) A' aA W1.heap.size W1.heap.size c' ac W1 hl h2 (by omega)
                  rw [h1] at h3
                  exact h3)
                clear kv1 hgt hle htop
                go_wp2_with fail
                refine wp_region_held_drew (S := fun W => Keeps (fun _ => False) v1 W) (by kernel_rfl) ((Keeps.refl _ v1).drew) ?_
                intro hSn
                refine wpAnyH_take (i := 0) (v := ?v228) rfl (by kernel_rfl) (by kernel_rfl) (by kernel_rfl) (fun _ _ _ h => by first | exact h | exact absurd h.1 (fun e => by cases e)) (Or.inl ⟨by rfl, ?hy228⟩) (by assumption) ?rest228
                case hy228 =>
                  intro w hSw
                  skip
                  go_simp
                  try with_reducible rfl
                go_simp
                refine wpAnyH_take (i := 1) (v := ?v229) rfl (by kernel_rfl) (by kernel_rfl) (by kernel_rfl) (fun _ _ _ h => by first | exact h | exact absurd h.1 (fun e => by cases e)) (Or.inl ⟨by rfl, ?hy229⟩) (by assumption) ?rest229
                case hy229 =>
                  intro w hSw
                  skip
                  go_simp
                  try with_reducible rfl
                go_simp
                refine wpAnyH_take (i := 2) (v := ?v230) rfl (by kernel_rfl) (by kernel_rfl) (by kernel_rfl) (fun _ _ _ h => by first | exact h | exact absurd h.1 (fun e => by cases e)) (Or.inl ⟨by rfl, ?hy230⟩) (by assumption) ?rest230
                case hy230 =>
                  intro w hSw
                  skip
                  go_simp
                  try with_reducible rfl
                go_simp
                refine wpAnyH_take (i := 3) (v := ?v231) rfl (by kernel_rfl) (by kernel_rfl) (by kernel_rfl) (fun _ _ _ h => by first | exact h | exact absurd h.1 (fun e => by cases e)) (Or.inl ⟨by rfl, ?hy231⟩) (by assumption) ?rest231
                case hy231 =>
                  intro w hSw
                  skip
                  go_simp
                  try with_reducible rfl
                go_simp
                refine wpAnyH_take (i := 4) (v := ?v232) rfl (by kernel_rfl) (by kernel_rfl) (by kernel_rfl) (fun _ _ _ h => by first | exact h | exact absurd h.1 (fun e => by cases e)) (Or.inl ⟨by rfl, ?hy232⟩) (by assumption) ?rest232
                case hy232 =>
                  intro w hSw
                  skip
                  go_simp
                  try with_reducible rfl
                go_simp
                refine wpAnyH_take (i := 5) (v := ?v233) rfl (by kernel_rfl) (by kernel_rfl) (by kernel_rfl) (fun _ _ _ h => by first | exact h | exact absurd h.1 (fun e => by cases e)) (Or.inl ⟨by rfl, ?hy233⟩) (by assumption) ?rest233
                case hy233 =>
                  intro w hSw
                  skip
                  go_simp
                  try with_reducible rfl
                go_simp
                refine wpAnyH_take (i := 6) (v := ?v234) rfl (by kernel_rfl) (by kernel_rfl) (by kernel_rfl) (fun _ _ _ h => by first | exact h | exact absurd h.1 (fun e => by cases e)) (Or.inl ⟨by rfl, ?hy234⟩) (by assumption) ?rest234
                case hy234 =>
                  intro w hSw
                  skip
                  go_simp
                  try with_reducible rfl
                go_simp
                refine wpAnyH_take (i := 7) (v := ?v235) rfl (by kernel_rfl) (by kernel_rfl) (by kernel_rfl) (fun _ _ _ h => by first | exact h | exact absurd h.1 (fun e => by cases e)) (Or.inl ⟨by rfl, ?hy235⟩) (by assumption) ?rest235
                case hy235 =>
                  intro w hSw
                  skip
                  go_simp
                  try with_reducible rfl
                go_simp
                refine wpAnyH_take (i := 8) (v := ?v236) rfl (by kernel_rfl) (by kernel_rfl) (by kernel_rfl) (fun _ _ _ h => by first | exact h | exact absurd h.1 (fun e => by cases e)) (Or.inl ⟨by rfl, ?hy236⟩) (by assumption) ?rest236
                case hy236 =>
                  intro w hSw
                  skip
                  go_simp
                  try with_reducible rfl
                go_simp
                refine wpAnyH_take (i := 9) (v := ?v237) rfl (by kernel_rfl) (by kernel_rfl) (by kernel_rfl) (fun _ _ _ h => by first | exact h | exact absurd h.1 (fun e => by cases e)) (Or.inl ⟨by rfl, ?hy237⟩) (by assumption) ?rest237
                case hy237 =>
                  intro w hSw
                  skip
                  go_simp
                  try with_reducible rfl
                go_simp
                refine wpAnyH_take (i := 10) (v := ?v238) rfl (by kernel_rfl) (by kernel_rfl) (by kernel_rfl) (fun _ _ _ h => by first | exact h | exact absurd h.1 (fun e => by cases e)) (Or.inl ⟨by rfl, ?hy238⟩) (by assumption) ?rest238
                case hy238 =>
                  intro w hSw
                  skip
                  go_simp
                  try with_reducible rfl
                go_simp
                refine wpAnyH_take (i := 11) (v := ?v239) rfl (by kernel_rfl) (by kernel_rfl) (by kernel_rfl) (fun _ _ _ h => by first | exact h | exact absurd h.1 (fun e => by cases e)) (Or.inl ⟨by rfl, ?hy239⟩) (by assumption) ?rest239
                case hy239 =>
                  intro w hSw
                  skip
                  go_simp
                  try with_reducible rfl
                go_simp
                refine wpAnyH_take (i := 12) (v := ?v240) rfl (by kernel_rfl) (by kernel_rfl) (by kernel_rfl) (fun _ _ _ h => by first | exact h | exact absurd h.1 (fun e => by cases e)) (Or.inl ⟨by rfl, ?hy240⟩) (by assumption) ?rest240
                case hy240 =>
                  intro w hSw
                  skip
                  go_simp
                  try with_reducible rfl
                go_simp
                refine wpAnyH_take (i := 13) (v := ?v241) rfl (by kernel_rfl) (by kernel_rfl) (by kernel_rfl) (fun _ _ _ h => by first | exact h | exact absurd h.1 (fun e => by cases e)) (Or.inl ⟨by rfl, ?hy241⟩) (by assumption) ?rest241
                case hy241 =>
                  intro w hSw
                  skip
                  go_simp
                  try with_reducible rfl
                go_simp
                refine wpAnyH_take (i := 14) (v := ?v242) rfl (by kernel_rfl) (by kernel_rfl) (by kernel_rfl) (fun _ _ _ h => by first | exact h | exact absurd h.1 (fun e => by cases e)) (Or.inl ⟨by rfl, ?hy242⟩) (by assumption) ?rest242
                case hy242 =>
                  intro w hSw
                  skip
                  go_simp
                  try with_reducible rfl
                go_simp
                refine wpAnyH_take (i := 15) (v := ?v243) rfl (by kernel_rfl) (by kernel_rfl) (by kernel_rfl) (fun _ _ _ h => by first | exact h | exact absurd h.1 (fun e => by cases e)) (Or.inl ⟨by rfl, ?hy243⟩) (by assumption) ?rest243
                case hy243 =>
                  intro w hSw
                  skip
                  go_simp
                  try with_reducible rfl
                go_simp
                refine wpAnyH_take (i := 16) (v := ?v244) rfl (by kernel_rfl) (by kernel_rfl) (by kernel_rfl) (fun _ _ _ h => by first | exact h | exact absurd h.1 (fun e => by cases e)) (Or.inl ⟨by rfl, ?hy244⟩) (by assumption) ?rest244
                case hy244 =>
                  intro w hSw
                  skip
                  go_simp
                  try with_reducible rfl
                go_simp
                refine wpAnyH_take (i := 17) (v := ?v245) rfl (by kernel_rfl) (by kernel_rfl) (by kernel_rfl) (fun _ _ _ h => by first | exact h | exact absurd h.1 (fun e => by cases e)) (Or.inl ⟨by rfl, ?hy245⟩) (by assumption) ?rest245
                case hy245 =>
                  intro w hSw
                  skip
                  go_simp
                  try with_reducible rfl
                go_simp
                refine wpAnyH_take (i := 18) (v := undef) rfl (by kernel_rfl) (by kernel_rfl) (by kernel_rfl) (fun _ _ _ h => by first | exact h | exact absurd h.1 (fun e => by cases e)) (Or.inr ⟨by rfl, rfl⟩) (by assumption) ?rest246
                go_simp
                refine wpAnyH_take (i := 19) (v := undef) rfl (by kernel_rfl) (by kernel_rfl) (by kernel_rfl) (fun _ _ _ h => by first | exact h | exact absurd h.1 (fun e => by cases e)) (Or.inr ⟨by rfl, rfl⟩) (by assumption) ?rest247
                go_simp
                refine wpAnyH_take (i := 20) (v := undef) rfl (by kernel_rfl) (by kernel_rfl) (by kernel_rfl) (fun _ _ _ h => by first | exact h | exact absurd h.1 (fun e => by cases e)) (Or.inr ⟨by rfl, rfl⟩) (by assumption) ?rest248
                go_simp
                refine wpAnyH_take (i := 21) (v := undef) rfl (by kernel_rfl) (by kernel_rfl) (by kernel_rfl) (fun _ _ _ h => by first | exact h | exact absurd h.1 (fun e => by cases e)) (Or.inr ⟨by rfl, rfl⟩) (by assumption) ?rest249
                go_simp
                refine wpAnyH_take (i := 22) (v := ?v250) rfl (by kernel_rfl) (by kernel_rfl) (by kernel_rfl) (fun _ _ _ h => by first | exact h | exact absurd h.1 (fun e => by cases e)) (Or.inl ⟨by rfl, ?hy250⟩) (by assumption) ?rest250
                case hy250 =>
                  intro w hSw
                  skip
                  go_simp
                  try with_reducible rfl
                go_simp
                refine wpAnyH_take (i := 23) (v := ?v251) rfl (by kernel_rfl) (by kernel_rfl) (by kernel_rfl) (fun _ _ _ h => by first | exact h | exact absurd h.1 (fun e => by cases e)) (Or.inl ⟨by rfl, ?hy251⟩) (by assumption) ?rest251
                case hy251 =>
                  intro w hSw
                  skip
                  go_simp
                  try with_reducible rfl
                go_simp
                refine wpAnyH_take (i := 24) (v := ?v252) rfl (by kernel_rfl) (by kernel_rfl) (by kernel_rfl) (fun _ _ _ h => by first | exact h | exact absurd h.1 (fun e => by cases e)) (Or.inl ⟨by rfl, ?hy252⟩) (by assumption) ?rest252
                case hy252 =>
                  intro w hSw
                  skip
                  go_simp
                  try with_reducible rfl
                go_simp
                refine wpAnyH_take (i := 25) (v := ?v253) rfl (by kernel_rfl) (by kernel_rfl) (by kernel_rfl) (fun _ _ _ h => by first | exact h | exact absurd h.1 (fun e => by cases e)) (Or.inl ⟨by rfl, ?hy253⟩) (by assumption) ?rest253
                case hy253 =>
                  intro w hSw
                  skip
                  go_simp
                  try with_reducible rfl
                go_simp
                refine wpAnyH_take (i := 27) (v := ?v254) rfl (by kernel_rfl) (by kernel_rfl) (by kernel_rfl) (fun _ _ _ h => by first | exact h | exact absurd h.1 (fun e => by cases e)) (Or.inl ⟨by rfl, ?hy254⟩) (by assumption) ?rest254
                case hy254 =>
                  intro w hSw
                  skip
                  go_simp
                  try with_reducible rfl
                go_simp
                refine wpAnyH_take (i := 28) (v := ?v255) rfl (by kernel_rfl) (by kernel_rfl) (by kernel_rfl) (fun _ _ _ h => by first | exact h | exact absurd h.1 (fun e => by cases e)) (Or.inl ⟨by rfl, ?hy255⟩) (by assumption) ?rest255
                case hy255 =>
                  intro w hSw
                  skip
                  go_simp
                  try with_reducible rfl
                go_simp
                refine wpAnyH_take (i := 29) (v := ?v256) rfl (by kernel_rfl) (by kernel_rfl) (by kernel_rfl) (fun _ _ _ h => by first | exact h | exact absurd h.1 (fun e => by cases e)) (Or.inl ⟨by rfl, ?hy256⟩) (by assumption) ?rest256
                case hy256 =>
                  intro w hSw
                  skip
                  go_simp
                  try with_reducible rfl
                go_simp
                refine wpAnyH_ready (rs := [26]) (by kernel_rfl) (by simp) ?_
                refine AllReadyH.cons rfl (fun K hK => ?_) AllReadyH.nil
                go_simp
                refine (hdn.out _ hSn).mono ?_
                rintro e v2 ⟨A8, c8, rfl, hl8, k8⟩
                have hl8k := hSn.trans k8
                refine hK.out _ _ (hSn.trans k8) (fun hSn => ?_)
                clear hK K
                go_simp
                refine wpAnyH_ready (rs := [30]) (by kernel_rfl) (by simp) ?_
                refine AllReadyH.cons rfl (fun K hK => ?_) AllReadyH.nil
                go_simp
                refine (HSP.out A8 c8 v2 v2 hl8k hl8).mono ?_
                rintro e v3 ⟨rfl, k9⟩
                refine hK.out _ _ (hSn.trans k9) (fun hSn => ?_)
                clear hK K
                go_simp
                refine wpAnyH_take (i := 31) (v := ?v257) rfl (by kernel_rfl) (by kernel_rfl) (by kernel_rfl) (fun _ _ _ h => by first | exact h | exact absurd h.1 (fun e => by cases e)) (Or.inl ⟨by rfl, ?hy257⟩) (by assumption) ?rest257
                case hy257 =>
                  intro w hSw
                  skip
                  go_simp
                  try with_reducible rfl
                go_simp
                refine wpAnyH_take (i := 32) (v := ?v258) rfl (by kernel_rfl) (by kernel_rfl) (by kernel_rfl) (fun _ _ _ h => by first | exact h | exact absurd h.1 (fun e => by cases e)) (Or.inl ⟨by rfl, ?hy258⟩) (by assumption) ?rest258
                case hy258 =>
                  intro w hSw
                  skip
                  go_simp
                  try with_reducible rfl
                go_simp
                refine wpAnyH_done (by kernel_rfl) ?_ _
                have D2 := Lib.hid (D1.out.calm hSn)
                clear hSn hl8 hl8k k8 k9 hdn HSP hw1 hw2 hgd haacI
                go_simp
                go_wp2_with fail
                go_roundw
                case rel => exact ⟨i + 1, d, A, c, aA, ac, l, by omega, by go_num, by first | rfl | go_num, rfl, (by omega), D2⟩
                case measure => simp [intOf]; omega
        · obtain rfl : i = ops.length := by omega
          have KF : Hid (Below w.heap.size w wr) := Lib.hid ((KB.out.below (Nat.le_refl _) (fun _ h => h.elim)).trans (D0.out.keeps.below (by rw [← HB.out]; exact hB2) (fun b hb => by rw [← HB.out]; exact hb)))
          clear D0
          go_wp2_with fail
          go_ret
          exact ⟨rfl, KF.out⟩
end Go.Proofs.Ytbfhbekocgdceaa
