/-
  RowsHeaps: the law's function is true at every list of turns: the walk. Condition: the turns within what memory holds.
-/
import Derived.Test.YtbfhbekocgdceaaRhE
import Derived.Test.YtbfhbekocgdceaaRhO
import Derived.Test.YtbfhbekocgdceaaRwW
import Derived.Laws.StructEq
import Derived.RegionTactic
import Derived.Deep.RegionWith
namespace Go.Proofs.Ytbfhbekocgdceaa
open Go.RowKit
theorem ne_thing (c c' : Int × Int) (w : World) : (binOp .neq 30 (.agg #[.int .i64 c.1, .int .i64 c.2]) (.agg #[.int .i64 c'.1, .int .i64 c'.2])).run Try.prog w = .ok (.bool (!decide (c = c'))) w := by
  rw [run_neq_struct, run_equalIn_struct _ _ _ _ _ (by kernel_rfl) (by kernel_rfl)]
  have hu := Try.underlying30
  simp [Program.fieldsOf, hu, Op.eqFields, go_sem, Try.underlying3]
  clear hu
  obtain ⟨a, b⟩ := c
  obtain ⟨a', b'⟩ := c'
  by_cases h1 : a = a' <;> by_cases h2 : b = b' <;> simp [h1, h2]
theorem HpAt.start {w0 w : World} {hp rp : Nat} (h1 : HeapT w hp none 0 [] 0) (h2 : RefH w rp none 0 []) (hk : Keeps (fun _ => False) w0 w) (l1 : w0.heap.size ≤ hp) (l2 : w0.heap.size ≤ rp) : HpAt w0 w hp rp none 0 none 0 [] 0 [] :=
  ⟨h1, h2, (fun b hb => by cases hb), (fun b hb => by cases hb), ⟨l1, l2⟩, hk.mono (fun _ _ h => h.elim)⟩
set_option maxRecDepth 100000 in
set_option maxHeartbeats 8000000 in
theorem rowsHeaps_any (turns : List (List (Int × Int) × Int)) (A0 : Option Addr) (cap : Nat) (w : World) (hx : TnLies w w.heap.size A0 turns) (hlen : turns.length ≤ 1000000000000000) (hwf : ∀ t ∈ turns, t.1.length ≤ 1000000000000000 ∧ -9223372036854775808 ≤ t.2 ∧ t.2 ≤ 9223372036854775807) :
    Calls Try.prog 3 #[.slice A0 turns.length cap] w fun e w' => e = .returned (.bool true) ∧ Below w.heap.size w w' := by
  have HX := Lib.hid hx
  have HWF := Lib.hid hwf
  clear hx hwf
  go_enter Try.func3, Try.ntmps3
  go_wp2_with fail
  refine (rworks_any w).mono ?_
  rintro e w1 ⟨rfl, k1⟩
  have K1 := Lib.hid k1
  have X1 : Hid (TnLies w1 w.heap.size A0 turns) := Lib.hid (HX.out.keep (fun b o h => k1.cell h id))
  clear k1
  go_wp2_with fail
  go_loopw [4, 5] (fun vn vi wr => ∃ (i : Nat), i ≤ turns.length ∧ vn = .int .i64 (nTo turns i) ∧ vi = .int .i64 i ∧ nTo turns i ≤ 1000000000004097 ∧ wr = w1) (fun _ vi _ => turns.length - (intOf vi).toNat)
  case atStart => exact ⟨0, by omega, by rw [nTo_zero]; rfl, rfl, by rw [nTo_zero]; omega, rfl⟩
  case round =>
    obtain ⟨i, hi, rfl, rfl, hnb, rfl⟩ := hrel
    obtain ⟨n, hn⟩ : ∃ z, z = nTo turns i := ⟨_, rfl⟩
    rw [← hn] at hnb ⊢
    by_cases hbig : 4096 < n
    · have hnI : ¬ ((n : Int) ≤ 4096) := by omega
      have hnI2 : (4096 : Int) < (n : Int) := by omega
      have hd : decide ((n : Int) ≤ 4096) = false := decide_eq_false hnI
      by_cases hlt : i < turns.length
      · go_wp2_with fail
        go_ret
        exact ⟨rfl, K1.out.below (Nat.le_refl _) (fun _ h => h.elim)⟩
      · obtain rfl : i = turns.length := by omega
        go_wp2_with fail
        go_ret
        exact ⟨rfl, K1.out.below (Nat.le_refl _) (fun _ h => h.elim)⟩
    · have hnI : (n : Int) ≤ 4096 := by omega
      have hd : decide ((n : Int) ≤ 4096) = true := decide_eq_true hnI
      by_cases hlt : i < turns.length
      · obtain ⟨t, ht⟩ : ∃ t, turns[i]? = some t := ⟨_, List.getElem?_eq_getElem hlt⟩
        obtain ⟨g, off, Aj, cj, rfl, hg, c0, c1, _⟩ := X1.out i t ht
        have hb := (HWF.out t (List.mem_of_getElem? ht)).1
        have hnx := nTo_next ht
        rw [← hn] at hnx
        have HNX := Lib.hid hnx
        obtain ⟨tl, htl⟩ : ∃ z, z = t.1.length := ⟨_, rfl⟩
        rw [← htl] at c0 hb HNX
        clear hn ht hnx htl
        go_wp2_with fail
        go_roundw
        case rel => exact ⟨i + 1, by omega, by rw [HNX.out]; go_num, by go_num, by rw [HNX.out]; omega, by first | rfl | trivial⟩
        case measure => (simp [intOf] <;> omega)
      · obtain rfl : i = turns.length := by omega
        have hgt : ¬ (4096 : Int) < (n : Int) := by omega
        have HN := Lib.hid hn
        clear hn hlt hi hbig
        go_wp2_with fail
        refine (newHeapT_any wr).mono ?_
        rintro e w2 ⟨rfl, hT0, k2⟩
        have K2 : Hid (Keeps (fun _ => False) w w2) := Lib.hid (K1.out.trans k2)
        have hpw : wr.heap.size < w2.heap.size := hT0.box.inside
        have hwp : w.heap.size ≤ wr.heap.size := K1.out.size
        have HT0 := Lib.hid hT0
        clear hT0 k2 K1 X1
        go_wp2_with fail
        obtain ⟨w3, hw3⟩ : ∃ z, z = w2.alloc (.cells #[.slice none 0 0] 34) := ⟨_, rfl⟩
        have K3 : Hid (Keeps (fun _ => False) w2 w3) := Lib.hid (by rw [hw3]; exact (Keeps.refl _ _).alloc _)
        have hR0 : RefH w3 w2.heap.size none 0 [] := by rw [hw3]; exact ⟨Whole.made _ _ _, World.ownsRow_nil _ _ _ _⟩
        have HP0 : Hid (HpAt w w3 wr.heap.size w2.heap.size none 0 none 0 [] 0 []) := Lib.hid (HpAt.start (HT0.out.calm K3.out id (fun _ _ h => h)) hR0 (K2.out.trans K3.out) hwp (by omega))
        rw [← hw3]
        clear hw3 hR0 HT0 K3 K2
        generalize w2.heap.size = rp at *
        generalize wr.heap.size = hp at *
        clear hpw hwp
        go_loopw [8] (fun vi wr => ∃ (i : Nat) (A RA : Option Addr) (c rc : Nat) (l s : List EnT) (came : Int), i ≤ turns.length ∧ vi = .int .i64 i ∧ Hid (HpAt w wr hp rp A c RA rc l came (s.map thing)) ∧ Hid (HeapS l s came) ∧ s.length ≤ nTo turns i ∧ 0 ≤ came ∧ came ≤ (nTo turns i : Int)) (fun vi _ => turns.length - (intOf vi).toNat)
        case atStart => exact ⟨0, none, none, 0, 0, [], [], 0, by omega, rfl, HP0, Lib.hid HeapS.start, by simp, by omega, by omega⟩
        case round =>
          clear HP0
          obtain ⟨i, A, RA, c, rc, l, s, came, hi, rfl, HP, HS, hsl, hc0, hc1⟩ := hrel
          obtain ⟨wr, rfl⟩ : ∃ x, x = wr := ⟨_, rfl⟩
          have hni : nTo turns i ≤ n := by rw [HN.out]; exact nTo_le hi
          by_cases hlt : i < turns.length
          · obtain ⟨t, ht⟩ : ∃ t, turns[i]? = some t := ⟨_, List.getElem?_eq_getElem hlt⟩
            obtain ⟨xs, out⟩ := t
            have hnx := nTo_next ht
            have hni2 : nTo turns (i + 1) ≤ n := by rw [HN.out]; exact nTo_le hlt
            obtain ⟨g, off, Aj, cj, rfl, hg, c0, c1, hth⟩ := HX.out i _ ht
            have HTF : Hid (∀ W, Keeps (fun b => w.heap.size ≤ b) w W → W.cell? ⟨g, off + i * 2, none⟩ = some (.slice Aj xs.length cj) ∧ W.cell? ⟨g, off + i * 2 + 1, none⟩ = some (.int .i64 out) ∧ ThLies W w.heap.size Aj xs) := Lib.hid (fun W hW => ⟨(hW.cell hg (by omega)).trans c0, (hW.cell hg (by omega)).trans c1, hth.keep (fun b o hb => hW.cell hb (by omega))⟩)
            have hwo := (HWF.out _ (List.mem_of_getElem? ht)).2
            simp only at hwo hnx
            have HNX := Lib.hid hnx
            clear ht hth c0 c1 hnx
            obtain ⟨xl, hxl⟩ : ∃ z, z = xs.length := ⟨_, rfl⟩
            have HXL := Lib.hid hxl
            have hxb : xl ≤ 4096 := by have := HNX.out; omega
            have hmk : ∀ w : World, (Instr.makeSlice 24 (.int .i64 ((xl : Int) + 2)) (.int .i64 ((xl : Int) + 2))).run Try.prog w = .ok (.slice (some ⟨w.heap.size, 0, none⟩) (xl + 2) (xl + 2)) (w.alloc (.cells (madeCells #[.int .i64 0, .int .i64 0] ((xl + 2) * 2)) 30)) := fun w => make_rows 24 30 (.agg #[.int .i64 0, .int .i64 0]) 2 16 Try.underlying24 info_cTh (xl + 2) (by omega) (by omega) w
            obtain ⟨c0, c1, _⟩ := HTF.out _ HP.out.keeps
            rw [← hxl] at c0
            clear hxl
            go_wp2_with fail
            obtain ⟨wm, hwm⟩ : ∃ z, z = wr.alloc (.cells (madeCells #[.int .i64 0, .int .i64 0] ((xl + 2) * 2)) 30) := ⟨_, rfl⟩
            have KM : Keeps (fun _ => False) wr wm := by rw [hwm]; exact (Keeps.refl _ _).alloc _
            have HM := Lib.hid (HP.out.quiet KM)
            have TM : Hid (ThRow wm wr.heap.size (fillTh xs 0)) := Lib.hid (by rw [hwm, show fillTh xs 0 = List.replicate (xl + 2) (0, 0) by simp [fillTh, HXL.out]]; exact ThRow.made wr (xl + 2))
            have NL : ¬ (Value.slice RA (s.map thing).length rc).ownBlock = some wr.heap.size := fun e => by have := (HP.out.rH.own.lt _ e).2; omega
            have hlw : w.heap.size ≤ wr.heap.size := HP.out.keeps.size
            rw [← hwm]
            clear hwm KM hmk c0 c1 HP
            generalize wr.heap.size = lb at *
            have HM0 : Hid (HpAt w wm hp rp A c RA rc l came (s.map thing ++ xs.take 0)) := Lib.hid (by rw [List.take_zero, List.append_nil]; exact HM.out)
            have NL0 := Lib.hid NL
            clear HM NL
            go_loopw [10] (fun vk wq => ∃ (k m rc' : Nat) (RA' : Option Addr), k ≤ xl ∧ vk = .int .i64 k ∧ Hid (m = (s.map thing ++ xs.take k).length) ∧ Hid (HpAt w wq hp rp A c RA' rc' l came (s.map thing ++ xs.take k)) ∧ Hid (ThRow wq lb (fillTh xs k)) ∧ Hid (¬ (Value.slice RA' m rc').ownBlock = some lb)) (fun vk _ => xl - (intOf vk).toNat)
            case atStart => exact ⟨0, _, rc, RA, by omega, rfl, Lib.hid rfl, HM0, TM, Lib.hid (by rw [own_any RA _ (s.map thing).length rc rc]; exact NL0.out)⟩
            case round =>
              clear HM0 NL0 TM
              obtain ⟨k, m, rc', RA', hk, rfl, HML, HP, HT, HNL⟩ := hrel
              obtain ⟨c0, c1, hth⟩ := HTF.out _ HP.out.keeps
              rw [← HXL.out] at c0
              by_cases hkx : k < xl
              · skip
                obtain ⟨x, hxk⟩ : ∃ x, xs[k]? = some x := ⟨_, List.getElem?_eq_getElem (by have := HXL.out; omega)⟩
                obtain ⟨gj, oj, rfl, hgj, d0, d1⟩ := hth k x hxk
                have hgl : g ≠ lb := by omega
                have hgjl : gj ≠ lb := by omega
                have hlb : (fillTh xs k).length = xl + 2 := by rw [fillTh_length xs k (by have := HXL.out; omega), HXL.out]
                obtain ⟨u, hu⟩ : ∃ u, (fillTh xs k)[k]? = some u := ⟨_, List.getElem?_eq_getElem (by omega)⟩
                obtain ⟨e0, e1, f0, f1⟩ := HT.out.at_ hu
                have HT2 : Hid (ThRow ((wr.setCell ⟨lb, k * 2, none⟩ (.int .i64 x.1)).setCell ⟨lb, k * 2 + 1, none⟩ (.int .i64 x.2)) lb (fillTh xs (k + 1))) := Lib.hid (by rw [← fillTh_put xs k x hxk]; exact HT.out.put k x (by omega))
                have KZ : Keeps (fun b => b = lb) wr ((wr.setCell ⟨lb, k * 2, none⟩ (.int .i64 x.1)).setCell ⟨lb, k * 2 + 1, none⟩ (.int .i64 x.2)) := ((Keeps.refl (fun b => b = lb) wr).setCell (p := ⟨lb, k * 2, none⟩) (fun _ => rfl) _).setCell (p := ⟨lb, k * 2 + 1, none⟩) (fun _ => rfl) _
                have HP2 : Hid (HpAt w ((wr.setCell ⟨lb, k * 2, none⟩ (.int .i64 x.1)).setCell ⟨lb, k * 2 + 1, none⟩ (.int .i64 x.2)) hp rp A c RA' rc' l came (s.map thing ++ xs.take k)) := Lib.hid (HP.out.calm KZ (whole_kind HP.out.hT.box HT.out (by decide)) (whole_kind HP.out.rH.box HT.out (by decide)) (fun b hb e => by subst e; exact row_kind HP.out.hT.own HT.out (by decide) hb) (fun b hb e => by subst e; exact HNL.out (by rw [own_any RA' m _ rc' rc']; exact hb)) (fun b hb => by omega))
                clear hu hlb KZ hth
                go_wp2_with fail
                obtain ⟨wz, hwz⟩ : ∃ z, z = (wr.setCell ⟨lb, k * 2, none⟩ (.int .i64 x.1)).setCell ⟨lb, k * 2 + 1, none⟩ (.int .i64 x.2) := ⟨_, rfl⟩
                rw [← hwz] at HP2 HT2 ⊢
                clear hwz c0 c1 d0 d1 e0 e1 f0 f1 HP HT
                obtain ⟨c0, c1, hth⟩ := HTF.out _ HP2.out.keeps
                rw [← HXL.out] at c0
                obtain ⟨gj', oj', ej, _, d0, d1⟩ := hth k x hxk
                obtain ⟨rfl, rfl⟩ : gj = gj' ∧ oj = oj' := by injection ej with ej; injection ej with h1 h2; exact ⟨h1, h2⟩
                have hgw : w.heap.size ≤ wz.heap.size := HP2.out.keeps.size
                have hrpw := HP2.out.low.2
                have hrpz : rp < wz.heap.size := HP2.out.rH.box.inside
                have WP : Hid (Whole wz rp 34 #[.slice RA' m rc']) := Lib.hid (by rw [HML.out]; exact HP2.out.rH.box)
                have HOWN : Hid (wz.ownsRow (rp + 1) 30 2 (.slice RA' m rc') m (flat thC (s.map thing ++ xs.take k))) := Lib.hid (by rw [HML.out]; exact HP2.out.rH.own)
                have r0 : wz.cell? ⟨rp, 0, none⟩ = some (.slice RA' m rc') := WP.out.cellAt 0
                have al : ∀ o, (wz.alloc o).cell? ⟨rp, 0, none⟩ = some (.slice RA' m rc') := fun o => (WP.out.alloc o).cellAt 0
                have hno : ¬ (Value.slice RA' m rc').ownBlock = some rp := fun e => by have := (HOWN.out.lt rp e).1; omega
                have hlowR : Hid (∀ b, (Value.slice RA' m rc').ownBlock = some b → w.heap.size ≤ b) := Lib.hid (fun b hb => HP2.out.lowR b (by rw [own_any RA' _ m rc' rc']; exact hb))
                have HF2 : Hid (∀ W, Keeps (fun b => b = rp ∨ (Value.slice RA' m rc').ownBlock = some b) wz W → W.cell? ⟨g, off + i * 2, none⟩ = some (.slice (some ⟨gj, oj, none⟩) xl cj) ∧ W.cell? ⟨gj, oj + k * 2, none⟩ = some (.int .i64 x.1) ∧ W.cell? ⟨gj, oj + k * 2 + 1, none⟩ = some (.int .i64 x.2)) := Lib.hid (fun W hW => by
                  have hq : ∀ b, b < w.heap.size → ¬ (b = rp ∨ (Value.slice RA' m rc').ownBlock = some b) := fun b hb e => by
                    rcases e with e | e
                    · omega
                    · have := hlowR.out b e; omega
                  exact ⟨(hW.cell (by omega) (hq g hg)).trans c0, (hW.cell (by omega) (hq gj hgj)).trans d0, (hW.cell (by omega) (hq gj hgj)).trans d1⟩)
                have HF : ∀ W, Keeps (fun _ => False) wz W → W.cell? ⟨g, off + i * 2, none⟩ = some (.slice (some ⟨gj, oj, none⟩) xl cj) ∧ W.cell? ⟨gj, oj + k * 2, none⟩ = some (.int .i64 x.1) ∧ W.cell? ⟨gj, oj + k * 2 + 1, none⟩ = some (.int .i64 x.2) := fun W hW => HF2.out W (hW.mono (fun _ _ h => h.elim))
                have hts : xs.take (k + 1) = xs.take k ++ [x] := by rw [List.take_add_one, hxk]; rfl
                have hml : (s.map thing ++ xs.take (k + 1)).length = m + 1 := by rw [hts, ← List.append_assoc, List.length_append, ← HML.out]; rfl
                have hmb : m ≤ 8192 := by have := HML.out; rw [List.length_append, List.length_map, List.length_take] at this; omega
                have HREF : Hid (∀ (A2 : Option Addr) (c2 : Nat) (w4 : World), Whole w4 rp 34 #[.slice RA' m rc'] → w4.ownsRow (rp + 1) 30 2 (.slice A2 (m + 1) c2) (m + 1) (flat thC (s.map thing ++ xs.take k) ++ [.int .i64 x.1, .int .i64 x.2]) → RefH (w4.setCell ⟨rp, 0, none⟩ (.slice A2 (m + 1) c2)) rp A2 c2 (s.map thing ++ xs.take (k + 1))) := Lib.hid (fun A2 c2 w4 h1 h2 => by
                  refine ⟨?_, ?_⟩
                  · rw [hml]; have := h1.put 0 (.slice A2 (m + 1) c2); simpa using this
                  · rw [hml, hts, ← List.append_assoc]
                    have h3 := ownsRow_setCell_below h2 (show (⟨rp, 0, none⟩ : Addr).block < rp + 1 by show rp < rp + 1; omega) (.slice A2 (m + 1) c2)
                    simpa [flat, thC] using h3)
                have HMN := Lib.hid hml
                clear hth hml hts c0 c1 d0 d1 ej HTF HWF
                refine region_cut (fun a a' w' => (∃ u86 u87 u88 u89 u90 u91 u92 u93 u94 u95 u96 u97 u98 u99 u100 u101 u102 : Value, a' = (((((((((((((((((a.put (some 86) u86).put (some 87) u87).put (some 88) u88).put (some 89) u89).put (some 90) u90).put (some 91) u91).put (some 92) u92).put (some 93) u93).put (some 94) u94).put (some 95) u95).put (some 96) u96).put (some 97) u97).put (some 98) u98).put (some 99) u99).put (some 100) u100).put (some 101) u101).put (some 102) u102)) ∧ ∃ (RA2 : Option Addr) (c2 : Nat), RefH w' rp RA2 c2 (s.map thing ++ xs.take (k + 1)) ∧ (∀ b, (Value.slice RA2 (m + 1) c2).ownBlock = some b → (Value.slice RA' m rc').ownBlock = some b ∨ wz.heap.size ≤ b) ∧ Keeps (fun b => b = rp ∨ (Value.slice RA' m rc').ownBlock = some b) wz w') ?_ ?_
                · skip
                  refine wp_region_held_drew (S := fun W => W.cell? ⟨g, off + i * 2, none⟩ = some (.slice (some ⟨gj, oj, none⟩) xl cj) ∧ W.cell? ⟨gj, oj + k * 2, none⟩ = some (.int .i64 x.1) ∧ W.cell? ⟨gj, oj + k * 2 + 1, none⟩ = some (.int .i64 x.2)) (by kernel_rfl) (HF _ (Keeps.refl _ wz).drew) ?_
                  intro hSn
                  have hd1 : wz.drew.cell? ⟨rp, 0, none⟩ = some (.slice RA' m rc') := r0
                  have hal : (wz.alloc (.cells #[.int .i64 x.1, .int .i64 x.2] 30)).cell? ⟨rp, 0, none⟩ = some (.slice RA' m rc') := al _
                  refine wpAnyH_take (i := 0) (v := ?v1) rfl (by kernel_rfl) (by kernel_rfl) (by kernel_rfl) (fun _ _ _ h => by first | exact h | exact absurd h.1 (fun e => by cases e)) (Or.inl ⟨by rfl, ?hy1⟩) (by assumption) ?rest1
                  case hy1 =>
                    intro w hSw
                    obtain ⟨x0, x1, x2⟩ := hSw
                    go_simp
                    try with_reducible rfl
                  go_simp
                  refine wpAnyH_take (i := 1) (v := ?v2) rfl (by kernel_rfl) (by kernel_rfl) (by kernel_rfl) (fun _ _ _ h => by first | exact h | exact absurd h.1 (fun e => by cases e)) (Or.inl ⟨by rfl, ?hy2⟩) (by assumption) ?rest2
                  case hy2 =>
                    intro w hSw
                    obtain ⟨x0, x1, x2⟩ := hSw
                    go_simp
                    try with_reducible rfl
                  go_simp
                  refine wpAnyH_take (i := 2) (v := ?v3) rfl (by kernel_rfl) (by kernel_rfl) (by kernel_rfl) (fun _ _ _ h => by first | exact h | exact absurd h.1 (fun e => by cases e)) (Or.inl ⟨by rfl, ?hy3⟩) (by assumption) ?rest3
                  case hy3 =>
                    intro w hSw
                    obtain ⟨x0, x1, x2⟩ := hSw
                    go_simp
                    try with_reducible rfl
                  go_simp
                  refine wpAnyH_take (i := 3) (v := ?v4) rfl (by kernel_rfl) (by kernel_rfl) (by kernel_rfl) (fun _ _ _ h => by first | exact h | exact absurd h.1 (fun e => by cases e)) (Or.inl ⟨by rfl, ?hy4⟩) (by assumption) ?rest4
                  case hy4 =>
                    intro w hSw
                    obtain ⟨x0, x1, x2⟩ := hSw
                    go_simp
                    try with_reducible rfl
                  go_simp
                  refine wpAnyH_take (i := 5) (v := ?v5) rfl (by kernel_rfl) (by kernel_rfl) (by kernel_rfl) (fun _ _ _ h => by first | exact h | exact absurd h.1 (fun e => by cases e)) (Or.inl ⟨by rfl, ?hy5⟩) (by assumption) ?rest5
                  case hy5 =>
                    intro w hSw
                    obtain ⟨x0, x1, x2⟩ := hSw
                    go_simp
                    try with_reducible rfl
                  go_simp
                  refine wpAnyH_take (i := 6) (v := ?v6) rfl (by kernel_rfl) (by kernel_rfl) (by kernel_rfl) (fun _ _ _ h => by first | exact h | exact absurd h.1 (fun e => by cases e)) (Or.inl ⟨by rfl, ?hy6⟩) (by assumption) ?rest6
                  case hy6 =>
                    intro w hSw
                    obtain ⟨x0, x1, x2⟩ := hSw
                    go_simp
                    try with_reducible rfl
                  go_simp
                  refine wpAnyH_take (i := 7) (v := ?v7) rfl (by kernel_rfl) (by kernel_rfl) (by kernel_rfl) (fun _ _ _ h => by first | exact h | exact absurd h.1 (fun e => by cases e)) (Or.inl ⟨by rfl, ?hy7⟩) (by assumption) ?rest7
                  case hy7 =>
                    intro w hSw
                    obtain ⟨x0, x1, x2⟩ := hSw
                    go_simp
                    try with_reducible rfl
                  go_simp
                  refine wpAnyH_take (i := 8) (v := ?v8) rfl (by kernel_rfl) (by kernel_rfl) (by kernel_rfl) (fun _ _ _ h => by first | exact h | exact absurd h.1 (fun e => by cases e)) (Or.inl ⟨by rfl, ?hy8⟩) (by assumption) ?rest8
                  case hy8 =>
                    intro w hSw
                    obtain ⟨x0, x1, x2⟩ := hSw
                    go_simp
                    try with_reducible rfl
                  go_simp
                  refine wpAnyH_take (i := 9) (v := ?v9) rfl (by kernel_rfl) (by kernel_rfl) (by kernel_rfl) (fun _ _ _ h => by first | exact h | exact absurd h.1 (fun e => by cases e)) (Or.inl ⟨by rfl, ?hy9⟩) (by assumption) ?rest9
                  case hy9 =>
                    intro w hSw
                    obtain ⟨x0, x1, x2⟩ := hSw
                    go_simp
                    try with_reducible rfl
                  go_simp
                  refine wpAnyH_take (i := 10) (v := ?v10) rfl (by kernel_rfl) (by kernel_rfl) (by kernel_rfl) (fun _ _ _ h => by first | exact h | exact absurd h.1 (fun e => by cases e)) (Or.inl ⟨by rfl, ?hy10⟩) (by assumption) ?rest10
                  case hy10 =>
                    intro w hSw
                    obtain ⟨x0, x1, x2⟩ := hSw
                    go_simp
                    try with_reducible rfl
                  go_simp
                  refine wpAnyH_take (i := 11) (v := ?v11) rfl (by kernel_rfl) (by kernel_rfl) (by kernel_rfl) (fun _ _ _ h => by first | exact h | exact absurd h.1 (fun e => by cases e)) (Or.inl ⟨by rfl, ?hy11⟩) (by assumption) ?rest11
                  case hy11 =>
                    intro w hSw
                    obtain ⟨x0, x1, x2⟩ := hSw
                    go_simp
                    try with_reducible rfl
                  go_simp
                  refine wpAnyH_take (i := 12) (v := ?v12) rfl (by kernel_rfl) (by kernel_rfl) (by kernel_rfl) (fun _ _ _ h => by first | exact h | exact absurd h.1 (fun e => by cases e)) (Or.inl ⟨by rfl, ?hy12⟩) (by assumption) ?rest12
                  case hy12 =>
                    intro w hSw
                    obtain ⟨x0, x1, x2⟩ := hSw
                    go_simp
                    try with_reducible rfl
                  go_simp
                  refine wpAnyH_ready (rs := [4, 13]) (by kernel_rfl) (by simp) ?_
                  refine AllReadyH.cons rfl (fun K hK => ?sa) (AllReadyH.cons rfl (fun K hK => ?sb) AllReadyH.nil)
                  case sa =>
                    go_simp
                    refine hK.out _ _ (hSn) (fun hSn => ?_)
                    clear hK K
                    go_simp
                    refine wpAnyH_ready (rs := [13]) (by kernel_rfl) (by simp) ?_
                    refine AllReadyH.cons rfl (fun K hK => ?_) AllReadyH.nil
                    go_simp
                    refine hK.out _ _ (HF _ ((Keeps.refl _ wz).drew.alloc _)) (fun hSn => ?_)
                    clear hK K
                    go_simp
                    refine wpAnyH_ready (rs := [14]) (by kernel_rfl) (by simp) ?_
                    refine AllReadyH.cons rfl (fun K hK => ?_) AllReadyH.nil
                    refine step_if (by rfl) ?_
                    refine wp_append_cells _ _ _ 24 rfl (rp + 1) 30 (.agg #[.int .i64 0, .int .i64 0]) 2 16 Try.underlying24 info_cTh rfl (by decide) (.slice RA' m rc') m (flat thC (s.map thing ++ xs.take k)) rfl (HOWN.out.alloc _) (wz.heap.size + 1) (some ⟨wz.heap.size, 0, none⟩) 1 1 [.int .i64 x.1, .int .i64 x.2] rfl (Lies.row (t := 30) (fr := (0, 0)) (heap_alloc_new _ _) (Nat.lt_succ_self _)) rfl (fun u hu => by simp at hu; rcases hu with rfl | rfl <;> rfl) (by simp only [maxLen]; omega) (by omega) (by show rp + 1 ≤ (World.alloc _ _).heap.size; simp; omega) ?_
                    intro A2 c2 w4 own2 hg2 hor _ _
                    have k4 : Keeps (fun b => (Value.slice RA' m rc').ownBlock = some b) wz w4 := (((Keeps.refl _ wz).drew).alloc _).grown hg2 (fun k hk _ => hk)
                    have hor' : Hid (∀ b, (Value.slice A2 (m + 1) c2).ownBlock = some b → (Value.slice RA' m rc').ownBlock = some b ∨ wz.heap.size ≤ b) := Lib.hid (fun b hb => by
                      rcases hor with h | h
                      · exact .inl (h ▸ hb)
                      · rw [h] at hb; injection hb with hb; exact .inr (by rw [← hb]; show wz.heap.size ≤ (World.alloc _ _).heap.size; simp))
                    have WP4 := Lib.hid (WP.out.keeps k4 hno)
                    have K4 := Lib.hid k4
                    have OWN2 := Lib.hid own2
                    have g0 := WP4.out.free 0
                    have q0 := WP4.out.cellAt 0
                    simp at q0
                    clear k4 own2 hg2 hor
                    refine hK.out _ _ (HF2.out _ (K4.out.mono (fun _ _ h => .inr h))) (fun hSn => ?_)
                    clear hK K
                    go_simp
                    refine wpAnyH_take (i := 15) (v := ?v13) rfl (by kernel_rfl) (by kernel_rfl) (by kernel_rfl) (fun _ _ _ h => by first | exact h | exact absurd h.1 (fun e => by cases e)) (Or.inl ⟨by rfl, ?hy13⟩) (by assumption) ?rest13
                    case hy13 =>
                      intro w hSw
                      obtain ⟨x0, x1, x2⟩ := hSw
                      go_simp
                      try with_reducible rfl
                    go_simp
                    refine wpAnyH_take (i := 16) (v := ?v14) rfl (by kernel_rfl) (by kernel_rfl) (by kernel_rfl) (fun _ _ _ h => by first | exact h | exact absurd h.1 (fun e => by cases e)) (Or.inl ⟨by rfl, ?hy14⟩) (by assumption) ?rest14
                    case hy14 =>
                      intro w hSw
                      obtain ⟨x0, x1, x2⟩ := hSw
                      go_simp
                      try with_reducible rfl
                    go_simp
                    refine wpAnyH_ready (rs := [17]) (by kernel_rfl) (by simp) ?_
                    refine AllReadyH.cons rfl (fun K hK => ?_) AllReadyH.nil
                    go_simp
                    have KF : Hid (Keeps (fun b => b = rp ∨ (Value.slice RA' m rc').ownBlock = some b) wz (w4.setCell ⟨rp, 0, none⟩ (.slice A2 (m + 1) c2))) := Lib.hid ((K4.out.mono (fun _ _ h => .inr h)).setCell (p := ⟨rp, 0, none⟩) (fun _ => .inl rfl) _)
                    refine hK.out _ _ (HF2.out _ KF.out) (fun hSn => ?_)
                    clear hK K
                    go_simp
                    refine wpAnyH_done (by kernel_rfl) ?_ _
                    exact ⟨rfl, ⟨_, _, _, _, _, _, _, _, _, _, _, _, _, _, _, _, _, rfl⟩, A2, c2, HREF.out A2 c2 w4 WP4.out OWN2.out, hor'.out, KF.out⟩
                  case sb =>
                    go_simp
                    refine hK.out _ _ (HF _ ((Keeps.refl _ wz).drew.alloc _)) (fun hSn => ?_)
                    clear hK K
                    go_simp
                    refine wpAnyH_ready (rs := [4]) (by kernel_rfl) (by simp) ?_
                    refine AllReadyH.cons rfl (fun K hK => ?_) AllReadyH.nil
                    go_simp
                    refine hK.out _ _ (hSn) (fun hSn => ?_)
                    clear hK K
                    go_simp
                    refine wpAnyH_ready (rs := [14]) (by kernel_rfl) (by simp) ?_
                    refine AllReadyH.cons rfl (fun K hK => ?_) AllReadyH.nil
                    refine step_if (by rfl) ?_
                    refine wp_append_cells _ _ _ 24 rfl (rp + 1) 30 (.agg #[.int .i64 0, .int .i64 0]) 2 16 Try.underlying24 info_cTh rfl (by decide) (.slice RA' m rc') m (flat thC (s.map thing ++ xs.take k)) rfl (HOWN.out.alloc _) (wz.heap.size + 1) (some ⟨wz.heap.size, 0, none⟩) 1 1 [.int .i64 x.1, .int .i64 x.2] rfl (Lies.row (t := 30) (fr := (0, 0)) (heap_alloc_new _ _) (Nat.lt_succ_self _)) rfl (fun u hu => by simp at hu; rcases hu with rfl | rfl <;> rfl) (by simp only [maxLen]; omega) (by omega) (by show rp + 1 ≤ (World.alloc _ _).heap.size; simp; omega) ?_
                    intro A2 c2 w4 own2 hg2 hor _ _
                    have k4 : Keeps (fun b => (Value.slice RA' m rc').ownBlock = some b) wz w4 := (((Keeps.refl _ wz).drew).alloc _).grown hg2 (fun k hk _ => hk)
                    have hor' : Hid (∀ b, (Value.slice A2 (m + 1) c2).ownBlock = some b → (Value.slice RA' m rc').ownBlock = some b ∨ wz.heap.size ≤ b) := Lib.hid (fun b hb => by
                      rcases hor with h | h
                      · exact .inl (h ▸ hb)
                      · rw [h] at hb; injection hb with hb; exact .inr (by rw [← hb]; show wz.heap.size ≤ (World.alloc _ _).heap.size; simp))
                    have WP4 := Lib.hid (WP.out.keeps k4 hno)
                    have K4 := Lib.hid k4
                    have OWN2 := Lib.hid own2
                    have g0 := WP4.out.free 0
                    have q0 := WP4.out.cellAt 0
                    simp at q0
                    clear k4 own2 hg2 hor
                    refine hK.out _ _ (HF2.out _ (K4.out.mono (fun _ _ h => .inr h))) (fun hSn => ?_)
                    clear hK K
                    go_simp
                    refine wpAnyH_take (i := 15) (v := ?v15) rfl (by kernel_rfl) (by kernel_rfl) (by kernel_rfl) (fun _ _ _ h => by first | exact h | exact absurd h.1 (fun e => by cases e)) (Or.inl ⟨by rfl, ?hy15⟩) (by assumption) ?rest15
                    case hy15 =>
                      intro w hSw
                      obtain ⟨x0, x1, x2⟩ := hSw
                      go_simp
                      try with_reducible rfl
                    go_simp
                    refine wpAnyH_take (i := 16) (v := ?v16) rfl (by kernel_rfl) (by kernel_rfl) (by kernel_rfl) (fun _ _ _ h => by first | exact h | exact absurd h.1 (fun e => by cases e)) (Or.inl ⟨by rfl, ?hy16⟩) (by assumption) ?rest16
                    case hy16 =>
                      intro w hSw
                      obtain ⟨x0, x1, x2⟩ := hSw
                      go_simp
                      try with_reducible rfl
                    go_simp
                    refine wpAnyH_ready (rs := [17]) (by kernel_rfl) (by simp) ?_
                    refine AllReadyH.cons rfl (fun K hK => ?_) AllReadyH.nil
                    go_simp
                    have KF : Hid (Keeps (fun b => b = rp ∨ (Value.slice RA' m rc').ownBlock = some b) wz (w4.setCell ⟨rp, 0, none⟩ (.slice A2 (m + 1) c2))) := Lib.hid ((K4.out.mono (fun _ _ h => .inr h)).setCell (p := ⟨rp, 0, none⟩) (fun _ => .inl rfl) _)
                    refine hK.out _ _ (HF2.out _ KF.out) (fun hSn => ?_)
                    clear hK K
                    go_simp
                    refine wpAnyH_done (by kernel_rfl) ?_ _
                    exact ⟨rfl, ⟨_, _, _, _, _, _, _, _, _, _, _, _, _, _, _, _, _, rfl⟩, A2, c2, HREF.out A2 c2 w4 WP4.out OWN2.out, hor'.out, KF.out⟩
                · rintro a' w5 ⟨⟨u86, u87, u88, u89, u90, u91, u92, u93, u94, u95, u96, u97, u98, u99, u100, u101, u102, rfl⟩, RA2, c2, hR2, hn2, k2⟩
                  have HP3 := Lib.hid (HP2.out.ref hR2 (k2.mono (fun b _ h => by rw [own_any RA' _ m rc' rc']; exact h)) (fun b hb => by rw [own_any RA' _ m rc' rc']; exact hn2 b (by rw [own_any RA2 _ (s.map thing ++ xs.take (k + 1)).length c2 c2]; exact hb)))
                  have HT3 : Hid (ThRow w5 lb (fillTh xs (k + 1))) := Lib.hid (HT2.out.keeps k2 (fun h => by
                    rcases h with h | h
                    · exact whole_kind HP2.out.rH.box HT2.out (by decide) h.symm
                    · exact HNL.out h))
                  have hlz : lb < wz.heap.size := Whole.inside HT2.out
                  have HNL3 : Hid (¬ (Value.slice RA2 (m + 1) c2).ownBlock = some lb) := Lib.hid (fun h => by
                    rcases hn2 lb h with h | h
                    · exact HNL.out h
                    · omega)
                  clear hR2 hn2 k2 HP2 HT2 HOWN HF2 HF HREF r0 al WP
                  go_wp2_with fail
                  go_roundw
                  case rel => exact ⟨k + 1, m + 1, c2, RA2, by omega, by go_num, Lib.hid HMN.out.symm, HP3, HT3, HNL3⟩
                  case measure => (simp [intOf] <;> omega)
              · obtain rfl : k = xl := by omega
                have hxt : xs.take k = xs := by rw [HXL.out]; exact List.take_length
                have hff : fillTh xs k = xs ++ [(0, 0), (0, 0)] := by rw [HXL.out]; exact fillTh_full xs
                rw [hxt] at HP HML
                rw [hff] at HT
                have hcb : came ≤ 4096 := by omega
                have hll : l.length = s.length := HS.out.perm.length_eq
                have HC := Lib.hid (hputT_any hp c (k + 2) came A (some ⟨lb, 0, none⟩) l xs wr HP.out.hT (by have := HXL.out; omega) ⟨hc0, by omega⟩ (fun W hW j x hx => by
                  have hT2 : ThRow W lb (xs ++ [(0, 0), (0, 0)]) := HT.out.keeps hW (fun h => by
                    rcases h with h | h
                    · exact whole_kind HP.out.hT.box HT.out (by decide) h.symm
                    · exact row_kind HP.out.hT.own HT.out (by decide) h)
                  obtain ⟨h1, h2, _⟩ := hT2.at_ (i := j) (x := x) (by rw [List.getElem?_append_left (List.getElem?_eq_some_iff.1 hx).1]; exact hx)
                  exact ⟨lb, 0, rfl, by rw [Nat.zero_add]; exact h1, by rw [Nat.zero_add]; exact h2⟩))
                rw [← HXL.out] at HC
                clear hkx hk hxt hff
                go_wp2_with fail
                refine HC.out.mono ?_
                rintro e w4 ⟨rfl, A4, c4, hT4, k4, hn4⟩
                have HP4 := Lib.hid (HP.out.own hT4 k4 hn4)
                have HT4 : Hid (ThRow w4 lb (xs ++ [(0, 0), (0, 0)])) := Lib.hid (HT.out.keeps k4 (fun h => by
                  rcases h with h | h
                  · exact whole_kind HP.out.hT.box HT.out (by decide) h.symm
                  · exact row_kind HP.out.hT.own HT.out (by decide) h))
                have HS4 : Hid (HeapS (putsT l came xs) (s ++ entsT xs came) (came + k)) := Lib.hid (by have := HS.out.put xs; rw [← HXL.out] at this; exact this)
                have hl4 : Hid ((s ++ entsT xs came).length = s.length + k) := Lib.hid (by rw [List.length_append, entsT_length, HXL.out])
                have HP5 : Hid (HpAt w w4 hp rp A4 c4 RA' rc' (putsT l came xs) (came + k) ((s ++ entsT xs came).map thing)) := Lib.hid (by rw [HeapS.things]; exact HP4.out)
                have HNL5 : Hid (¬ (Value.slice RA' ((s ++ entsT xs came).map thing).length rc').ownBlock = some lb) := Lib.hid (by rw [own_any RA' _ m rc' rc']; exact HNL.out)
                clear hT4 k4 hn4 HC HP HT HP4 HS HML HNL
                generalize putsT l came xs = l4 at *
                generalize s ++ entsT xs came = s4 at *
                obtain ⟨came4, hcame4⟩ : ∃ z, z = came + (k : Int) := ⟨_, rfl⟩
                rw [← hcame4] at HP5 HS4
                have hc40 : 0 ≤ came4 := by omega
                have hc41 : came4 ≤ (nTo turns (i + 1) : Int) := by have := HNX.out; have := HXL.out; omega
                have hs4 : s4.length ≤ nTo turns (i + 1) := by have := HNX.out; have := hl4.out; have := HXL.out; omega
                clear hcame4 hc0 hc1 hsl hll hcb hl4
                obtain ⟨e0, e1, _, _⟩ := HT4.out.at_ (i := k) (x := (0, 0)) (by rw [List.getElem?_append_right (by have := HXL.out; omega), ← HXL.out, Nat.sub_self]; rfl)
                obtain ⟨e2, e3, _, _⟩ := HT4.out.at_ (i := k + 1) (x := (0, 0)) (by rw [List.getElem?_append_right (by have := HXL.out; omega), ← HXL.out, Nat.add_sub_cancel_left]; rfl)
                have hq := fun w => ne_thing (0, 0) (0, 0) w
                simp only [decide_true, Bool.not_true] at hq
                go_wp2_with fail
                simp only [show k + 2 - 1 = k + 1 from rfl]
                clear e0 e1 e2 e3 hq
                have HM0 : Hid (ThRow w4 lb (markTh xs 0)) := Lib.hid (by rw [markTh_zero]; exact HT4.out)
                clear HT4
                go_loopw [12] (fun vk wr => ∃ (j : Nat), j ≤ k ∧ vk = .int .i64 j ∧ Hid (HpAt w wr hp rp A4 c4 RA' rc' l4 came4 (s4.map thing)) ∧ Hid (ThRow wr lb (markTh xs j))) (fun vk _ => k - (intOf vk).toNat)
                case atStart => exact ⟨0, by omega, rfl, HP5, HM0⟩
                case round =>
                  clear HP5 HM0
                  obtain ⟨j, hj, rfl, HP, HT⟩ := hrel
                  by_cases hjk : j < k
                  · skip
                    obtain ⟨c0, c1, hth⟩ := HTF.out _ HP.out.keeps
                    rw [← HXL.out] at c0
                    obtain ⟨x, hxj⟩ : ∃ x, xs[j]? = some x := ⟨_, List.getElem?_eq_getElem (by have := HXL.out; omega)⟩
                    obtain ⟨gj, oj, rfl, hgj, d0, d1⟩ := hth j x hxj
                    obtain ⟨e0, e1, f0, f1⟩ := HT.out.at_ (markTh_at xs j x hxj)
                    have hq := fun w => ne_thing x x w
                    simp only [decide_true, Bool.not_true] at hq
                    clear hth hxj
                    go_wp2_with fail
                    go_quiet (fail)
                    obtain ⟨wd, hwd⟩ : ∃ z, z = wr.drewN nq := ⟨_, rfl⟩
                    have KD : Keeps (fun _ => False) wr wd := by rw [hwd]; exact (Keeps.refl _ _).drewN _
                    have HPd := Lib.hid (HP.out.quiet KD)
                    have HTd : Hid (ThRow wd lb (markTh xs j)) := Lib.hid (HT.out.keeps KD id)
                    rw [← hwd]
                    clear hwd KD HP HT c0 c1 d0 d1 e0 e1 f0 f1 hq
                    have hml : (markTh xs j).length = k + 2 := by rw [markTh_length xs j (by have := HXL.out; omega), HXL.out]
                    obtain ⟨u, hu⟩ : ∃ u, (markTh xs j)[j]? = some u := ⟨_, List.getElem?_eq_getElem (by omega)⟩
                    obtain ⟨e0, e1, f0, f1⟩ := HTd.out.at_ hu
                    have HT2 : Hid (ThRow ((wd.setCell ⟨lb, j * 2, none⟩ (.int .i64 (-5))).setCell ⟨lb, j * 2 + 1, none⟩ (.int .i64 (-5))) lb (markTh xs (j + 1))) := Lib.hid (by rw [← markTh_put xs j (by have := HXL.out; omega)]; exact HTd.out.put j (-5, -5) (by omega))
                    have KZ : Keeps (fun b => b = lb) wd ((wd.setCell ⟨lb, j * 2, none⟩ (.int .i64 (-5))).setCell ⟨lb, j * 2 + 1, none⟩ (.int .i64 (-5))) := ((Keeps.refl (fun b => b = lb) wd).setCell (p := ⟨lb, j * 2, none⟩) (fun _ => rfl) _).setCell (p := ⟨lb, j * 2 + 1, none⟩) (fun _ => rfl) _
                    have HP2 : Hid (HpAt w ((wd.setCell ⟨lb, j * 2, none⟩ (.int .i64 (-5))).setCell ⟨lb, j * 2 + 1, none⟩ (.int .i64 (-5))) hp rp A4 c4 RA' rc' l4 came4 (s4.map thing)) := Lib.hid (HPd.out.calm KZ (whole_kind HPd.out.hT.box HTd.out (by decide)) (whole_kind HPd.out.rH.box HTd.out (by decide)) (fun b hb e => by subst e; exact row_kind HPd.out.hT.own HTd.out (by decide) hb) (fun b hb e => by subst e; exact HNL5.out hb) (fun b hb => by omega))
                    clear hu hml KZ HPd HTd
                    go_wp2_with fail
                    go_roundw
                    case rel => exact ⟨j + 1, by omega, by go_num, HP2, HT2⟩
                    case measure => (simp [intOf] <;> omega)
                  · obtain rfl : j = k := by omega
                    obtain ⟨c0, c1, _⟩ := HTF.out _ HP.out.keeps
                    rw [← HXL.out] at c0
                    clear HT HNL5 hjk hj
                    go_wp2_with fail
                    clear c0 c1
                    go_loopw [13] (fun vk wr => ∃ (j rc : Nat) (RA : Option Addr) (l s : List EnT), j ≤ n + 1 ∧ vk = .int .i64 j ∧ Hid (HpAt w wr hp rp A4 c4 RA rc l came4 (s.map thing)) ∧ Hid (HeapS l s came4) ∧ s.length ≤ nTo turns (i + 1)) (fun vk _ => n + 2 - (intOf vk).toNat)
                    case atStart => exact ⟨0, rc', RA', l4, s4, by omega, rfl, HP, HS4, hs4⟩
                    case round =>
                      clear HP HS4 hs4
                      obtain ⟨q, rc, RA, l, s, hqn, rfl, HP, HS, hsl⟩ := hrel
                      obtain ⟨c0, c1, _⟩ := HTF.out _ HP.out.keeps
                      by_cases h1 : (q : Int) < out
                      · by_cases h2 : (q : Int) ≤ (n : Int)
                        · have d1 : decide ((q : Int) < out) = true := decide_eq_true h1
                          have d2 : decide ((q : Int) ≤ (n : Int)) = true := decide_eq_true h2
                          have hbb : ∀ (b : Bool) w, (binOp .neq 4 (.bool b) (.bool b)).run Try.prog w = .ok (.bool false) w := fun b w => by cases b <;> kernel_rfl
                          by_cases hs0 : s = []
                          · skip
                            subst hs0
                            obtain rfl : l = [] := List.length_eq_zero_iff.1 HS.out.perm.length_eq
                            go_wp2_with fail
                            refine (htakeNoT_any hp c4 came4 A4 wr HP.out.hT).mono ?_
                            rintro e w5 ⟨rfl, k5⟩
                            have HP5 := Lib.hid (HP.out.quiet k5)
                            clear k5 HP
                            go_wp2_with fail
                            obtain ⟨w6, hw6⟩ : ∃ z, z = w5.alloc (.cells #[.int .i64 0, .int .i64 0] 30) := ⟨_, rfl⟩
                            have K6 : Keeps (fun _ => False) w5 w6 := by rw [hw6]; exact (Keeps.refl _ _).alloc _
                            have HP6 := Lib.hid (HP5.out.quiet K6)
                            have WA : Hid (Whole w6 w5.heap.size 30 #[.int .i64 0, .int .i64 0]) := Lib.hid (by rw [hw6]; exact Whole.made _ _ _)
                            rw [← hw6]
                            clear hw6 K6
                            have hrl : rp < w5.heap.size := HP5.out.rH.box.inside
                            clear HP5
                            obtain ⟨ba, hba⟩ : ∃ z, z = w5.heap.size := ⟨_, rfl⟩
                            rw [← hba] at WA hrl ⊢
                            clear hba
                            refine (refTake_none rp rc RA w6 HP6.out.rH).mono ?_
                            rintro e w7 ⟨rfl, k7⟩
                            have HP7 := Lib.hid (HP6.out.quiet k7)
                            have WA7 : Whole w7 ba 30 #[.int .i64 0, .int .i64 0] := WA.out.keeps k7 id
                            have hq := fun w => ne_thing (0, 0) (0, 0) w
                            clear k7 HP6
                            simp only [decide_true, Bool.not_true] at hq
                            have y0 : ∀ o, (w7.alloc o).cell? ⟨ba, 0, none⟩ = some (.int .i64 0) := fun o => (WA7.alloc o).cellAt 0
                            have y1 : ∀ o, (w7.alloc o).cell? ⟨ba, 1, none⟩ = some (.int .i64 0) := fun o => (WA7.alloc o).cellAt 1
                            clear WA7 WA
                            go_wp2_with fail
                            go_roundw
                            case rel => exact ⟨q + 1, rc, RA, [], [], by omega, by go_num, Lib.hid (HP7.out.quiet ((Keeps.refl _ _).alloc _)), HS, hsl⟩
                            case measure => (simp [intOf] <;> omega)
                          · skip
                            have hl0 : 0 < s.length := List.length_pos_iff.2 hs0
                            have hll : l.length = s.length := HS.out.perm.length_eq
                            obtain ⟨eo, he⟩ : ∃ e, l[0]? = some e := ⟨_, List.getElem?_eq_getElem (by omega)⟩
                            have HE := Lib.hid he
                            have hml : (s.map thing).length = s.length := List.length_map _
                            have HT := Lib.hid (htakeT_any hp c4 came4 A4 l eo wr HP.out.hT he (by omega))
                            clear he hs0
                            go_wp2_with fail
                            refine HT.out.mono ?_
                            rintro e w5 ⟨rfl, hT5, k5⟩
                            have HP5 := Lib.hid (HP.out.own hT5 k5 (fun b hb => .inl (by rw [own_any A4 l.length (takeT l).length c4 c4]; exact hb)))
                            clear hT5 k5 HP HT
                            go_wp2_with fail
                            obtain ⟨w6, hw6⟩ : ∃ z, z = w5.alloc (.cells #[.int .i64 eo.rank, .int .i64 eo.name] 30) := ⟨_, rfl⟩
                            have K6 : Keeps (fun _ => False) w5 w6 := by rw [hw6]; exact (Keeps.refl _ _).alloc _
                            have HP6 := Lib.hid (HP5.out.quiet K6)
                            have WA : Hid (Whole w6 w5.heap.size 30 #[.int .i64 eo.rank, .int .i64 eo.name]) := Lib.hid (by rw [hw6]; exact Whole.made _ _ _)
                            rw [← hw6]
                            clear hw6 K6
                            have hrl : rp < w5.heap.size := HP5.out.rH.box.inside
                            clear HP5
                            obtain ⟨ba, hba⟩ : ∃ z, z = w5.heap.size := ⟨_, rfl⟩
                            rw [← hba] at WA hrl ⊢
                            clear hba
                            refine (refTake_any rp rc RA (s.map thing) w6 HP6.out.rH (by omega) (by omega)).mono ?_
                            rintro e w7 ⟨at_, x, RA7, rc7, hmin, hx, rfl, hR7, k7, hn7⟩
                            rw [hml] at hmin
                            obtain ⟨e1, he1, he2, hs7⟩ := HS.out.take hmin
                            obtain rfl : e1 = eo := by have := HE.out; rw [he2] at this; injection this
                            obtain rfl : x = (e1.rank, e1.name) := by rw [List.getElem?_map, he1] at hx; injection hx with hx; exact hx.symm
                            have HP7 : Hid (HpAt w w7 hp rp A4 c4 RA7 rc7 (takeT l) came4 ((s.eraseIdx at_).map thing)) := Lib.hid (by rw [map_erase]; exact HP6.out.ref hR7 (k7.mono (fun _ _ h => .inl h)) (fun b hb => .inr (hn7 b hb)))
                            have HS7 := Lib.hid hs7
                            have hsl7 : (s.eraseIdx at_).length ≤ nTo turns (i + 1) := Nat.le_trans (List.length_eraseIdx_le _ _) hsl
                            have WA7 : Whole w7 ba 30 #[.int .i64 e1.rank, .int .i64 e1.name] := WA.out.keeps k7 (by omega)
                            have hq := fun w => ne_thing (e1.rank, e1.name) (e1.rank, e1.name) w
                            clear hmin hx hR7 k7 hn7 he1 he2 hs7 HP6 HE HS hml hll hl0
                            simp only [decide_true, Bool.not_true] at hq
                            have y0 : ∀ o, (w7.alloc o).cell? ⟨ba, 0, none⟩ = some (.int .i64 e1.rank) := fun o => (WA7.alloc o).cellAt 0
                            have y1 : ∀ o, (w7.alloc o).cell? ⟨ba, 1, none⟩ = some (.int .i64 e1.name) := fun o => (WA7.alloc o).cellAt 1
                            clear WA7 WA
                            go_wp2_with fail
                            go_roundw
                            case rel => exact ⟨q + 1, rc7, RA7, takeT l, s.eraseIdx at_, by omega, by go_num, Lib.hid (HP7.out.quiet ((Keeps.refl _ _).alloc _)), HS7, hsl7⟩
                            case measure => (simp [intOf] <;> omega)
                        · have d1 : decide ((q : Int) < out) = true := decide_eq_true h1
                          have d2 : decide ((q : Int) ≤ (n : Int)) = false := decide_eq_false h2
                          have hll : l.length = s.length := HS.out.perm.length_eq
                          have HD := Lib.hid (HP.out.quiet ((Keeps.refl (fun _ => False) wr).drew))
                          have HL := Lib.hid (hlenT_any hp c4 came4 A4 l wr.drew HD.out.hT)
                          rw [hll] at HL
                          have r0 : wr.cell? ⟨rp, 0, none⟩ = some (.slice RA s.length rc) := by have h := HP.out.rH.box.cellAt 0; simpa using h
                          have hne : ((s.length : Int) == (s.length : Int)) = true := by simp
                          clear hll
                          go_wp2_with fail
                          go_region_with (first | (go_at_call 16; with_reducible refine Calls.mono HL.out ?_; rintro e w8 ⟨rfl, rfl⟩))
                          all_goals
                            go_wp2_with fail
                            go_roundw
                            case rel => exact ⟨i + 1, A4, RA, c4, rc, l, s, came4, by omega, by go_num, HD, HS, hsl, hc40, hc41⟩
                            case measure => (simp [intOf] <;> omega)
                      · have d1 : decide ((q : Int) < out) = false := decide_eq_false h1
                        have hll : l.length = s.length := HS.out.perm.length_eq
                        have HD := Lib.hid (HP.out.quiet ((Keeps.refl (fun _ => False) wr).drew))
                        have HL := Lib.hid (hlenT_any hp c4 came4 A4 l wr.drew HD.out.hT)
                        rw [hll] at HL
                        have r0 : wr.cell? ⟨rp, 0, none⟩ = some (.slice RA s.length rc) := by have h := HP.out.rH.box.cellAt 0; simpa using h
                        have hne : ((s.length : Int) == (s.length : Int)) = true := by simp
                        clear hll
                        go_wp2_with fail
                        go_region_with (first | (go_at_call 16; with_reducible refine Calls.mono HL.out ?_; rintro e w8 ⟨rfl, rfl⟩))
                        all_goals
                          go_wp2_with fail
                          go_roundw
                          case rel => exact ⟨i + 1, A4, RA, c4, rc, l, s, came4, by omega, by go_num, HD, HS, hsl, hc40, hc41⟩
                          case measure => (simp [intOf] <;> omega)
          · obtain rfl : i = turns.length := by omega
            have HK := Lib.hid HP.out.keeps
            clear HP HS hsl hc0 hc1 hni hlt hi
            go_wp2_with fail
            obtain ⟨w9, hw9⟩ : ∃ z, z = wr.alloc (.cells #[.nilFunc, .slice none 0 0, .int .i64 0] 41) := ⟨_, rfl⟩
            have K9 : Hid (Keeps (fun _ => False) wr w9) := Lib.hid (by rw [hw9]; exact (Keeps.refl _ _).alloc _)
            have BP : Hid (Bare w9 (.pointer (some ⟨wr.heap.size, 0, none⟩))) := Lib.hid (by rw [hw9]; exact Bare.plain (Whole.made _ _ _) rfl)
            rw [← hw9]
            clear hw9
            generalize wr.heap.size = pl at *
            refine (htakeT_bare (.pointer none) w9 (Bare.nil _)).mono ?_
            rintro e wA ⟨rfl, kA⟩
            have KA := Lib.hid kA
            clear kA
            go_wp2_with fail
            obtain ⟨wB, hwB⟩ : ∃ z, z = wA.alloc (.cells #[.int .i64 0, .int .i64 0] 30) := ⟨_, rfl⟩
            have KB : Hid (Keeps (fun _ => False) w9 wB) := Lib.hid (by rw [hwB]; exact KA.out.alloc _)
            have WB : Hid (Whole wB wA.heap.size 30 #[.int .i64 0, .int .i64 0]) := Lib.hid (by rw [hwB]; exact Whole.made _ _ _)
            rw [← hwB]
            clear hwB
            generalize wA.heap.size = bB at *
            refine (htakeT_bare (.pointer (some ⟨pl, 0, none⟩)) wB (BP.out.calm KB.out)).mono ?_
            rintro e wC ⟨rfl, kC⟩
            have KC : Hid (Keeps (fun _ => False) w9 ((wC.alloc (.cells #[.int .i64 0, .int .i64 0] 30)).alloc (.cells #[.int .i64 0, .int .i64 0] 30))) := Lib.hid (((KB.out.trans kC).alloc _).alloc _)
            have WC := WB.out.keeps kC id
            have hsz : (wC.alloc (.cells #[.int .i64 0, .int .i64 0] 30)).heap.size = wC.heap.size + 1 := by simp
            have WD := (Whole.made wC 30 #[.int .i64 0, .int .i64 0]).alloc (.cells #[.int .i64 0, .int .i64 0] 30)
            have WE := Whole.made (wC.alloc (.cells #[.int .i64 0, .int .i64 0] 30)) 30 #[.int .i64 0, .int .i64 0]
            rw [hsz] at WE
            have y0 := ((WC.alloc (.cells #[.int .i64 0, .int .i64 0] 30)).alloc (.cells #[.int .i64 0, .int .i64 0] 30)).cellAt 0
            have y1 := ((WC.alloc (.cells #[.int .i64 0, .int .i64 0] 30)).alloc (.cells #[.int .i64 0, .int .i64 0] 30)).cellAt 1
            have y2 := WD.cellAt 0
            have y3 := WD.cellAt 1
            have y4 := WE.cellAt 0
            have y5 := WE.cellAt 1
            simp at y0 y1 y2 y3 y4 y5
            have hq : ∀ w, (binOp .eql 30 (.agg #[.int .i64 0, .int .i64 0]) (.agg #[.int .i64 0, .int .i64 0])).run Try.prog w = .ok (.bool true) w := fun w => by kernel_rfl
            clear kC WC WD WB hsz
            have WEH := Lib.hid WE
            clear WE
            go_wp2_with fail
            obtain ⟨wE, hwE⟩ : ∃ z, z = (wC.alloc (.cells #[.int .i64 0, .int .i64 0] 30)).alloc (.cells #[.int .i64 0, .int .i64 0] 30) := ⟨_, rfl⟩
            rw [← hwE] at KC WEH ⊢
            clear y0 y1 y2 y3 y4 y5 hwE
            have y4 := WEH.out.cellAt 0
            have y5 := WEH.out.cellAt 1
            simp at y4 y5
            generalize wC.heap.size + 1 = zb at *
            refine (hlenT_bare (.pointer none) wE (Bare.nil _)).mono ?_
            rintro e w' ⟨rfl, hw'⟩
            rw [hw']
            clear hw'
            go_wp2_with fail
            refine (hlenT_bare (.pointer (some ⟨pl, 0, none⟩)) wE (BP.out.calm KC.out)).mono ?_
            rintro e w' ⟨rfl, hw'⟩
            rw [hw']
            clear hw'
            have al0 : ∀ o, (wE.alloc o).cell? ⟨zb, 0, none⟩ = some (.int .i64 0) := fun o => (WEH.out.alloc o).cellAt 0
            have al1 : ∀ o, (wE.alloc o).cell? ⟨zb, 1, none⟩ = some (.int .i64 0) := fun o => (WEH.out.alloc o).cellAt 1
            go_wp2_with fail
            refine (hputT_bare (.pointer none) _ _ (Bare.nil _)).mono ?_
            rintro e w' ⟨rfl, hw'⟩
            rw [hw']
            clear hw'
            go_wp2_with fail
            refine (hputT_bare (.pointer (some ⟨pl, 0, none⟩)) _ _ (BP.out.calm ((KC.out.alloc _).alloc _))).mono ?_
            rintro e w' ⟨rfl, hw'⟩
            rw [hw']
            clear hw'
            have KL : Hid (Keeps (fun b => w.heap.size ≤ b) w ((wE.alloc (.cells #[.int .i64 0, .int .i64 0] 30)).alloc (.cells #[.int .i64 0, .int .i64 0] 30))) := Lib.hid (HK.out.trans ((((K9.out.trans KC.out).alloc _).alloc _).mono (fun _ _ h => h.elim)))
            go_wp2_with fail
            go_ret
            exact ⟨rfl, KL.out.below (Nat.le_refl _) (fun _ h => h)⟩
end Go.Proofs.Ytbfhbekocgdceaa
