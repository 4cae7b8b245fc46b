/-
  The bag: its lists of small integers, marked, gone on with and looked at: the walk. Conditions: no two of them lie in one block; Go's own limits.
-/
import Derived.Test.YtcmbdnjcfneinaaGreatDoorBagP
import Derived.Test.YtcmbdnjcfneinaaGreatDoorBagA
import Derived.RegionTactic
import Derived.Deep.RegionWith
namespace Go.Proofs.YtcmbdnjcfneinaaGreatDoor
open Go.RowKit
theorem info_smallB : (Tryz.prog.info? 80).map (fun i => (i.zero, i.size, i.bytes)) = some (some (.int .i8 0), 1, 1) := by kernel_rfl
theorem info_smallsB : (Tryz.prog.info? 41).map (fun i => (i.zero, i.size, i.bytes)) = some (some (.slice none 0 0), 1, 24) := by kernel_rfl
/-- The mark i of the list n. -/
def mkS (n i : Nat) : List Value := [.int .i8 (IntKind.i8.wrap (1048576 * (31 * (n : Int)) + 7 * (i : Int) + 1))]
theorem mkS_length (n i : Nat) : (mkS n i).length = 1 := rfl
theorem mkS_add (n l m : Nat) : mkS n (l + m) = [.int .i8 (IntKind.i8.wrap (1048576 * (31 * (n : Int)) + 7 * ((l : Int) + (m : Int)) + 1))] := by unfold mkS; rw [Int.natCast_add]
theorem mkS_at (k m i : Nat) (h : i < m) : (marks mkS k m)[i]? = some (.int .i8 (IntKind.i8.wrap (1048576 * (31 * (k : Int)) + 7 * (i : Int) + 1))) := by
  have := marks_get mkS mkS_length k m i 0 h (by decide)
  rw [Nat.mul_one, Nat.add_zero] at this
  rw [this]; rfl
set_option maxRecDepth 100000 in
set_option maxHeartbeats 2000000 in
theorem apartSmalls_any (p gO capO : Nat) (rows : List Sl) (w : World) (hF : BagFix w p 5 gO capO rows) (hR : SlRows 80 1 rows w) (hn : rows.length ≤ 400) (hl : ∀ (k : Nat) (r : Sl), rows[k]? = some r → r.len ≤ 1000000000000) :
    Calls Tryz.prog 59 #[.pointer (some ⟨p, 0, none⟩)] w fun e w' => e = .returned (.bool true) ∧ Keeps (blks rows) w w' := by
  have HF := Lib.hid hF
  have HAp := Lib.hid hR.apart
  have HM0 : Hid (Marked mkS 80 1 rows w w 0) := Lib.hid (Marked.start hR (Keeps.refl _ _))
  have HL := Lib.hid hl
  clear hl hR
  have c0 := hF.hp
  go_enter Tryz.func59, Tryz.ntmps59
  go_wp2_with fail
  clear c0
  go_loopw [3] (fun v wr => ∃ n : Nat, n ≤ rows.length ∧ v = .int .i64 n ∧ Hid (Marked mkS 80 1 rows w wr n)) (fun v _ => rows.length - (intOf v).toNat)
  case atStart => exact ⟨0, by omega, rfl, HM0⟩
  case round =>
    clear HM0 hF
    obtain ⟨n, hnr, rfl, HM⟩ := hrel
    have HFr := Lib.hid (HF.out.keeps HM.out.keeps)
    have c0 := HFr.out.hp
    by_cases hlt : n < rows.length
    · obtain ⟨r, hr⟩ : ∃ r, rows[n]? = some r := ⟨_, List.getElem?_eq_getElem hlt⟩
      have c1 := HFr.out.hO n r hr
      have HI0 := Lib.hid (HM.out.enter hr)
      have hrl := HL.out n r hr
      have HRr := Lib.hid hr
      obtain ⟨ra, rl, rc⟩ := r
      clear HM hr
      go_wp2_with fail
      clear c0 c1
      go_loopw [4] (fun v wr => ∃ i : Nat, i ≤ rl ∧ v = .int .i64 i ∧ Hid (MarkedIn mkS 80 1 rows w wr n i ⟨ra, rl, rc⟩)) (fun v _ => rl - (intOf v).toNat)
      case atStart => exact ⟨0, by omega, rfl, HI0⟩
      case round =>
        clear HI0 HFr
        obtain ⟨i, hir, rfl, HI⟩ := hrel
        have HFr := Lib.hid (HF.out.keeps HI.out.keeps)
        have c0 := HFr.out.hp
        have c1 := HFr.out.hO n _ HRr.out
        by_cases hil : i < rl
        · obtain ⟨g, cs, hg, hW, hsz⟩ := HI.out.cell hil
          obtain rfl : ra = some ⟨g, 0, none⟩ := hg
          obtain ⟨u, hu⟩ : ∃ u, wr.cell? ⟨g, i, none⟩ = some u := ⟨_, (hW.cellAt i).trans (Array.getElem?_eq_getElem (by simp only [Nat.mul_one] at hsz; omega))⟩
          have hfr := hW.free i
          clear hW hsz
          have HP := Lib.hid (HI.out.put (u := .int .i8 (IntKind.i8.wrap (1048576 * (31 * (n : Int)) + 7 * (i : Int) + 1))) HRr.out HAp.out hil rfl rfl)
          clear HI
          have H31 : Hid (IntKind.i64.wrap (31 * (n : Int)) = 31 * (n : Int)) := Lib.hid (by rw [IntKind.wrap_i64]; omega)
          have H7 : Hid (IntKind.i64.wrap (7 * (i : Int)) = 7 * (i : Int)) := Lib.hid (by rw [IntKind.wrap_i64]; omega)
          go_wp2_with fail
          go_region_with (first | (go_at_call 86; rw [H31.out, H7.out]; refine (numB_any (31 * n) (7 * i) _ (by omega) (by omega)).mono ?_; rintro e w1 ⟨rfl, rfl⟩))
          all_goals
            go_wp2_with fail
            go_roundw
            case rel => exact ⟨i + 1, by omega, by go_num, Lib.hid HP.out.drew⟩
            case measure => (simp [intOf] <;> omega)
        · obtain rfl : i = rl := by omega
          have HM := Lib.hid (HI.out.leave HRr.out)
          clear HI
          go_wp2_with fail
          go_roundw
          case rel => exact ⟨n + 1, by omega, by go_num, HM⟩
          case measure => (simp [intOf] <;> omega)
    · obtain rfl : n = rows.length := by omega
      have HG0 := Lib.hid (Going.start (eo := 41) (base := wr.heap.size) HM.out rfl)
      have hb0 := HM.out.keeps.size
      clear hlt HM HFr
      go_wp2_with fail
      clear c0
      generalize wr.heap.size = base at *
      go_loopw [5, 6, 7] (fun vo vm v wq => ∃ (n : Nat) (ov mv : Value) (ones mores : List Value) (D : Nat → Prop), n ≤ rows.length ∧ v = .int .i64 n ∧ ov = vo ∧ mv = vm ∧ Hid (Going mkS 80 41 1 base rows w wq n ov mv ones mores D)) (fun _ _ v _ => rows.length - (intOf v).toNat)
      case atStart => exact ⟨0, _, _, [], [], fun _ => False, by omega, rfl, rfl, rfl, HG0⟩
      case round =>
        clear HG0
        obtain ⟨n, ov, mv, ones, mores, D, hnr, rfl, rfl, rfl, HG⟩ := hrel
        have HFr := Lib.hid (HF.out.keeps HG.out.keeps)
        have c0 := HFr.out.hp
        by_cases hlt : n < rows.length
        · obtain ⟨r, hr⟩ : ∃ r, rows[n]? = some r := ⟨_, List.getElem?_eq_getElem hlt⟩
          have c1 := HFr.out.hO n r hr
          have HI0 := Lib.hid (HG.out.enter HAp.out hr)
          have hrl := HL.out n r hr
          have HRr := Lib.hid hr
          obtain ⟨ra, rl, rc⟩ := r
          clear HG hr HFr
          go_wp2_with fail
          clear c0 c1
          go_loopw [5, 8, 9] (fun vo vl v wq => ∃ (m c lcap : Nat) (lA : Option Addr) (ones : List Value) (E : Nat → Prop), m ≤ 70 ∧ v = .int .i64 ((rl : Int) + (m : Int)) ∧ vl = .slice lA (rl + m) lcap ∧ c = (if m = 0 then n else n + 1) ∧ Hid (GoingIn mkS 80 41 1 base rows w wq n m c vo mv vl ones mores D E ⟨ra, rl, rc⟩)) (fun _ _ v _ => (rl : Int).toNat + 70 - (intOf v).toNat)
          case atStart => exact ⟨0, n, rc, ra, ones, _, by omega, by simp, rfl, rfl, HI0⟩
          case round =>
            clear HI0
            obtain ⟨m, c, lcap, lA, ones, E, hm, rfl, rfl, hc, HI⟩ := hrel
            have HFr := Lib.hid (HF.out.keeps HI.out.keeps)
            have c0 := HFr.out.hp
            have c1 := HFr.out.hO n _ HRr.out
            clear HFr
            obtain ⟨wq, rfl⟩ : ∃ wq : World, wq = wr := ⟨_, rfl⟩
            by_cases hm0 : m = 0
            · subst hm0
              obtain rfl : c = n := by simpa using hc
              clear hc hm
              go_wp2_with fail
              refine (numB_any (31 * c) _ _ (by omega) (by omega)).mono ?_
              rintro e w1 ⟨rfl, rfl⟩
              have own0 : Hid (wq.ownsRow 0 80 1 (.slice lA rl lcap) rl (marks mkS c rl)) := Lib.hid HI.out.own
              go_wp2_with (first
                | (at_builtin; (refine wpList_append_cells _ rfl (.tmp 81) (.tmp 88) 41 rfl 0 80 (.int .i8 0) 1 1 Tryz.underlying41 info_smallB rfl (by decide) _ (rl) _ rfl (own0.out.alloc _) (wq.heap.size + 1) (some ⟨wq.heap.size, 0, none⟩) 1 1 (mkS c rl) rfl (by exact Lies.row (t := 80) (fr := (0, 0)) (heap_alloc_new wq _) (by simp)) rfl (by simp [mkS, Value.oneCell']) (by unfold maxLen; omega) (by omega) (by simp) ?_); intro A' cap' w1 h1 h2 h3 _ h4; obtain ⟨E1, hI1⟩ := HI.out.pushed mkS_length h1 h2 h3 h4; have HI1 := Lib.hid hI1; have HF1 := Lib.hid (HF.out.keeps hI1.keeps); clear h1 h2 h3 h4 hI1 c0 c1; have d0 := HF1.out.hp; have d1 := HF1.out.hO c _ HRr.out)
                | (at_builtin; (refine wpList_append_cells _ rfl (.tmp 100) (.tmp 102) 50 rfl base 41 (.slice none 0 0) 1 24 Tryz.underlying50 info_smallsB rfl (by decide) _ c _ rfl (HI1.out.one.alloc _) (w1.heap.size + 1) (some ⟨w1.heap.size, 0, none⟩) 1 1 [.slice A' (rl + 1) cap'] rfl (Lies.row (t := 41) (fr := (0, 0)) (heap_alloc_new w1 _) (by simp)) rfl (by simp [Value.oneCell']) (by unfold maxLen; omega) (by omega) (by have := HI1.out.big; simp; omega) ?_); intro A2 cap2 w2 h1 h2 h3 _ h4; have HI2 := Lib.hid (HI1.out.took hb0 rfl (pushed_of HI1.out.one h1 h2 h3 h4)); clear h1 h2 h3 h4 HI1))
              go_roundw
              case rel => exact ⟨1, c + 1, cap', A', _, E1, by omega, by go_num, rfl, rfl, HI2⟩
              case measure => (simp [intOf] <;> omega)
            · obtain rfl : c = n + 1 := by rw [if_neg hm0] at hc; exact hc
              clear hc
              by_cases hm7 : m < 70
              · have hne : ¬ ((rl : Int) + (m : Int) = (rl : Int)) := by omega
                go_wp2_with fail
                refine (numB_any (31 * n) _ _ (by omega) (by omega)).mono ?_
                rintro e w1 ⟨rfl, rfl⟩
                go_wp2_with (at_builtin; (refine wpList_append_cells _ rfl (.tmp 81) (.tmp 88) 41 rfl 0 80 (.int .i8 0) 1 1 Tryz.underlying41 info_smallB rfl (by decide) _ (rl + m) _ rfl (HI.out.own.alloc _) (wq.heap.size + 1) (some ⟨wq.heap.size, 0, none⟩) 1 1 (mkS n (rl + m)) rfl (by rw [mkS_add]; exact Lies.row (t := 80) (fr := (0, 0)) (heap_alloc_new wq _) (by simp)) rfl (by simp [mkS, Value.oneCell']) (by unfold maxLen; omega) (by omega) (by simp) ?_); intro A' cap' w1 h1 h2 h3 _ h4; obtain ⟨E1, hI1⟩ := HI.out.pushed mkS_length h1 h2 h3 h4; have HI1 := Lib.hid hI1; have HF1 := Lib.hid (HF.out.keeps hI1.keeps); clear h1 h2 h3 h4 hI1 c0 c1; have d0 := HF1.out.hp; have d1 := HF1.out.hO n _ HRr.out)
                go_roundw
                case rel => exact ⟨m + 1, n + 1, cap', A', _, E1, by omega, by go_num, rfl, rfl, HI1⟩
                case measure => (simp [intOf] <;> omega)
              · obtain rfl : m = 70 := by omega
                clear hm hm0 hm7
                go_wp2_with (at_builtin; (refine wpList_append_cells _ rfl (.tmp 104) (.tmp 106) 50 rfl base 41 (.slice none 0 0) 1 24 Tryz.underlying50 info_smallsB rfl (by decide) _ n _ rfl (HI.out.more.alloc _) (wq.heap.size + 1) (some ⟨wq.heap.size, 0, none⟩) 1 1 [.slice lA (rl + 70) lcap] rfl (Lies.row (t := 41) (fr := (0, 0)) (heap_alloc_new wq _) (by simp)) rfl (by simp [Value.oneCell']) (by unfold maxLen; omega) (by omega) (by have := HI.out.big; simp; omega) ?_); intro A2 cap2 w2 h1 h2 h3 _ h4; have HG := Lib.hid (HI.out.leave HRr.out hb0 rfl (pushed_of HI.out.more h1 h2 h3 h4)); clear h1 h2 h3 h4 HI)
                go_roundw
                case rel => exact ⟨n + 1, _, _, _, _, _, by omega, by go_num, rfl, rfl, HG⟩
                case measure => (simp [intOf] <;> omega)
        · obtain rfl : n = rows.length := by omega
          clear hlt hb0
          obtain ⟨wq, rfl⟩ : ∃ wq : World, wq = wr := ⟨_, rfl⟩
          obtain ⟨mA, mcap, rfl, _, _⟩ := own_slice HG.out.more
          obtain ⟨oA, ocap, rfl, _, _⟩ := own_slice HG.out.one
          have HLm := Lib.hid (own_lies HG.out.more)
          have HLo := Lib.hid (own_lies HG.out.one)
          go_wp2_with fail
          clear c0
          go_loopw [10] (fun v wr => ∃ n : Nat, n ≤ rows.length ∧ v = .int .i64 n ∧ wq = wr) (fun v _ => rows.length - (intOf v).toNat)
          case atStart => exact ⟨0, by omega, rfl, rfl⟩
          case round =>
            obtain ⟨n, hn2, rfl, rfl⟩ := hrel
            by_cases hlt : n < rows.length
            · obtain ⟨r, hr⟩ : ∃ r, rows[n]? = some r := ⟨_, List.getElem?_eq_getElem hlt⟩
              obtain ⟨h1, ⟨a, c, h2, h3⟩, a', c', h4, h5⟩ := HG.out.did n hlt r hr
              obtain ⟨gm, om, rfl, _, hcm⟩ := HLm.out n _ h4
              obtain ⟨go, oo, rfl, _, hco⟩ := HLo.out n _ h2
              have hrl := HL.out n r hr
              have c0 := HFr.out.hp
              have c1 := HFr.out.hO n r hr
              obtain ⟨ra, rl, rc⟩ := r
              have H1 := Lib.hid h1; have H3 := Lib.hid h3; have H5 := Lib.hid h5
              clear h1 h2 h3 h4 h5 hr
              go_wp2_with fail
              go_loopw [11] (fun v wr => ∃ i : Nat, i ≤ rl + 70 ∧ v = .int .i64 i ∧ wq = wr) (fun v _ => rl + 70 - (intOf v).toNat)
              case atStart => exact ⟨0, by omega, rfl, rfl⟩
              case round =>
                obtain ⟨i, hi, rfl, rfl⟩ := hrel
                by_cases hil : i < rl + 70
                · obtain ⟨b5, rfl, _, d5⟩ := H5.out i _ (mkS_at n _ i hil)
                  rcases Nat.lt_trichotomy i rl with h | h | h
                  · obtain ⟨b1, rfl, _, d1⟩ := H1.out i _ (mkS_at n _ i h)
                    have hne : ¬ ((i : Int) = (rl : Int)) := by omega
                    go_wp2_with fail
                    refine (numB_any (31 * n) (7 * i) _ (by omega) (by omega)).mono ?_
                    rintro e w1 ⟨rfl, rfl⟩
                    go_wp2_with fail
                    refine (numB_any (31 * n) (7 * i) _ (by omega) (by omega)).mono ?_
                    rintro e w1 ⟨rfl, rfl⟩
                    go_wp2_with fail
                    go_roundw
                    case rel => exact ⟨i + 1, by omega, by go_num, trivial⟩
                    case measure => (simp [intOf] <;> omega)
                  · obtain rfl : i = rl := h
                    obtain ⟨b3, rfl, _, d3⟩ := H3.out i _ (mkS_at n _ i (by omega))
                    go_wp2_with fail
                    refine (numB_any (31 * n) (7 * i) _ (by omega) (by omega)).mono ?_
                    rintro e w1 ⟨rfl, rfl⟩
                    go_wp2_with fail
                    refine (numB_any (31 * n) (7 * i) _ (by omega) (by omega)).mono ?_
                    rintro e w1 ⟨rfl, rfl⟩
                    go_wp2_with fail
                    go_roundw
                    case rel => exact ⟨i + 1, by omega, by go_num, trivial⟩
                    case measure => (simp [intOf] <;> omega)
                  · have hne : ¬ ((i : Int) = (rl : Int)) := by omega
                    go_wp2_with fail
                    refine (numB_any (31 * n) (7 * i) _ (by omega) (by omega)).mono ?_
                    rintro e w1 ⟨rfl, rfl⟩
                    go_wp2_with fail
                    refine (numB_any (31 * n) (7 * i) _ (by omega) (by omega)).mono ?_
                    rintro e w1 ⟨rfl, rfl⟩
                    go_wp2_with fail
                    go_roundw
                    case rel => exact ⟨i + 1, by omega, by go_num, trivial⟩
                    case measure => (simp [intOf] <;> omega)
                · obtain rfl : i = rl + 70 := by omega
                  go_wp2_with fail
                  go_roundw
                  case rel => exact ⟨n + 1, by omega, by go_num, trivial⟩
                  case measure => (simp [intOf] <;> omega)
            · obtain rfl : n = rows.length := by omega
              have HK := Lib.hid HG.out.keeps
              go_wp2_with fail
              go_ret
              exact ⟨rfl, HK.out⟩
end Go.Proofs.YtcmbdnjcfneinaaGreatDoor
