/-
  Marks of several cells: a list's next mark is put. Conditions: none.
-/
import Derived.Test.YtcmbdnjcfneinaaGreatDoorBagP
import Derived.Test.YtcmbdnjcfneinaaGreatDoorBagA
import Derived.RegionTactic
import Derived.Deep.RegionWith
namespace Go.Proofs.YtcmbdnjcfneinaaGreatDoor
open Go.RowKit
/-- Several cells behind one another. -/
def putsW (g : Nat) : Nat → List Value → World → World
  | _, [], w => w
  | p, v :: vs, w => putsW g (p + 1) vs (w.setCell ⟨g, p, none⟩ v)
theorem putsW_keeps (g : Nat) : ∀ (vs : List Value) (p : Nat) (w : World), Keeps (fun b => b = g) w (putsW g p vs w)
  | [], _, w => Keeps.refl _ w
  | v :: vs, p, w => ((Keeps.refl (fun b => b = g) w).setCell (p := ⟨g, p, none⟩) (fun _ => rfl) v).trans (putsW_keeps g vs (p + 1) _)
theorem putsW_whole {g : Nat} {e : TypeId} : ∀ (vs : List Value) (p : Nat) (cs : Array Value) (w : World), Whole w g e cs → p + vs.length ≤ cs.size → ∃ cs' : Array Value, Whole (putsW g p vs w) g e cs' ∧ cs'.size = cs.size ∧ cs'.toList = cs.toList.take p ++ (vs ++ cs.toList.drop (p + vs.length))
  | [], p, cs, w, h, _ => ⟨cs, h, rfl, by simp⟩
  | v :: vs, p, cs, w, h, hl => by
    simp only [List.length_cons] at hl
    obtain ⟨cs', h1, h2, h3⟩ := putsW_whole vs (p + 1) (cs.setIfInBounds p v) (w.setCell ⟨g, p, none⟩ v) (h.put p v) (by rw [Array.size_setIfInBounds]; omega)
    refine ⟨cs', h1, by rw [h2, Array.size_setIfInBounds], ?_⟩
    have hlt : p < cs.toList.length := by rw [Array.length_toList]; omega
    rw [h3, Array.toList_setIfInBounds, List.length_cons, List.take_add_one, List.getElem?_set_self hlt, List.take_set_of_le (Nat.le_refl _), List.drop_set_of_lt (by omega)]
    simp [Nat.add_assoc, Nat.add_comm 1]
/-- The next mark of s cells. -/
theorem MarkedIn.puts {mk : Nat → Nat → List Value} {e : TypeId} {s : Nat} {rows : List Sl} {w0 w : World} {n i g : Nat} {r : Sl} {vs : List Value} (h : MarkedIn mk e s rows w0 w n i r) (hr : rows[n]? = some r) (hR : ∀ (j k : Nat) (r q : Sl) (b : Nat), rows[j]? = some r → rows[k]? = some q → r.blk = some b → q.blk = some b → j = k) (hi : i < r.len) (hg : r.at_ = some ⟨g, 0, none⟩) (hu : mk n i = vs) (hs : vs.length = s) :
    MarkedIn mk e s rows w0 (putsW g (i * s) vs w) n (i + 1) r := by
  have hb : r.blk = some g := by unfold Sl.blk Sl.val; rw [hg]; rfl
  have hk := putsW_keeps g vs (i * s) w
  refine ⟨h.keeps.trans (hk.mono fun b _ e1 => ⟨n, r, hr, by rw [e1]; exact hb⟩), ?_, ?_⟩
  · intro k q hne hq
    obtain ⟨xs, hx, hm⟩ := h.own k q hne hq
    exact ⟨xs, own_keepsS hx hk fun b hb' e1 => hne (hR k n q r g hq hr (by rw [← e1]; exact hb') hb), hm⟩
  · obtain ⟨xs, hx, ht⟩ := h.here
    rcases hx.2 with ⟨_, h0⟩ | ⟨g', cap, cur, hv, hbs, hh, hc, hm, hsz, hta⟩
    · omega
    · have hgg : g' = g := by
        have e1 : r.at_ = some ⟨g', 0, none⟩ := by unfold Sl.val at hv; injection hv
        rw [hg] at e1
        injection e1 with e1
        injection e1 with e1
        exact e1.symm
      subst hgg
      have hl : xs.length = r.len * s := hx.1
      have hil : i * s + s ≤ r.len * s := by rw [← Nat.succ_mul]; exact Nat.mul_le_mul_right _ hi
      have hcap : r.len * s ≤ cap * s := Nat.mul_le_mul_right _ hc
      have hW : Whole w g' e cur := hh
      obtain ⟨cs', h1, h2, h3⟩ := putsW_whole vs (i * s) cur w hW (by omega)
      refine ⟨xs.take (i * s) ++ (vs ++ xs.drop (i * s + s)), ⟨?_, .inr ⟨g', cap, cs', hv, hbs, h1, hc, hm, by rw [h2]; exact hsz, ?_⟩⟩, ?_⟩
      · simp only [List.length_append, List.length_take, List.length_drop]; omega
      · rw [h3, hs, ← hta]
        have hcl : cur.toList.length = cap * s := by rw [Array.length_toList]; exact hsz
        rw [List.take_append, List.take_take, List.length_take, hcl, show min (i * s) (cap * s) = i * s by omega, show min (r.len * s) (i * s) = i * s by omega, List.take_append, List.take_of_length_le (l := vs) (by omega), hs, List.take_take, show min (i * s) (r.len * s) = i * s by omega]
        congr 2
        rw [List.drop_take]
        congr 1
        omega
      · rw [Nat.succ_mul, marks_succ, hu]
        have hlt : (xs.take (i * s)).length = i * s := by rw [List.length_take]; omega
        rw [List.take_append, hlt, Nat.add_sub_cancel_left, List.take_of_length_le (l := xs.take (i * s)) (by omega), List.take_append, List.take_of_length_le (l := vs) (by omega), hs, Nat.sub_self, List.take_zero, List.append_nil, ht]
theorem marks_get' {mk : Nat → Nat → List Value} {s : Nat} (hs : ∀ k i, (mk k i).length = s) (k m i j : Nat) (h : i < m) (hj : j < s) : (marks mk k m)[i * s + j]? = (mk k i)[j]? := marks_get mk hs k m i j h hj
theorem numB_same (n i : Int) (w : World) (hn : 0 ≤ n ∧ n ≤ 1000000) (hi : 0 ≤ i ∧ i ≤ 1000000000000000000) : Calls Tryz.prog 86 #[.int .i64 n, .int .i64 i] w fun e w' => e = .returned (.int .i64 (1048576 * n + i + 1)) ∧ w' = w := (numB_any n i w hn hi).mono fun _ _ h => ⟨h.1, h.2.symm⟩
end Go.Proofs.YtcmbdnjcfneinaaGreatDoor
/-
  The bag: its lists of effects, marked, gone on with and looked at: the walk. Conditions: no two of them lie in one block; lengths within 10 ^ 9.
-/
namespace Go.Proofs.YtcmbdnjcfneinaaGreatDoor
open Go.RowKit
theorem info_efB : (Tryz.prog.info? 43).map (fun i => (i.zero, i.size, i.bytes)) = some (some (.agg #[.int .i64 0, .slice none 0 0, .slice none 0 0, .int .i64 0]), 4, 64) := by kernel_rfl
theorem info_efsB : (Tryz.prog.info? 38).map (fun i => (i.zero, i.size, i.bytes)) = some (some (.slice none 0 0), 1, 24) := by kernel_rfl
/-- The mark i of the list n. -/
def mkE (n i : Nat) : List Value := [.int .i64 (1048576 * (n : Int) + (i : Int) + 1), .slice none 0 0, .slice none 0 0, .int .i64 0]
theorem mkE_length (n i : Nat) : (mkE n i).length = 4 := rfl
theorem mkE_add (n l m : Nat) : mkE n (l + m) = [.int .i64 (1048576 * (n : Int) + ((l : Int) + (m : Int)) + 1), .slice none 0 0, .slice none 0 0, .int .i64 0] := by unfold mkE; rw [Int.natCast_add]
theorem mkE_at (k m i j : Nat) (h : i < m) (hj : j < 4) : (marks mkE k m)[i * 4 + j]? = (mkE k i)[j]? := marks_get mkE mkE_length k m i j h hj
theorem mkE_oneCell (k i : Nat) : ∀ u ∈ mkE k i, u.oneCell' = true := by
  intro u hu
  simp only [mkE, List.mem_cons, List.mem_nil_iff, or_false] at hu
  rcases hu with rfl | rfl | rfl | rfl <;> rfl
set_option maxRecDepth 100000 in
set_option maxHeartbeats 2000000 in
theorem apartEffects_any (p gO capO : Nat) (rows : List Sl) (w : World) (hF : BagFix w p 18 gO capO rows) (hR : SlRows 43 4 rows w) (hn : rows.length ≤ 400) (hl : ∀ (k : Nat) (r : Sl), rows[k]? = some r → r.len ≤ 1000000000) :
    Calls Tryz.prog 72 #[.pointer (some ⟨p, 0, none⟩)] w fun e w' => e = .returned (.bool true) ∧ Keeps (blks rows) w w' := by
  have HF := Lib.hid hF
  have HAp := Lib.hid hR.apart
  have HM0 : Hid (Marked mkE 43 4 rows w w 0) := Lib.hid (Marked.start hR (Keeps.refl _ _))
  have HL := Lib.hid hl
  clear hl hR
  have c0 := hF.hp
  go_enter Tryz.func72, Tryz.ntmps72
  go_wp2_with fail
  clear c0
  go_loopw [3] (fun v wr => ∃ n : Nat, n ≤ rows.length ∧ v = .int .i64 n ∧ Hid (Marked mkE 43 4 rows w wr n)) (fun v _ => rows.length - (intOf v).toNat)
  case atStart => exact ⟨0, by omega, rfl, HM0⟩
  case round =>
    clear HM0 hF
    obtain ⟨n, hnr, rfl, HM⟩ := hrel
    have HFr := Lib.hid (HF.out.keeps HM.out.keeps)
    have c0 := HFr.out.hp
    by_cases hlt : n < rows.length
    · obtain ⟨r, hr⟩ : ∃ r, rows[n]? = some r := ⟨_, List.getElem?_eq_getElem hlt⟩
      have c1 := HFr.out.hO n r hr
      have HI0 := Lib.hid (HM.out.enter hr)
      have hrl := HL.out n r hr
      have HRr := Lib.hid hr
      obtain ⟨ra, rl, rc⟩ := r
      clear HM hr
      go_wp2_with fail
      clear c0 c1
      go_loopw [4] (fun v wr => ∃ i : Nat, i ≤ rl ∧ v = .int .i64 i ∧ Hid (MarkedIn mkE 43 4 rows w wr n i ⟨ra, rl, rc⟩)) (fun v _ => rl - (intOf v).toNat)
      case atStart => exact ⟨0, by omega, rfl, HI0⟩
      case round =>
        clear HI0 HFr
        obtain ⟨i, hir, rfl, HI⟩ := hrel
        have HFr := Lib.hid (HF.out.keeps HI.out.keeps)
        have c0 := HFr.out.hp
        have c1 := HFr.out.hO n _ HRr.out
        by_cases hil : i < rl
        · obtain ⟨g, cs, hg, hW, hsz⟩ := HI.out.cell hil
          obtain rfl : ra = some ⟨g, 0, none⟩ := hg
          have hil3 : i * 4 + 4 ≤ rl * 4 := by omega
          have hsz' : rl * 4 ≤ cs.size := hsz
          obtain ⟨u0, hu0⟩ : ∃ u, wr.cell? ⟨g, i * 4, none⟩ = some u := ⟨_, (hW.cellAt _).trans (Array.getElem?_eq_getElem (by omega))⟩
          have hf0 := hW.free (i * 4)
          obtain ⟨u1, hu1⟩ : ∃ u, wr.cell? ⟨g, i * 4 + 1, none⟩ = some u := ⟨_, (hW.cellAt _).trans (Array.getElem?_eq_getElem (by omega))⟩
          have hf1 := hW.free (i * 4 + 1)
          obtain ⟨u2, hu2⟩ : ∃ u, wr.cell? ⟨g, i * 4 + 2, none⟩ = some u := ⟨_, (hW.cellAt _).trans (Array.getElem?_eq_getElem (by omega))⟩
          have hf2 := hW.free (i * 4 + 2)
          obtain ⟨u3, hu3⟩ : ∃ u, wr.cell? ⟨g, i * 4 + 3, none⟩ = some u := ⟨_, (hW.cellAt _).trans (Array.getElem?_eq_getElem (by omega))⟩
          have hf3 := hW.free (i * 4 + 3)
          clear hW hsz hsz'
          have HP : Hid (MarkedIn mkE 43 4 rows w ((((wr.setCell ⟨g, i * 4, none⟩ (.int .i64 (1048576 * (n : Int) + (i : Int) + 1))).setCell ⟨g, i * 4 + 1, none⟩ (.slice none 0 0)).setCell ⟨g, i * 4 + 2, none⟩ (.slice none 0 0)).setCell ⟨g, i * 4 + 3, none⟩ (.int .i64 0)) n (i + 1) ⟨some ⟨g, 0, none⟩, rl, rc⟩) := Lib.hid (HI.out.puts (vs := mkE n i) HRr.out HAp.out hil rfl rfl rfl)
          clear HI
          go_wp2_with fail
          go_region_with (first | (go_at_call 86; refine (numB_any n i _ (by omega) (by omega)).mono ?_; rintro e w1 ⟨rfl, rfl⟩))
          all_goals
            go_wp2_with fail
            go_roundw
            case rel => exact ⟨i + 1, by omega, by go_num, Lib.hid HP.out.drew⟩
            case measure => (simp [intOf] <;> omega)
        · obtain rfl : i = rl := by omega
          have HM := Lib.hid (HI.out.leave HRr.out)
          clear HI
          go_wp2_with fail
          go_roundw
          case rel => exact ⟨n + 1, by omega, by go_num, HM⟩
          case measure => (simp [intOf] <;> omega)
    · obtain rfl : n = rows.length := by omega
      have HG0 := Lib.hid (Going.start (eo := 38) (base := wr.heap.size) HM.out rfl)
      have hb0 := HM.out.keeps.size
      clear hlt HM HFr
      go_wp2_with fail
      clear c0
      generalize wr.heap.size = base at *
      go_loopw [5, 6, 7] (fun vo vm v wq => ∃ (n : Nat) (ov mv : Value) (ones mores : List Value) (D : Nat → Prop), n ≤ rows.length ∧ v = .int .i64 n ∧ ov = vo ∧ mv = vm ∧ Hid (Going mkE 43 38 4 base rows w wq n ov mv ones mores D)) (fun _ _ v _ => rows.length - (intOf v).toNat)
      case atStart => exact ⟨0, _, _, [], [], fun _ => False, by omega, rfl, rfl, rfl, HG0⟩
      case round =>
        clear HG0
        obtain ⟨n, ov, mv, ones, mores, D, hnr, rfl, rfl, rfl, HG⟩ := hrel
        have HFr := Lib.hid (HF.out.keeps HG.out.keeps)
        have c0 := HFr.out.hp
        by_cases hlt : n < rows.length
        · obtain ⟨r, hr⟩ : ∃ r, rows[n]? = some r := ⟨_, List.getElem?_eq_getElem hlt⟩
          have c1 := HFr.out.hO n r hr
          have HI0 := Lib.hid (HG.out.enter HAp.out hr)
          have hrl := HL.out n r hr
          have HRr := Lib.hid hr
          obtain ⟨ra, rl, rc⟩ := r
          clear HG hr HFr
          go_wp2_with fail
          clear c0 c1
          go_loopw [5, 8, 9] (fun vo vl v wq => ∃ (m c lcap : Nat) (lA : Option Addr) (ones : List Value) (E : Nat → Prop), m ≤ 70 ∧ v = .int .i64 ((rl : Int) + (m : Int)) ∧ vl = .slice lA (rl + m) lcap ∧ c = (if m = 0 then n else n + 1) ∧ Hid (GoingIn mkE 43 38 4 base rows w wq n m c vo mv vl ones mores D E ⟨ra, rl, rc⟩)) (fun _ _ v _ => (rl : Int).toNat + 70 - (intOf v).toNat)
          case atStart => exact ⟨0, n, rc, ra, ones, _, by omega, by simp, rfl, rfl, HI0⟩
          case round =>
            clear HI0
            obtain ⟨m, c, lcap, lA, ones, E, hm, rfl, rfl, hc, HI⟩ := hrel
            have HFr := Lib.hid (HF.out.keeps HI.out.keeps)
            have c0 := HFr.out.hp
            have c1 := HFr.out.hO n _ HRr.out
            clear HFr
            obtain ⟨wq, rfl⟩ : ∃ wq : World, wq = wr := ⟨_, rfl⟩
            by_cases hm0 : m = 0
            · subst hm0
              obtain rfl : c = n := by simpa using hc
              clear hc hm
              go_wp2_with fail
              refine (numB_any c _ _ (by omega) (by omega)).mono ?_
              rintro e w1 ⟨rfl, rfl⟩
              have own0 : Hid (wq.ownsRow 0 43 4 (.slice lA rl lcap) rl (marks mkE c rl)) := Lib.hid HI.out.own
              go_wp2_with (first
                | (at_builtin; (refine wpList_append_cells _ rfl (.tmp 79) (.tmp 84) 38 rfl 0 43 (.agg #[.int .i64 0, .slice none 0 0, .slice none 0 0, .int .i64 0]) 4 64 Tryz.underlying38 info_efB rfl (by decide) _ (rl) _ rfl (own0.out.alloc _) (wq.heap.size + 1) (some ⟨wq.heap.size, 0, none⟩) 1 1 (mkE c rl) rfl (by exact Lies.row (t := 43) (fr := (0, 0)) (heap_alloc_new wq _) (by simp)) rfl (mkE_oneCell _ _) (by unfold maxLen; omega) (by omega) (by simp) ?_); intro A' cap' w1 h1 h2 h3 _ h4; obtain ⟨E1, hI1⟩ := HI.out.pushed mkE_length h1 h2 h3 h4; have HI1 := Lib.hid hI1; have HF1 := Lib.hid (HF.out.keeps hI1.keeps); clear h1 h2 h3 h4 hI1 c0 c1; have d0 := HF1.out.hp; have d1 := HF1.out.hO c _ HRr.out)
                | (at_builtin; (refine wpList_append_cells _ rfl (.tmp 96) (.tmp 98) 63 rfl base 38 (.slice none 0 0) 1 24 Tryz.underlying63 info_efsB rfl (by decide) _ c _ rfl (HI1.out.one.alloc _) (w1.heap.size + 1) (some ⟨w1.heap.size, 0, none⟩) 1 1 [.slice A' (rl + 1) cap'] rfl (Lies.row (t := 38) (fr := (0, 0)) (heap_alloc_new w1 _) (by simp)) rfl (by simp [Value.oneCell']) (by unfold maxLen; omega) (by omega) (by have := HI1.out.big; simp; omega) ?_); intro A2 cap2 w2 h1 h2 h3 _ h4; have HI2 := Lib.hid (HI1.out.took hb0 rfl (pushed_of HI1.out.one h1 h2 h3 h4)); clear h1 h2 h3 h4 HI1))
              go_roundw
              case rel => exact ⟨1, c + 1, cap', A', _, E1, by omega, by go_num, rfl, rfl, HI2⟩
              case measure => (simp [intOf] <;> omega)
            · obtain rfl : c = n + 1 := by rw [if_neg hm0] at hc; exact hc
              clear hc
              by_cases hm7 : m < 70
              · have hne : ¬ ((rl : Int) + (m : Int) = (rl : Int)) := by omega
                go_wp2_with fail
                refine (numB_any n _ _ (by omega) (by omega)).mono ?_
                rintro e w1 ⟨rfl, rfl⟩
                go_wp2_with (at_builtin; (refine wpList_append_cells _ rfl (.tmp 79) (.tmp 84) 38 rfl 0 43 (.agg #[.int .i64 0, .slice none 0 0, .slice none 0 0, .int .i64 0]) 4 64 Tryz.underlying38 info_efB rfl (by decide) _ (rl + m) _ rfl (HI.out.own.alloc _) (wq.heap.size + 1) (some ⟨wq.heap.size, 0, none⟩) 1 1 (mkE n (rl + m)) rfl (by rw [mkE_add]; exact Lies.row (t := 43) (fr := (0, 0)) (heap_alloc_new wq _) (by simp)) rfl (mkE_oneCell _ _) (by unfold maxLen; omega) (by omega) (by simp) ?_); intro A' cap' w1 h1 h2 h3 _ h4; obtain ⟨E1, hI1⟩ := HI.out.pushed mkE_length h1 h2 h3 h4; have HI1 := Lib.hid hI1; have HF1 := Lib.hid (HF.out.keeps hI1.keeps); clear h1 h2 h3 h4 hI1 c0 c1; have d0 := HF1.out.hp; have d1 := HF1.out.hO n _ HRr.out)
                go_roundw
                case rel => exact ⟨m + 1, n + 1, cap', A', _, E1, by omega, by go_num, rfl, rfl, HI1⟩
                case measure => (simp [intOf] <;> omega)
              · obtain rfl : m = 70 := by omega
                clear hm hm0 hm7
                go_wp2_with (at_builtin; (refine wpList_append_cells _ rfl (.tmp 100) (.tmp 102) 63 rfl base 38 (.slice none 0 0) 1 24 Tryz.underlying63 info_efsB rfl (by decide) _ n _ rfl (HI.out.more.alloc _) (wq.heap.size + 1) (some ⟨wq.heap.size, 0, none⟩) 1 1 [.slice lA (rl + 70) lcap] rfl (Lies.row (t := 38) (fr := (0, 0)) (heap_alloc_new wq _) (by simp)) rfl (by simp [Value.oneCell']) (by unfold maxLen; omega) (by omega) (by have := HI.out.big; simp; omega) ?_); intro A2 cap2 w2 h1 h2 h3 _ h4; have HG := Lib.hid (HI.out.leave HRr.out hb0 rfl (pushed_of HI.out.more h1 h2 h3 h4)); clear h1 h2 h3 h4 HI)
                go_roundw
                case rel => exact ⟨n + 1, _, _, _, _, _, by omega, by go_num, rfl, rfl, HG⟩
                case measure => (simp [intOf] <;> omega)
        · obtain rfl : n = rows.length := by omega
          clear hlt hb0
          obtain ⟨wq, rfl⟩ : ∃ wq : World, wq = wr := ⟨_, rfl⟩
          obtain ⟨mA, mcap, rfl, _, _⟩ := own_slice HG.out.more
          obtain ⟨oA, ocap, rfl, _, _⟩ := own_slice HG.out.one
          have HLm := Lib.hid (own_lies HG.out.more)
          have HLo := Lib.hid (own_lies HG.out.one)
          go_wp2_with fail
          clear c0
          go_loopw [10] (fun v wr => ∃ n : Nat, n ≤ rows.length ∧ v = .int .i64 n ∧ Hid (Keeps (fun _ => False) wq wr)) (fun v _ => rows.length - (intOf v).toNat)
          case atStart => exact ⟨0, by omega, rfl, Lib.hid (Keeps.refl _ _)⟩
          case round =>
            obtain ⟨n, hn2, rfl, HK⟩ := hrel
            by_cases hlt : n < rows.length
            · obtain ⟨r, hr⟩ : ∃ r, rows[n]? = some r := ⟨_, List.getElem?_eq_getElem hlt⟩
              obtain ⟨h1, ⟨a, c, h2, h3⟩, a', c', h4, h5⟩ := HG.out.did n hlt r hr
              obtain ⟨gm, om, rfl, hgm, hcm⟩ := HLm.out n _ h4
              obtain ⟨go, oo, rfl, hgo, hco⟩ := HLo.out n _ h2
              have hrl := HL.out n r hr
              have c0 := HFr.out.hp
              have c1 := HFr.out.hO n r hr
              have HLT := Lib.hid HG.out.lt
              have hF := HFr.out.lt
              obtain ⟨ra, rl, rc⟩ := r
              have H1 := Lib.hid h1; have H3 := Lib.hid h3; have H5 := Lib.hid h5
              have HC : Hid (∀ W, Keeps (fun _ => False) wq W → W.cell? ⟨p, 18, none⟩ = some (.slice (some ⟨gO, 0, none⟩) rows.length capO) ∧ W.cell? ⟨gO, n, none⟩ = some (.slice ra rl rc) ∧ W.cell? ⟨gm, om + n, none⟩ = some (.slice a' (rl + 70) c') ∧ W.cell? ⟨go, oo + n, none⟩ = some (.slice a (rl + 1) c)) := Lib.hid (fun W hW => ⟨(hW.cell hF.1 id).trans c0, (hW.cell hF.2 id).trans c1, (hW.cell hgm id).trans hcm, (hW.cell hgo id).trans hco⟩)
              clear h1 h2 h3 h4 h5 hr c0 c1 hcm hco hgm hgo
              obtain ⟨c0, c1, c2, c3⟩ := HC.out wr HK.out
              go_wp2_with fail
              clear c0 c1 c2 c3
              go_loopw [11] (fun v wr => ∃ i : Nat, i ≤ rl + 70 ∧ v = .int .i64 i ∧ Hid (Keeps (fun _ => False) wq wr)) (fun v _ => rl + 70 - (intOf v).toNat)
              case atStart => exact ⟨0, by omega, rfl, HK⟩
              case round =>
                clear HK
                obtain ⟨i, hi, rfl, HK⟩ := hrel
                obtain ⟨c0, c1, c2, c3⟩ := HC.out wr HK.out
                by_cases hil : i < rl + 70
                · skip
                  obtain ⟨b5, hA, hD, d0⟩ := H5.out (i * 4 + 0) _ (mkE_at n _ i 0 (by omega) (by decide))
                  obtain rfl := hA
                  have hltb5 := HLT.out _ hD
                  have qb50 : wr.cell? ⟨b5, i * 4, none⟩ = some (.int .i64 (1048576 * (n : Int) + (i : Int) + 1)) := (HK.out.cell hltb5 id).trans d0
                  obtain ⟨b5', hA, _, d1⟩ := H5.out (i * 4 + 1) _ (mkE_at n _ i 1 (by omega) (by decide))
                  obtain rfl : b5 = b5' := by injection hA with hA; injection hA
                  have qb51 : wr.cell? ⟨b5, i * 4 + 1, none⟩ = some (.slice none 0 0) := (HK.out.cell hltb5 id).trans d1
                  clear d1 hA
                  obtain ⟨b5', hA, _, d1⟩ := H5.out (i * 4 + 2) _ (mkE_at n _ i 2 (by omega) (by decide))
                  obtain rfl : b5 = b5' := by injection hA with hA; injection hA
                  have qb52 : wr.cell? ⟨b5, i * 4 + 2, none⟩ = some (.slice none 0 0) := (HK.out.cell hltb5 id).trans d1
                  clear d1 hA
                  obtain ⟨b5', hA, _, d1⟩ := H5.out (i * 4 + 3) _ (mkE_at n _ i 3 (by omega) (by decide))
                  obtain rfl : b5 = b5' := by injection hA with hA; injection hA
                  have qb53 : wr.cell? ⟨b5, i * 4 + 3, none⟩ = some (.int .i64 0) := (HK.out.cell hltb5 id).trans d1
                  clear d1 hA
                  clear d0 hD
                  have al5 : ∀ o, (wr.alloc o).cell? ⟨b5, i * 4, none⟩ = some (.int .i64 (1048576 * (n : Int) + (i : Int) + 1)) ∧ (wr.alloc o).cell? ⟨b5, i * 4 + 1, none⟩ = some (.slice none 0 0) ∧ (wr.alloc o).cell? ⟨b5, i * 4 + 2, none⟩ = some (.slice none 0 0) ∧ (wr.alloc o).cell? ⟨b5, i * 4 + 3, none⟩ = some (.int .i64 0) := fun o => ⟨(World.cell?_alloc_lt wr o ⟨b5, i * 4, none⟩ (World.block_lt_of_cell? wr _ qb50)).trans qb50, (World.cell?_alloc_lt wr o ⟨b5, i * 4 + 1, none⟩ (World.block_lt_of_cell? wr _ qb51)).trans qb51, (World.cell?_alloc_lt wr o ⟨b5, i * 4 + 2, none⟩ (World.block_lt_of_cell? wr _ qb52)).trans qb52, (World.cell?_alloc_lt wr o ⟨b5, i * 4 + 3, none⟩ (World.block_lt_of_cell? wr _ qb53)).trans qb53⟩
                  have K1 : Hid (Keeps (fun _ => False) wq (wr.alloc (.cells #[.int .i64 (1048576 * (n : Int) + (i : Int) + 1), .slice none 0 0, .slice none 0 0, .int .i64 0] 43))) := Lib.hid (HK.out.alloc _)
                  have WV : Hid (Whole (wr.alloc (.cells #[.int .i64 (1048576 * (n : Int) + (i : Int) + 1), .slice none 0 0, .slice none 0 0, .int .i64 0] 43)) wr.heap.size 43 #[.int .i64 (1048576 * (n : Int) + (i : Int) + 1), .slice none 0 0, .slice none 0 0, .int .i64 0]) := Lib.hid (Whole.made _ _ _)
                  obtain ⟨e0, e1, e2, e3⟩ := HC.out _ K1.out
                  have hqv : wq.heap.size ≤ wr.heap.size := HK.out.size
                  obtain ⟨vb, hvb⟩ : ∃ z, z = wr.heap.size := ⟨_, rfl⟩
                  have HB5 : Hid (∀ W, Keeps (fun _ => False) wq W → W.cell? ⟨b5, i * 4, none⟩ = some (.int .i64 (1048576 * (n : Int) + (i : Int) + 1)) ∧ W.cell? ⟨b5, i * 4 + 1, none⟩ = some (.slice none 0 0) ∧ W.cell? ⟨b5, i * 4 + 2, none⟩ = some (.slice none 0 0) ∧ W.cell? ⟨b5, i * 4 + 3, none⟩ = some (.int .i64 0)) := Lib.hid (fun W hW => ⟨(hW.cell hltb5 id).trans ((HK.out.cell hltb5 id).symm.trans qb50), (hW.cell hltb5 id).trans ((HK.out.cell hltb5 id).symm.trans qb51), (hW.cell hltb5 id).trans ((HK.out.cell hltb5 id).symm.trans qb52), (hW.cell hltb5 id).trans ((HK.out.cell hltb5 id).symm.trans qb53)⟩)
                  rcases Nat.lt_trichotomy i rl with h | h | h
                  · skip
                    obtain ⟨b1, hA, hD, d0⟩ := H1.out (i * 4 + 0) _ (mkE_at n _ i 0 (by omega) (by decide))
                    obtain rfl := hA
                    have hltb1 := HLT.out _ hD
                    have qb10 : wr.cell? ⟨b1, i * 4, none⟩ = some (.int .i64 (1048576 * (n : Int) + (i : Int) + 1)) := (HK.out.cell hltb1 id).trans d0
                    obtain ⟨b1', hA, _, d1⟩ := H1.out (i * 4 + 1) _ (mkE_at n _ i 1 (by omega) (by decide))
                    obtain rfl : b1 = b1' := by injection hA with hA; injection hA
                    have qb11 : wr.cell? ⟨b1, i * 4 + 1, none⟩ = some (.slice none 0 0) := (HK.out.cell hltb1 id).trans d1
                    clear d1 hA
                    obtain ⟨b1', hA, _, d1⟩ := H1.out (i * 4 + 2) _ (mkE_at n _ i 2 (by omega) (by decide))
                    obtain rfl : b1 = b1' := by injection hA with hA; injection hA
                    have qb12 : wr.cell? ⟨b1, i * 4 + 2, none⟩ = some (.slice none 0 0) := (HK.out.cell hltb1 id).trans d1
                    clear d1 hA
                    obtain ⟨b1', hA, _, d1⟩ := H1.out (i * 4 + 3) _ (mkE_at n _ i 3 (by omega) (by decide))
                    obtain rfl : b1 = b1' := by injection hA with hA; injection hA
                    have qb13 : wr.cell? ⟨b1, i * 4 + 3, none⟩ = some (.int .i64 0) := (HK.out.cell hltb1 id).trans d1
                    clear d1 hA
                    clear d0 hD
                    have HB1 : ∀ W, Keeps (fun _ => False) wq W → W.cell? ⟨b1, i * 4, none⟩ = some (.int .i64 (1048576 * (n : Int) + (i : Int) + 1)) ∧ W.cell? ⟨b1, i * 4 + 1, none⟩ = some (.slice none 0 0) ∧ W.cell? ⟨b1, i * 4 + 2, none⟩ = some (.slice none 0 0) ∧ W.cell? ⟨b1, i * 4 + 3, none⟩ = some (.int .i64 0) := fun W hW => ⟨(hW.cell hltb1 id).trans ((HK.out.cell hltb1 id).symm.trans qb10), (hW.cell hltb1 id).trans ((HK.out.cell hltb1 id).symm.trans qb11), (hW.cell hltb1 id).trans ((HK.out.cell hltb1 id).symm.trans qb12), (hW.cell hltb1 id).trans ((HK.out.cell hltb1 id).symm.trans qb13)⟩
                    obtain ⟨z0, z1, z2, z3⟩ := HB1 _ K1.out
                    clear HB1 qb10 qb11 qb12 qb13 hltb1
                    have hlI : (i : Int) < (rl : Int) := by omega
                    have hne : ¬ ((i : Int) = (rl : Int)) := by omega
                    have x0 : (wr.alloc (.cells #[.int .i64 (1048576 * (n : Int) + (i : Int) + 1), .slice none 0 0, .slice none 0 0, .int .i64 0] 43)).cell? ⟨wr.heap.size, 0, none⟩ = some (.int .i64 (1048576 * (n : Int) + (i : Int) + 1)) := WV.out.cellAt 0
                    have f0 : (wr.alloc (.cells #[.int .i64 (1048576 * (n : Int) + (i : Int) + 1), .slice none 0 0, .slice none 0 0, .int .i64 0] 43)).frozen? ⟨wr.heap.size, 0, none⟩ = false := WV.out.free 0
                    have x1 : (wr.alloc (.cells #[.int .i64 (1048576 * (n : Int) + (i : Int) + 1), .slice none 0 0, .slice none 0 0, .int .i64 0] 43)).cell? ⟨wr.heap.size, 1, none⟩ = some (.slice none 0 0) := WV.out.cellAt 1
                    have f1 : (wr.alloc (.cells #[.int .i64 (1048576 * (n : Int) + (i : Int) + 1), .slice none 0 0, .slice none 0 0, .int .i64 0] 43)).frozen? ⟨wr.heap.size, 1, none⟩ = false := WV.out.free 1
                    have x2 : (wr.alloc (.cells #[.int .i64 (1048576 * (n : Int) + (i : Int) + 1), .slice none 0 0, .slice none 0 0, .int .i64 0] 43)).cell? ⟨wr.heap.size, 2, none⟩ = some (.slice none 0 0) := WV.out.cellAt 2
                    have f2 : (wr.alloc (.cells #[.int .i64 (1048576 * (n : Int) + (i : Int) + 1), .slice none 0 0, .slice none 0 0, .int .i64 0] 43)).frozen? ⟨wr.heap.size, 2, none⟩ = false := WV.out.free 2
                    have x3 : (wr.alloc (.cells #[.int .i64 (1048576 * (n : Int) + (i : Int) + 1), .slice none 0 0, .slice none 0 0, .int .i64 0] 43)).cell? ⟨wr.heap.size, 3, none⟩ = some (.int .i64 0) := WV.out.cellAt 3
                    have f3 : (wr.alloc (.cells #[.int .i64 (1048576 * (n : Int) + (i : Int) + 1), .slice none 0 0, .slice none 0 0, .int .i64 0] 43)).frozen? ⟨wr.heap.size, 3, none⟩ = false := WV.out.free 3
                    go_wp2_with fail
                    clear x0 f0 z0 x1 f1 z1 x2 f2 z2 x3 f3 z3
                    obtain ⟨w2, hw2⟩ : ∃ z, z = (wr.alloc (.cells #[.int .i64 (1048576 * (n : Int) + (i : Int) + 1), .slice none 0 0, .slice none 0 0, .int .i64 0] 43)) := ⟨_, rfl⟩
                    rw [← hw2, ← hvb]
                    rw [← hw2] at K1
                    rw [← hw2, ← hvb] at WV
                    rw [← hvb] at hqv
                    have K2 := K1
                    have Ww2 := WV
                    clear K1 WV al5 c0 c1 c2 c3 e0 e1 e2 e3 hw2 hvb qb50 qb51 qb52 qb53 HK
                    have x0 : w2.cell? ⟨vb, 0, none⟩ = some (.int .i64 (1048576 * (n : Int) + (i : Int) + 1)) := Ww2.out.cellAt 0
                    have f0 : w2.frozen? ⟨vb, 0, none⟩ = false := Ww2.out.free 0
                    have x1 : w2.cell? ⟨vb, 1, none⟩ = some (.slice none 0 0) := Ww2.out.cellAt 1
                    have f1 : w2.frozen? ⟨vb, 1, none⟩ = false := Ww2.out.free 1
                    have x2 : w2.cell? ⟨vb, 2, none⟩ = some (.slice none 0 0) := Ww2.out.cellAt 2
                    have f2 : w2.frozen? ⟨vb, 2, none⟩ = false := Ww2.out.free 2
                    have x3 : w2.cell? ⟨vb, 3, none⟩ = some (.int .i64 0) := Ww2.out.cellAt 3
                    have f3 : w2.frozen? ⟨vb, 3, none⟩ = false := Ww2.out.free 3
                    obtain ⟨e0, e1, e2, e3⟩ := HC.out w2 K2.out
                    obtain ⟨y0, y1, y2, y3⟩ := HB5.out w2 K2.out
                    go_wp2_with fail
                    go_quiet (first | (go_at_call 86; refine Calls.quiet_of_same (numB_same n i _ (by omega) (by omega))))
                    go_wp2_with fail
                    obtain ⟨w3, hw3⟩ : ∃ z, z = (((((w2.drewN nq).setCell ⟨vb, 0, none⟩ (.int .i64 (1048576 * (n : Int) + (i : Int) + 1))).setCell ⟨vb, 1, none⟩ (.slice none 0 0)).setCell ⟨vb, 2, none⟩ (.slice none 0 0)).setCell ⟨vb, 3, none⟩ (.int .i64 0)) := ⟨_, rfl⟩
                    have K3 : Hid (Keeps (fun _ => False) wq w3) := Lib.hid (by
                      rw [hw3]
                      have hk : Keeps (fun b => b = vb) (w2.drewN nq) (((((w2.drewN nq).setCell ⟨vb, 0, none⟩ (.int .i64 (1048576 * (n : Int) + (i : Int) + 1))).setCell ⟨vb, 1, none⟩ (.slice none 0 0)).setCell ⟨vb, 2, none⟩ (.slice none 0 0)).setCell ⟨vb, 3, none⟩ (.int .i64 0)) := (((((Keeps.refl (fun b => b = vb) (w2.drewN nq)).setCell (p := ⟨vb, 0, none⟩) (fun _ => rfl) (.int .i64 (1048576 * (n : Int) + (i : Int) + 1))).setCell (p := ⟨vb, 1, none⟩) (fun _ => rfl) (.slice none 0 0)).setCell (p := ⟨vb, 2, none⟩) (fun _ => rfl) (.slice none 0 0)).setCell (p := ⟨vb, 3, none⟩) (fun _ => rfl) (.int .i64 0))
                      exact (K2.out.drewN nq).and hk (fun b hb e => by omega))
                    have Ww3 : Hid (Whole w3 vb 43 #[.int .i64 (1048576 * (n : Int) + (i : Int) + 1), .slice none 0 0, .slice none 0 0, .int .i64 0]) := Lib.hid (by rw [hw3]; simpa using (((((Ww2.out.drewN nq).put 0 (.int .i64 (1048576 * (n : Int) + (i : Int) + 1))).put 1 (.slice none 0 0)).put 2 (.slice none 0 0)).put 3 (.int .i64 0)))
                    rw [← hw3]
                    clear hw3 e0 e1 e2 e3 x0 x1 x2 x3 f0 f1 f2 f3 y0 y1 y2 y3 K2 Ww2
                    have x0 : w3.cell? ⟨vb, 0, none⟩ = some (.int .i64 (1048576 * (n : Int) + (i : Int) + 1)) := Ww3.out.cellAt 0
                    have f0 : w3.frozen? ⟨vb, 0, none⟩ = false := Ww3.out.free 0
                    have x1 : w3.cell? ⟨vb, 1, none⟩ = some (.slice none 0 0) := Ww3.out.cellAt 1
                    have f1 : w3.frozen? ⟨vb, 1, none⟩ = false := Ww3.out.free 1
                    have x2 : w3.cell? ⟨vb, 2, none⟩ = some (.slice none 0 0) := Ww3.out.cellAt 2
                    have f2 : w3.frozen? ⟨vb, 2, none⟩ = false := Ww3.out.free 2
                    have x3 : w3.cell? ⟨vb, 3, none⟩ = some (.int .i64 0) := Ww3.out.cellAt 3
                    have f3 : w3.frozen? ⟨vb, 3, none⟩ = false := Ww3.out.free 3
                    go_wp2_with fail
                    go_quiet (first | (go_at_call 86; refine Calls.quiet_of_same (numB_same n i _ (by omega) (by omega))))
                    go_wp2_with fail
                    go_roundw
                    case rel => exact ⟨i + 1, by omega, by go_num, Lib.hid (K3.out.drewN _)⟩
                    case measure => (simp [intOf] <;> omega)
                  · obtain rfl : i = rl := h
                    obtain ⟨b3, hA, hD, d0⟩ := H3.out (i * 4 + 0) _ (mkE_at n _ i 0 (by omega) (by decide))
                    obtain rfl := hA
                    have hltb3 := HLT.out _ hD
                    have qb30 : wr.cell? ⟨b3, i * 4, none⟩ = some (.int .i64 (1048576 * (n : Int) + (i : Int) + 1)) := (HK.out.cell hltb3 id).trans d0
                    obtain ⟨b3', hA, _, d1⟩ := H3.out (i * 4 + 1) _ (mkE_at n _ i 1 (by omega) (by decide))
                    obtain rfl : b3 = b3' := by injection hA with hA; injection hA
                    have qb31 : wr.cell? ⟨b3, i * 4 + 1, none⟩ = some (.slice none 0 0) := (HK.out.cell hltb3 id).trans d1
                    clear d1 hA
                    obtain ⟨b3', hA, _, d1⟩ := H3.out (i * 4 + 2) _ (mkE_at n _ i 2 (by omega) (by decide))
                    obtain rfl : b3 = b3' := by injection hA with hA; injection hA
                    have qb32 : wr.cell? ⟨b3, i * 4 + 2, none⟩ = some (.slice none 0 0) := (HK.out.cell hltb3 id).trans d1
                    clear d1 hA
                    obtain ⟨b3', hA, _, d1⟩ := H3.out (i * 4 + 3) _ (mkE_at n _ i 3 (by omega) (by decide))
                    obtain rfl : b3 = b3' := by injection hA with hA; injection hA
                    have qb33 : wr.cell? ⟨b3, i * 4 + 3, none⟩ = some (.int .i64 0) := (HK.out.cell hltb3 id).trans d1
                    clear d1 hA
                    clear d0 hD
                    have HB1 : ∀ W, Keeps (fun _ => False) wq W → W.cell? ⟨b3, i * 4, none⟩ = some (.int .i64 (1048576 * (n : Int) + (i : Int) + 1)) ∧ W.cell? ⟨b3, i * 4 + 1, none⟩ = some (.slice none 0 0) ∧ W.cell? ⟨b3, i * 4 + 2, none⟩ = some (.slice none 0 0) ∧ W.cell? ⟨b3, i * 4 + 3, none⟩ = some (.int .i64 0) := fun W hW => ⟨(hW.cell hltb3 id).trans ((HK.out.cell hltb3 id).symm.trans qb30), (hW.cell hltb3 id).trans ((HK.out.cell hltb3 id).symm.trans qb31), (hW.cell hltb3 id).trans ((HK.out.cell hltb3 id).symm.trans qb32), (hW.cell hltb3 id).trans ((HK.out.cell hltb3 id).symm.trans qb33)⟩
                    obtain ⟨z0, z1, z2, z3⟩ := HB1 _ K1.out
                    clear HB1 qb30 qb31 qb32 qb33 hltb3
                    skip
                    have x0 : (wr.alloc (.cells #[.int .i64 (1048576 * (n : Int) + (i : Int) + 1), .slice none 0 0, .slice none 0 0, .int .i64 0] 43)).cell? ⟨wr.heap.size, 0, none⟩ = some (.int .i64 (1048576 * (n : Int) + (i : Int) + 1)) := WV.out.cellAt 0
                    have f0 : (wr.alloc (.cells #[.int .i64 (1048576 * (n : Int) + (i : Int) + 1), .slice none 0 0, .slice none 0 0, .int .i64 0] 43)).frozen? ⟨wr.heap.size, 0, none⟩ = false := WV.out.free 0
                    have x1 : (wr.alloc (.cells #[.int .i64 (1048576 * (n : Int) + (i : Int) + 1), .slice none 0 0, .slice none 0 0, .int .i64 0] 43)).cell? ⟨wr.heap.size, 1, none⟩ = some (.slice none 0 0) := WV.out.cellAt 1
                    have f1 : (wr.alloc (.cells #[.int .i64 (1048576 * (n : Int) + (i : Int) + 1), .slice none 0 0, .slice none 0 0, .int .i64 0] 43)).frozen? ⟨wr.heap.size, 1, none⟩ = false := WV.out.free 1
                    have x2 : (wr.alloc (.cells #[.int .i64 (1048576 * (n : Int) + (i : Int) + 1), .slice none 0 0, .slice none 0 0, .int .i64 0] 43)).cell? ⟨wr.heap.size, 2, none⟩ = some (.slice none 0 0) := WV.out.cellAt 2
                    have f2 : (wr.alloc (.cells #[.int .i64 (1048576 * (n : Int) + (i : Int) + 1), .slice none 0 0, .slice none 0 0, .int .i64 0] 43)).frozen? ⟨wr.heap.size, 2, none⟩ = false := WV.out.free 2
                    have x3 : (wr.alloc (.cells #[.int .i64 (1048576 * (n : Int) + (i : Int) + 1), .slice none 0 0, .slice none 0 0, .int .i64 0] 43)).cell? ⟨wr.heap.size, 3, none⟩ = some (.int .i64 0) := WV.out.cellAt 3
                    have f3 : (wr.alloc (.cells #[.int .i64 (1048576 * (n : Int) + (i : Int) + 1), .slice none 0 0, .slice none 0 0, .int .i64 0] 43)).frozen? ⟨wr.heap.size, 3, none⟩ = false := WV.out.free 3
                    go_wp2_with fail
                    clear x0 f0 z0 x1 f1 z1 x2 f2 z2 x3 f3 z3
                    obtain ⟨w2, hw2⟩ : ∃ z, z = (wr.alloc (.cells #[.int .i64 (1048576 * (n : Int) + (i : Int) + 1), .slice none 0 0, .slice none 0 0, .int .i64 0] 43)) := ⟨_, rfl⟩
                    rw [← hw2, ← hvb]
                    rw [← hw2] at K1
                    rw [← hw2, ← hvb] at WV
                    rw [← hvb] at hqv
                    have K2 := K1
                    have Ww2 := WV
                    clear K1 WV al5 c0 c1 c2 c3 e0 e1 e2 e3 hw2 hvb qb50 qb51 qb52 qb53 HK
                    have x0 : w2.cell? ⟨vb, 0, none⟩ = some (.int .i64 (1048576 * (n : Int) + (i : Int) + 1)) := Ww2.out.cellAt 0
                    have f0 : w2.frozen? ⟨vb, 0, none⟩ = false := Ww2.out.free 0
                    have x1 : w2.cell? ⟨vb, 1, none⟩ = some (.slice none 0 0) := Ww2.out.cellAt 1
                    have f1 : w2.frozen? ⟨vb, 1, none⟩ = false := Ww2.out.free 1
                    have x2 : w2.cell? ⟨vb, 2, none⟩ = some (.slice none 0 0) := Ww2.out.cellAt 2
                    have f2 : w2.frozen? ⟨vb, 2, none⟩ = false := Ww2.out.free 2
                    have x3 : w2.cell? ⟨vb, 3, none⟩ = some (.int .i64 0) := Ww2.out.cellAt 3
                    have f3 : w2.frozen? ⟨vb, 3, none⟩ = false := Ww2.out.free 3
                    obtain ⟨e0, e1, e2, e3⟩ := HC.out w2 K2.out
                    obtain ⟨y0, y1, y2, y3⟩ := HB5.out w2 K2.out
                    go_wp2_with fail
                    go_quiet (first | (go_at_call 86; refine Calls.quiet_of_same (numB_same n i _ (by omega) (by omega))))
                    go_wp2_with fail
                    obtain ⟨w3, hw3⟩ : ∃ z, z = (((((w2.drewN nq).setCell ⟨vb, 0, none⟩ (.int .i64 (1048576 * (n : Int) + (i : Int) + 1))).setCell ⟨vb, 1, none⟩ (.slice none 0 0)).setCell ⟨vb, 2, none⟩ (.slice none 0 0)).setCell ⟨vb, 3, none⟩ (.int .i64 0)) := ⟨_, rfl⟩
                    have K3 : Hid (Keeps (fun _ => False) wq w3) := Lib.hid (by
                      rw [hw3]
                      have hk : Keeps (fun b => b = vb) (w2.drewN nq) (((((w2.drewN nq).setCell ⟨vb, 0, none⟩ (.int .i64 (1048576 * (n : Int) + (i : Int) + 1))).setCell ⟨vb, 1, none⟩ (.slice none 0 0)).setCell ⟨vb, 2, none⟩ (.slice none 0 0)).setCell ⟨vb, 3, none⟩ (.int .i64 0)) := (((((Keeps.refl (fun b => b = vb) (w2.drewN nq)).setCell (p := ⟨vb, 0, none⟩) (fun _ => rfl) (.int .i64 (1048576 * (n : Int) + (i : Int) + 1))).setCell (p := ⟨vb, 1, none⟩) (fun _ => rfl) (.slice none 0 0)).setCell (p := ⟨vb, 2, none⟩) (fun _ => rfl) (.slice none 0 0)).setCell (p := ⟨vb, 3, none⟩) (fun _ => rfl) (.int .i64 0))
                      exact (K2.out.drewN nq).and hk (fun b hb e => by omega))
                    have Ww3 : Hid (Whole w3 vb 43 #[.int .i64 (1048576 * (n : Int) + (i : Int) + 1), .slice none 0 0, .slice none 0 0, .int .i64 0]) := Lib.hid (by rw [hw3]; simpa using (((((Ww2.out.drewN nq).put 0 (.int .i64 (1048576 * (n : Int) + (i : Int) + 1))).put 1 (.slice none 0 0)).put 2 (.slice none 0 0)).put 3 (.int .i64 0)))
                    rw [← hw3]
                    clear hw3 e0 e1 e2 e3 x0 x1 x2 x3 f0 f1 f2 f3 y0 y1 y2 y3 K2 Ww2
                    have x0 : w3.cell? ⟨vb, 0, none⟩ = some (.int .i64 (1048576 * (n : Int) + (i : Int) + 1)) := Ww3.out.cellAt 0
                    have f0 : w3.frozen? ⟨vb, 0, none⟩ = false := Ww3.out.free 0
                    have x1 : w3.cell? ⟨vb, 1, none⟩ = some (.slice none 0 0) := Ww3.out.cellAt 1
                    have f1 : w3.frozen? ⟨vb, 1, none⟩ = false := Ww3.out.free 1
                    have x2 : w3.cell? ⟨vb, 2, none⟩ = some (.slice none 0 0) := Ww3.out.cellAt 2
                    have f2 : w3.frozen? ⟨vb, 2, none⟩ = false := Ww3.out.free 2
                    have x3 : w3.cell? ⟨vb, 3, none⟩ = some (.int .i64 0) := Ww3.out.cellAt 3
                    have f3 : w3.frozen? ⟨vb, 3, none⟩ = false := Ww3.out.free 3
                    go_wp2_with fail
                    go_quiet (first | (go_at_call 86; refine Calls.quiet_of_same (numB_same n i _ (by omega) (by omega))))
                    go_wp2_with fail
                    go_roundw
                    case rel => exact ⟨i + 1, by omega, by go_num, Lib.hid (K3.out.drewN _)⟩
                    case measure => (simp [intOf] <;> omega)
                  · skip
                    have hne : ¬ ((i : Int) = (rl : Int)) := by omega
                    have hge : ¬ ((i : Int) < (rl : Int)) := by omega
                    go_wp2_with fail
                    obtain ⟨w2, hw2⟩ : ∃ z, z = (wr.alloc (.cells #[.int .i64 (1048576 * (n : Int) + (i : Int) + 1), .slice none 0 0, .slice none 0 0, .int .i64 0] 43)) := ⟨_, rfl⟩
                    rw [← hw2, ← hvb]
                    rw [← hw2] at K1
                    rw [← hw2, ← hvb] at WV
                    rw [← hvb] at hqv
                    have K2 := K1
                    have Ww2 := WV
                    clear K1 WV al5 c0 c1 c2 c3 e0 e1 e2 e3 hw2 hvb qb50 qb51 qb52 qb53 HK
                    have x0 : w2.cell? ⟨vb, 0, none⟩ = some (.int .i64 (1048576 * (n : Int) + (i : Int) + 1)) := Ww2.out.cellAt 0
                    have f0 : w2.frozen? ⟨vb, 0, none⟩ = false := Ww2.out.free 0
                    have x1 : w2.cell? ⟨vb, 1, none⟩ = some (.slice none 0 0) := Ww2.out.cellAt 1
                    have f1 : w2.frozen? ⟨vb, 1, none⟩ = false := Ww2.out.free 1
                    have x2 : w2.cell? ⟨vb, 2, none⟩ = some (.slice none 0 0) := Ww2.out.cellAt 2
                    have f2 : w2.frozen? ⟨vb, 2, none⟩ = false := Ww2.out.free 2
                    have x3 : w2.cell? ⟨vb, 3, none⟩ = some (.int .i64 0) := Ww2.out.cellAt 3
                    have f3 : w2.frozen? ⟨vb, 3, none⟩ = false := Ww2.out.free 3
                    obtain ⟨e0, e1, e2, e3⟩ := HC.out w2 K2.out
                    obtain ⟨y0, y1, y2, y3⟩ := HB5.out w2 K2.out
                    go_wp2_with fail
                    go_quiet (first | (go_at_call 86; refine Calls.quiet_of_same (numB_same n i _ (by omega) (by omega))))
                    go_wp2_with fail
                    obtain ⟨w3, hw3⟩ : ∃ z, z = (((((w2.drewN nq).setCell ⟨vb, 0, none⟩ (.int .i64 (1048576 * (n : Int) + (i : Int) + 1))).setCell ⟨vb, 1, none⟩ (.slice none 0 0)).setCell ⟨vb, 2, none⟩ (.slice none 0 0)).setCell ⟨vb, 3, none⟩ (.int .i64 0)) := ⟨_, rfl⟩
                    have K3 : Hid (Keeps (fun _ => False) wq w3) := Lib.hid (by
                      rw [hw3]
                      have hk : Keeps (fun b => b = vb) (w2.drewN nq) (((((w2.drewN nq).setCell ⟨vb, 0, none⟩ (.int .i64 (1048576 * (n : Int) + (i : Int) + 1))).setCell ⟨vb, 1, none⟩ (.slice none 0 0)).setCell ⟨vb, 2, none⟩ (.slice none 0 0)).setCell ⟨vb, 3, none⟩ (.int .i64 0)) := (((((Keeps.refl (fun b => b = vb) (w2.drewN nq)).setCell (p := ⟨vb, 0, none⟩) (fun _ => rfl) (.int .i64 (1048576 * (n : Int) + (i : Int) + 1))).setCell (p := ⟨vb, 1, none⟩) (fun _ => rfl) (.slice none 0 0)).setCell (p := ⟨vb, 2, none⟩) (fun _ => rfl) (.slice none 0 0)).setCell (p := ⟨vb, 3, none⟩) (fun _ => rfl) (.int .i64 0))
                      exact (K2.out.drewN nq).and hk (fun b hb e => by omega))
                    have Ww3 : Hid (Whole w3 vb 43 #[.int .i64 (1048576 * (n : Int) + (i : Int) + 1), .slice none 0 0, .slice none 0 0, .int .i64 0]) := Lib.hid (by rw [hw3]; simpa using (((((Ww2.out.drewN nq).put 0 (.int .i64 (1048576 * (n : Int) + (i : Int) + 1))).put 1 (.slice none 0 0)).put 2 (.slice none 0 0)).put 3 (.int .i64 0)))
                    rw [← hw3]
                    clear hw3 e0 e1 e2 e3 x0 x1 x2 x3 f0 f1 f2 f3 y0 y1 y2 y3 K2 Ww2
                    have x0 : w3.cell? ⟨vb, 0, none⟩ = some (.int .i64 (1048576 * (n : Int) + (i : Int) + 1)) := Ww3.out.cellAt 0
                    have f0 : w3.frozen? ⟨vb, 0, none⟩ = false := Ww3.out.free 0
                    have x1 : w3.cell? ⟨vb, 1, none⟩ = some (.slice none 0 0) := Ww3.out.cellAt 1
                    have f1 : w3.frozen? ⟨vb, 1, none⟩ = false := Ww3.out.free 1
                    have x2 : w3.cell? ⟨vb, 2, none⟩ = some (.slice none 0 0) := Ww3.out.cellAt 2
                    have f2 : w3.frozen? ⟨vb, 2, none⟩ = false := Ww3.out.free 2
                    have x3 : w3.cell? ⟨vb, 3, none⟩ = some (.int .i64 0) := Ww3.out.cellAt 3
                    have f3 : w3.frozen? ⟨vb, 3, none⟩ = false := Ww3.out.free 3
                    go_wp2_with fail
                    go_quiet (first | (go_at_call 86; refine Calls.quiet_of_same (numB_same n i _ (by omega) (by omega))))
                    go_wp2_with fail
                    go_roundw
                    case rel => exact ⟨i + 1, by omega, by go_num, Lib.hid (K3.out.drewN _)⟩
                    case measure => (simp [intOf] <;> omega)
                · obtain rfl : i = rl + 70 := by omega
                  go_wp2_with fail
                  go_roundw
                  case rel => exact ⟨n + 1, by omega, by go_num, HK⟩
                  case measure => (simp [intOf] <;> omega)
            · obtain rfl : n = rows.length := by omega
              have HK2 := Lib.hid (HG.out.keeps.trans (HK.out.mono (T := blks rows) (fun _ _ h => h.elim)))
              go_wp2_with fail
              go_ret
              exact ⟨rfl, HK2.out⟩
end Go.Proofs.YtcmbdnjcfneinaaGreatDoor
/-
  The bag: its lists of kinds, marked, gone on with and looked at: the walk. Conditions: no two of them lie in one block; lengths within 10 ^ 9.
-/
namespace Go.Proofs.YtcmbdnjcfneinaaGreatDoor
open Go.RowKit
theorem info_kdB : (Tryz.prog.info? 40).map (fun i => (i.zero, i.size, i.bytes)) = some (some (.agg #[.int .i64 0, .int .i64 0, .int .i64 0, .int .i64 0, .slice none 0 0, .slice none 0 0]), 6, 80) := by kernel_rfl
theorem info_kdsB : (Tryz.prog.info? 24).map (fun i => (i.zero, i.size, i.bytes)) = some (some (.slice none 0 0), 1, 24) := by kernel_rfl
/-- The mark i of the list n. -/
def mkK (n i : Nat) : List Value := [.int .i64 (1048576 * (n : Int) + (i : Int) + 1), .int .i64 0, .int .i64 0, .int .i64 0, .slice none 0 0, .slice none 0 0]
theorem mkK_length (n i : Nat) : (mkK n i).length = 6 := rfl
theorem mkK_add (n l m : Nat) : mkK n (l + m) = [.int .i64 (1048576 * (n : Int) + ((l : Int) + (m : Int)) + 1), .int .i64 0, .int .i64 0, .int .i64 0, .slice none 0 0, .slice none 0 0] := by unfold mkK; rw [Int.natCast_add]
theorem mkK_at (k m i j : Nat) (h : i < m) (hj : j < 6) : (marks mkK k m)[i * 6 + j]? = (mkK k i)[j]? := marks_get mkK mkK_length k m i j h hj
theorem mkK_oneCell (k i : Nat) : ∀ u ∈ mkK k i, u.oneCell' = true := by
  intro u hu
  simp only [mkK, List.mem_cons, List.mem_nil_iff, or_false] at hu
  rcases hu with rfl | rfl | rfl | rfl | rfl | rfl <;> rfl
set_option maxRecDepth 100000 in
set_option maxHeartbeats 2000000 in
theorem apartKinds_any (p gO capO : Nat) (rows : List Sl) (w : World) (hF : BagFix w p 19 gO capO rows) (hR : SlRows 40 6 rows w) (hn : rows.length ≤ 400) (hl : ∀ (k : Nat) (r : Sl), rows[k]? = some r → r.len ≤ 1000000000) :
    Calls Tryz.prog 73 #[.pointer (some ⟨p, 0, none⟩)] w fun e w' => e = .returned (.bool true) ∧ Keeps (blks rows) w w' := by
  have HF := Lib.hid hF
  have HAp := Lib.hid hR.apart
  have HM0 : Hid (Marked mkK 40 6 rows w w 0) := Lib.hid (Marked.start hR (Keeps.refl _ _))
  have HL := Lib.hid hl
  clear hl hR
  have c0 := hF.hp
  go_enter Tryz.func73, Tryz.ntmps73
  go_wp2_with fail
  clear c0
  go_loopw [3] (fun v wr => ∃ n : Nat, n ≤ rows.length ∧ v = .int .i64 n ∧ Hid (Marked mkK 40 6 rows w wr n)) (fun v _ => rows.length - (intOf v).toNat)
  case atStart => exact ⟨0, by omega, rfl, HM0⟩
  case round =>
    clear HM0 hF
    obtain ⟨n, hnr, rfl, HM⟩ := hrel
    have HFr := Lib.hid (HF.out.keeps HM.out.keeps)
    have c0 := HFr.out.hp
    by_cases hlt : n < rows.length
    · obtain ⟨r, hr⟩ : ∃ r, rows[n]? = some r := ⟨_, List.getElem?_eq_getElem hlt⟩
      have c1 := HFr.out.hO n r hr
      have HI0 := Lib.hid (HM.out.enter hr)
      have hrl := HL.out n r hr
      have HRr := Lib.hid hr
      obtain ⟨ra, rl, rc⟩ := r
      clear HM hr
      go_wp2_with fail
      clear c0 c1
      go_loopw [4] (fun v wr => ∃ i : Nat, i ≤ rl ∧ v = .int .i64 i ∧ Hid (MarkedIn mkK 40 6 rows w wr n i ⟨ra, rl, rc⟩)) (fun v _ => rl - (intOf v).toNat)
      case atStart => exact ⟨0, by omega, rfl, HI0⟩
      case round =>
        clear HI0 HFr
        obtain ⟨i, hir, rfl, HI⟩ := hrel
        have HFr := Lib.hid (HF.out.keeps HI.out.keeps)
        have c0 := HFr.out.hp
        have c1 := HFr.out.hO n _ HRr.out
        by_cases hil : i < rl
        · obtain ⟨g, cs, hg, hW, hsz⟩ := HI.out.cell hil
          obtain rfl : ra = some ⟨g, 0, none⟩ := hg
          have hil3 : i * 6 + 6 ≤ rl * 6 := by omega
          have hsz' : rl * 6 ≤ cs.size := hsz
          obtain ⟨u0, hu0⟩ : ∃ u, wr.cell? ⟨g, i * 6, none⟩ = some u := ⟨_, (hW.cellAt _).trans (Array.getElem?_eq_getElem (by omega))⟩
          have hf0 := hW.free (i * 6)
          obtain ⟨u1, hu1⟩ : ∃ u, wr.cell? ⟨g, i * 6 + 1, none⟩ = some u := ⟨_, (hW.cellAt _).trans (Array.getElem?_eq_getElem (by omega))⟩
          have hf1 := hW.free (i * 6 + 1)
          obtain ⟨u2, hu2⟩ : ∃ u, wr.cell? ⟨g, i * 6 + 2, none⟩ = some u := ⟨_, (hW.cellAt _).trans (Array.getElem?_eq_getElem (by omega))⟩
          have hf2 := hW.free (i * 6 + 2)
          obtain ⟨u3, hu3⟩ : ∃ u, wr.cell? ⟨g, i * 6 + 3, none⟩ = some u := ⟨_, (hW.cellAt _).trans (Array.getElem?_eq_getElem (by omega))⟩
          have hf3 := hW.free (i * 6 + 3)
          obtain ⟨u4, hu4⟩ : ∃ u, wr.cell? ⟨g, i * 6 + 4, none⟩ = some u := ⟨_, (hW.cellAt _).trans (Array.getElem?_eq_getElem (by omega))⟩
          have hf4 := hW.free (i * 6 + 4)
          obtain ⟨u5, hu5⟩ : ∃ u, wr.cell? ⟨g, i * 6 + 5, none⟩ = some u := ⟨_, (hW.cellAt _).trans (Array.getElem?_eq_getElem (by omega))⟩
          have hf5 := hW.free (i * 6 + 5)
          clear hW hsz hsz'
          have HP : Hid (MarkedIn mkK 40 6 rows w ((((((wr.setCell ⟨g, i * 6, none⟩ (.int .i64 (1048576 * (n : Int) + (i : Int) + 1))).setCell ⟨g, i * 6 + 1, none⟩ (.int .i64 0)).setCell ⟨g, i * 6 + 2, none⟩ (.int .i64 0)).setCell ⟨g, i * 6 + 3, none⟩ (.int .i64 0)).setCell ⟨g, i * 6 + 4, none⟩ (.slice none 0 0)).setCell ⟨g, i * 6 + 5, none⟩ (.slice none 0 0)) n (i + 1) ⟨some ⟨g, 0, none⟩, rl, rc⟩) := Lib.hid (HI.out.puts (vs := mkK n i) HRr.out HAp.out hil rfl rfl rfl)
          clear HI
          go_wp2_with fail
          go_region_with (first | (go_at_call 86; refine (numB_any n i _ (by omega) (by omega)).mono ?_; rintro e w1 ⟨rfl, rfl⟩))
          all_goals
            go_wp2_with fail
            go_roundw
            case rel => exact ⟨i + 1, by omega, by go_num, Lib.hid HP.out.drew⟩
            case measure => (simp [intOf] <;> omega)
        · obtain rfl : i = rl := by omega
          have HM := Lib.hid (HI.out.leave HRr.out)
          clear HI
          go_wp2_with fail
          go_roundw
          case rel => exact ⟨n + 1, by omega, by go_num, HM⟩
          case measure => (simp [intOf] <;> omega)
    · obtain rfl : n = rows.length := by omega
      have HG0 := Lib.hid (Going.start (eo := 24) (base := wr.heap.size) HM.out rfl)
      have hb0 := HM.out.keeps.size
      clear hlt HM HFr
      go_wp2_with fail
      clear c0
      generalize wr.heap.size = base at *
      go_loopw [5, 6, 7] (fun vo vm v wq => ∃ (n : Nat) (ov mv : Value) (ones mores : List Value) (D : Nat → Prop), n ≤ rows.length ∧ v = .int .i64 n ∧ ov = vo ∧ mv = vm ∧ Hid (Going mkK 40 24 6 base rows w wq n ov mv ones mores D)) (fun _ _ v _ => rows.length - (intOf v).toNat)
      case atStart => exact ⟨0, _, _, [], [], fun _ => False, by omega, rfl, rfl, rfl, HG0⟩
      case round =>
        clear HG0
        obtain ⟨n, ov, mv, ones, mores, D, hnr, rfl, rfl, rfl, HG⟩ := hrel
        have HFr := Lib.hid (HF.out.keeps HG.out.keeps)
        have c0 := HFr.out.hp
        by_cases hlt : n < rows.length
        · obtain ⟨r, hr⟩ : ∃ r, rows[n]? = some r := ⟨_, List.getElem?_eq_getElem hlt⟩
          have c1 := HFr.out.hO n r hr
          have HI0 := Lib.hid (HG.out.enter HAp.out hr)
          have hrl := HL.out n r hr
          have HRr := Lib.hid hr
          obtain ⟨ra, rl, rc⟩ := r
          clear HG hr HFr
          go_wp2_with fail
          clear c0 c1
          go_loopw [5, 8, 9] (fun vo vl v wq => ∃ (m c lcap : Nat) (lA : Option Addr) (ones : List Value) (E : Nat → Prop), m ≤ 70 ∧ v = .int .i64 ((rl : Int) + (m : Int)) ∧ vl = .slice lA (rl + m) lcap ∧ c = (if m = 0 then n else n + 1) ∧ Hid (GoingIn mkK 40 24 6 base rows w wq n m c vo mv vl ones mores D E ⟨ra, rl, rc⟩)) (fun _ _ v _ => (rl : Int).toNat + 70 - (intOf v).toNat)
          case atStart => exact ⟨0, n, rc, ra, ones, _, by omega, by simp, rfl, rfl, HI0⟩
          case round =>
            clear HI0
            obtain ⟨m, c, lcap, lA, ones, E, hm, rfl, rfl, hc, HI⟩ := hrel
            have HFr := Lib.hid (HF.out.keeps HI.out.keeps)
            have c0 := HFr.out.hp
            have c1 := HFr.out.hO n _ HRr.out
            clear HFr
            obtain ⟨wq, rfl⟩ : ∃ wq : World, wq = wr := ⟨_, rfl⟩
            by_cases hm0 : m = 0
            · subst hm0
              obtain rfl : c = n := by simpa using hc
              clear hc hm
              go_wp2_with fail
              refine (numB_any c _ _ (by omega) (by omega)).mono ?_
              rintro e w1 ⟨rfl, rfl⟩
              have own0 : Hid (wq.ownsRow 0 40 6 (.slice lA rl lcap) rl (marks mkK c rl)) := Lib.hid HI.out.own
              go_wp2_with (first
                | (at_builtin; (refine wpList_append_cells _ rfl (.tmp 79) (.tmp 84) 24 rfl 0 40 (.agg #[.int .i64 0, .int .i64 0, .int .i64 0, .int .i64 0, .slice none 0 0, .slice none 0 0]) 6 80 Tryz.underlying24 info_kdB rfl (by decide) _ (rl) _ rfl (own0.out.alloc _) (wq.heap.size + 1) (some ⟨wq.heap.size, 0, none⟩) 1 1 (mkK c rl) rfl (by exact Lies.row (t := 40) (fr := (0, 0)) (heap_alloc_new wq _) (by simp)) rfl (mkK_oneCell _ _) (by unfold maxLen; omega) (by omega) (by simp) ?_); intro A' cap' w1 h1 h2 h3 _ h4; obtain ⟨E1, hI1⟩ := HI.out.pushed mkK_length h1 h2 h3 h4; have HI1 := Lib.hid hI1; have HF1 := Lib.hid (HF.out.keeps hI1.keeps); clear h1 h2 h3 h4 hI1 c0 c1; have d0 := HF1.out.hp; have d1 := HF1.out.hO c _ HRr.out)
                | (at_builtin; (refine wpList_append_cells _ rfl (.tmp 96) (.tmp 98) 64 rfl base 24 (.slice none 0 0) 1 24 Tryz.underlying64 info_kdsB rfl (by decide) _ c _ rfl (HI1.out.one.alloc _) (w1.heap.size + 1) (some ⟨w1.heap.size, 0, none⟩) 1 1 [.slice A' (rl + 1) cap'] rfl (Lies.row (t := 24) (fr := (0, 0)) (heap_alloc_new w1 _) (by simp)) rfl (by simp [Value.oneCell']) (by unfold maxLen; omega) (by omega) (by have := HI1.out.big; simp; omega) ?_); intro A2 cap2 w2 h1 h2 h3 _ h4; have HI2 := Lib.hid (HI1.out.took hb0 rfl (pushed_of HI1.out.one h1 h2 h3 h4)); clear h1 h2 h3 h4 HI1))
              go_roundw
              case rel => exact ⟨1, c + 1, cap', A', _, E1, by omega, by go_num, rfl, rfl, HI2⟩
              case measure => (simp [intOf] <;> omega)
            · obtain rfl : c = n + 1 := by rw [if_neg hm0] at hc; exact hc
              clear hc
              by_cases hm7 : m < 70
              · have hne : ¬ ((rl : Int) + (m : Int) = (rl : Int)) := by omega
                go_wp2_with fail
                refine (numB_any n _ _ (by omega) (by omega)).mono ?_
                rintro e w1 ⟨rfl, rfl⟩
                go_wp2_with (at_builtin; (refine wpList_append_cells _ rfl (.tmp 79) (.tmp 84) 24 rfl 0 40 (.agg #[.int .i64 0, .int .i64 0, .int .i64 0, .int .i64 0, .slice none 0 0, .slice none 0 0]) 6 80 Tryz.underlying24 info_kdB rfl (by decide) _ (rl + m) _ rfl (HI.out.own.alloc _) (wq.heap.size + 1) (some ⟨wq.heap.size, 0, none⟩) 1 1 (mkK n (rl + m)) rfl (by rw [mkK_add]; exact Lies.row (t := 40) (fr := (0, 0)) (heap_alloc_new wq _) (by simp)) rfl (mkK_oneCell _ _) (by unfold maxLen; omega) (by omega) (by simp) ?_); intro A' cap' w1 h1 h2 h3 _ h4; obtain ⟨E1, hI1⟩ := HI.out.pushed mkK_length h1 h2 h3 h4; have HI1 := Lib.hid hI1; have HF1 := Lib.hid (HF.out.keeps hI1.keeps); clear h1 h2 h3 h4 hI1 c0 c1; have d0 := HF1.out.hp; have d1 := HF1.out.hO n _ HRr.out)
                go_roundw
                case rel => exact ⟨m + 1, n + 1, cap', A', _, E1, by omega, by go_num, rfl, rfl, HI1⟩
                case measure => (simp [intOf] <;> omega)
              · obtain rfl : m = 70 := by omega
                clear hm hm0 hm7
                go_wp2_with (at_builtin; (refine wpList_append_cells _ rfl (.tmp 100) (.tmp 102) 64 rfl base 24 (.slice none 0 0) 1 24 Tryz.underlying64 info_kdsB rfl (by decide) _ n _ rfl (HI.out.more.alloc _) (wq.heap.size + 1) (some ⟨wq.heap.size, 0, none⟩) 1 1 [.slice lA (rl + 70) lcap] rfl (Lies.row (t := 24) (fr := (0, 0)) (heap_alloc_new wq _) (by simp)) rfl (by simp [Value.oneCell']) (by unfold maxLen; omega) (by omega) (by have := HI.out.big; simp; omega) ?_); intro A2 cap2 w2 h1 h2 h3 _ h4; have HG := Lib.hid (HI.out.leave HRr.out hb0 rfl (pushed_of HI.out.more h1 h2 h3 h4)); clear h1 h2 h3 h4 HI)
                go_roundw
                case rel => exact ⟨n + 1, _, _, _, _, _, by omega, by go_num, rfl, rfl, HG⟩
                case measure => (simp [intOf] <;> omega)
        · obtain rfl : n = rows.length := by omega
          clear hlt hb0
          obtain ⟨wq, rfl⟩ : ∃ wq : World, wq = wr := ⟨_, rfl⟩
          obtain ⟨mA, mcap, rfl, _, _⟩ := own_slice HG.out.more
          obtain ⟨oA, ocap, rfl, _, _⟩ := own_slice HG.out.one
          have HLm := Lib.hid (own_lies HG.out.more)
          have HLo := Lib.hid (own_lies HG.out.one)
          go_wp2_with fail
          clear c0
          go_loopw [10] (fun v wr => ∃ n : Nat, n ≤ rows.length ∧ v = .int .i64 n ∧ Hid (Keeps (fun _ => False) wq wr)) (fun v _ => rows.length - (intOf v).toNat)
          case atStart => exact ⟨0, by omega, rfl, Lib.hid (Keeps.refl _ _)⟩
          case round =>
            obtain ⟨n, hn2, rfl, HK⟩ := hrel
            by_cases hlt : n < rows.length
            · obtain ⟨r, hr⟩ : ∃ r, rows[n]? = some r := ⟨_, List.getElem?_eq_getElem hlt⟩
              obtain ⟨h1, ⟨a, c, h2, h3⟩, a', c', h4, h5⟩ := HG.out.did n hlt r hr
              obtain ⟨gm, om, rfl, hgm, hcm⟩ := HLm.out n _ h4
              obtain ⟨go, oo, rfl, hgo, hco⟩ := HLo.out n _ h2
              have hrl := HL.out n r hr
              have c0 := HFr.out.hp
              have c1 := HFr.out.hO n r hr
              have HLT := Lib.hid HG.out.lt
              have hF := HFr.out.lt
              obtain ⟨ra, rl, rc⟩ := r
              have H1 := Lib.hid h1; have H3 := Lib.hid h3; have H5 := Lib.hid h5
              have HC : Hid (∀ W, Keeps (fun _ => False) wq W → W.cell? ⟨p, 19, none⟩ = some (.slice (some ⟨gO, 0, none⟩) rows.length capO) ∧ W.cell? ⟨gO, n, none⟩ = some (.slice ra rl rc) ∧ W.cell? ⟨gm, om + n, none⟩ = some (.slice a' (rl + 70) c') ∧ W.cell? ⟨go, oo + n, none⟩ = some (.slice a (rl + 1) c)) := Lib.hid (fun W hW => ⟨(hW.cell hF.1 id).trans c0, (hW.cell hF.2 id).trans c1, (hW.cell hgm id).trans hcm, (hW.cell hgo id).trans hco⟩)
              clear h1 h2 h3 h4 h5 hr c0 c1 hcm hco hgm hgo
              obtain ⟨c0, c1, c2, c3⟩ := HC.out wr HK.out
              go_wp2_with fail
              clear c0 c1 c2 c3
              go_loopw [11] (fun v wr => ∃ i : Nat, i ≤ rl + 70 ∧ v = .int .i64 i ∧ Hid (Keeps (fun _ => False) wq wr)) (fun v _ => rl + 70 - (intOf v).toNat)
              case atStart => exact ⟨0, by omega, rfl, HK⟩
              case round =>
                clear HK
                obtain ⟨i, hi, rfl, HK⟩ := hrel
                obtain ⟨c0, c1, c2, c3⟩ := HC.out wr HK.out
                by_cases hil : i < rl + 70
                · skip
                  obtain ⟨b5, hA, hD, d0⟩ := H5.out (i * 6 + 0) _ (mkK_at n _ i 0 (by omega) (by decide))
                  obtain rfl := hA
                  have hltb5 := HLT.out _ hD
                  have qb50 : wr.cell? ⟨b5, i * 6, none⟩ = some (.int .i64 (1048576 * (n : Int) + (i : Int) + 1)) := (HK.out.cell hltb5 id).trans d0
                  obtain ⟨b5', hA, _, d1⟩ := H5.out (i * 6 + 1) _ (mkK_at n _ i 1 (by omega) (by decide))
                  obtain rfl : b5 = b5' := by injection hA with hA; injection hA
                  have qb51 : wr.cell? ⟨b5, i * 6 + 1, none⟩ = some (.int .i64 0) := (HK.out.cell hltb5 id).trans d1
                  clear d1 hA
                  obtain ⟨b5', hA, _, d1⟩ := H5.out (i * 6 + 2) _ (mkK_at n _ i 2 (by omega) (by decide))
                  obtain rfl : b5 = b5' := by injection hA with hA; injection hA
                  have qb52 : wr.cell? ⟨b5, i * 6 + 2, none⟩ = some (.int .i64 0) := (HK.out.cell hltb5 id).trans d1
                  clear d1 hA
                  obtain ⟨b5', hA, _, d1⟩ := H5.out (i * 6 + 3) _ (mkK_at n _ i 3 (by omega) (by decide))
                  obtain rfl : b5 = b5' := by injection hA with hA; injection hA
                  have qb53 : wr.cell? ⟨b5, i * 6 + 3, none⟩ = some (.int .i64 0) := (HK.out.cell hltb5 id).trans d1
                  clear d1 hA
                  obtain ⟨b5', hA, _, d1⟩ := H5.out (i * 6 + 4) _ (mkK_at n _ i 4 (by omega) (by decide))
                  obtain rfl : b5 = b5' := by injection hA with hA; injection hA
                  have qb54 : wr.cell? ⟨b5, i * 6 + 4, none⟩ = some (.slice none 0 0) := (HK.out.cell hltb5 id).trans d1
                  clear d1 hA
                  obtain ⟨b5', hA, _, d1⟩ := H5.out (i * 6 + 5) _ (mkK_at n _ i 5 (by omega) (by decide))
                  obtain rfl : b5 = b5' := by injection hA with hA; injection hA
                  have qb55 : wr.cell? ⟨b5, i * 6 + 5, none⟩ = some (.slice none 0 0) := (HK.out.cell hltb5 id).trans d1
                  clear d1 hA
                  clear d0 hD
                  have al5 : ∀ o, (wr.alloc o).cell? ⟨b5, i * 6, none⟩ = some (.int .i64 (1048576 * (n : Int) + (i : Int) + 1)) ∧ (wr.alloc o).cell? ⟨b5, i * 6 + 1, none⟩ = some (.int .i64 0) ∧ (wr.alloc o).cell? ⟨b5, i * 6 + 2, none⟩ = some (.int .i64 0) ∧ (wr.alloc o).cell? ⟨b5, i * 6 + 3, none⟩ = some (.int .i64 0) ∧ (wr.alloc o).cell? ⟨b5, i * 6 + 4, none⟩ = some (.slice none 0 0) ∧ (wr.alloc o).cell? ⟨b5, i * 6 + 5, none⟩ = some (.slice none 0 0) := fun o => ⟨(World.cell?_alloc_lt wr o ⟨b5, i * 6, none⟩ (World.block_lt_of_cell? wr _ qb50)).trans qb50, (World.cell?_alloc_lt wr o ⟨b5, i * 6 + 1, none⟩ (World.block_lt_of_cell? wr _ qb51)).trans qb51, (World.cell?_alloc_lt wr o ⟨b5, i * 6 + 2, none⟩ (World.block_lt_of_cell? wr _ qb52)).trans qb52, (World.cell?_alloc_lt wr o ⟨b5, i * 6 + 3, none⟩ (World.block_lt_of_cell? wr _ qb53)).trans qb53, (World.cell?_alloc_lt wr o ⟨b5, i * 6 + 4, none⟩ (World.block_lt_of_cell? wr _ qb54)).trans qb54, (World.cell?_alloc_lt wr o ⟨b5, i * 6 + 5, none⟩ (World.block_lt_of_cell? wr _ qb55)).trans qb55⟩
                  have K1 : Hid (Keeps (fun _ => False) wq (wr.alloc (.cells #[.int .i64 (1048576 * (n : Int) + (i : Int) + 1), .int .i64 0, .int .i64 0, .int .i64 0, .slice none 0 0, .slice none 0 0] 40))) := Lib.hid (HK.out.alloc _)
                  have WV : Hid (Whole (wr.alloc (.cells #[.int .i64 (1048576 * (n : Int) + (i : Int) + 1), .int .i64 0, .int .i64 0, .int .i64 0, .slice none 0 0, .slice none 0 0] 40)) wr.heap.size 40 #[.int .i64 (1048576 * (n : Int) + (i : Int) + 1), .int .i64 0, .int .i64 0, .int .i64 0, .slice none 0 0, .slice none 0 0]) := Lib.hid (Whole.made _ _ _)
                  obtain ⟨e0, e1, e2, e3⟩ := HC.out _ K1.out
                  have hqv : wq.heap.size ≤ wr.heap.size := HK.out.size
                  obtain ⟨vb, hvb⟩ : ∃ z, z = wr.heap.size := ⟨_, rfl⟩
                  have HB5 : Hid (∀ W, Keeps (fun _ => False) wq W → W.cell? ⟨b5, i * 6, none⟩ = some (.int .i64 (1048576 * (n : Int) + (i : Int) + 1)) ∧ W.cell? ⟨b5, i * 6 + 1, none⟩ = some (.int .i64 0) ∧ W.cell? ⟨b5, i * 6 + 2, none⟩ = some (.int .i64 0) ∧ W.cell? ⟨b5, i * 6 + 3, none⟩ = some (.int .i64 0) ∧ W.cell? ⟨b5, i * 6 + 4, none⟩ = some (.slice none 0 0) ∧ W.cell? ⟨b5, i * 6 + 5, none⟩ = some (.slice none 0 0)) := Lib.hid (fun W hW => ⟨(hW.cell hltb5 id).trans ((HK.out.cell hltb5 id).symm.trans qb50), (hW.cell hltb5 id).trans ((HK.out.cell hltb5 id).symm.trans qb51), (hW.cell hltb5 id).trans ((HK.out.cell hltb5 id).symm.trans qb52), (hW.cell hltb5 id).trans ((HK.out.cell hltb5 id).symm.trans qb53), (hW.cell hltb5 id).trans ((HK.out.cell hltb5 id).symm.trans qb54), (hW.cell hltb5 id).trans ((HK.out.cell hltb5 id).symm.trans qb55)⟩)
                  rcases Nat.lt_trichotomy i rl with h | h | h
                  · skip
                    obtain ⟨b1, hA, hD, d0⟩ := H1.out (i * 6 + 0) _ (mkK_at n _ i 0 (by omega) (by decide))
                    obtain rfl := hA
                    have hltb1 := HLT.out _ hD
                    have qb10 : wr.cell? ⟨b1, i * 6, none⟩ = some (.int .i64 (1048576 * (n : Int) + (i : Int) + 1)) := (HK.out.cell hltb1 id).trans d0
                    obtain ⟨b1', hA, _, d1⟩ := H1.out (i * 6 + 1) _ (mkK_at n _ i 1 (by omega) (by decide))
                    obtain rfl : b1 = b1' := by injection hA with hA; injection hA
                    have qb11 : wr.cell? ⟨b1, i * 6 + 1, none⟩ = some (.int .i64 0) := (HK.out.cell hltb1 id).trans d1
                    clear d1 hA
                    obtain ⟨b1', hA, _, d1⟩ := H1.out (i * 6 + 2) _ (mkK_at n _ i 2 (by omega) (by decide))
                    obtain rfl : b1 = b1' := by injection hA with hA; injection hA
                    have qb12 : wr.cell? ⟨b1, i * 6 + 2, none⟩ = some (.int .i64 0) := (HK.out.cell hltb1 id).trans d1
                    clear d1 hA
                    obtain ⟨b1', hA, _, d1⟩ := H1.out (i * 6 + 3) _ (mkK_at n _ i 3 (by omega) (by decide))
                    obtain rfl : b1 = b1' := by injection hA with hA; injection hA
                    have qb13 : wr.cell? ⟨b1, i * 6 + 3, none⟩ = some (.int .i64 0) := (HK.out.cell hltb1 id).trans d1
                    clear d1 hA
                    obtain ⟨b1', hA, _, d1⟩ := H1.out (i * 6 + 4) _ (mkK_at n _ i 4 (by omega) (by decide))
                    obtain rfl : b1 = b1' := by injection hA with hA; injection hA
                    have qb14 : wr.cell? ⟨b1, i * 6 + 4, none⟩ = some (.slice none 0 0) := (HK.out.cell hltb1 id).trans d1
                    clear d1 hA
                    obtain ⟨b1', hA, _, d1⟩ := H1.out (i * 6 + 5) _ (mkK_at n _ i 5 (by omega) (by decide))
                    obtain rfl : b1 = b1' := by injection hA with hA; injection hA
                    have qb15 : wr.cell? ⟨b1, i * 6 + 5, none⟩ = some (.slice none 0 0) := (HK.out.cell hltb1 id).trans d1
                    clear d1 hA
                    clear d0 hD
                    have HB1 : ∀ W, Keeps (fun _ => False) wq W → W.cell? ⟨b1, i * 6, none⟩ = some (.int .i64 (1048576 * (n : Int) + (i : Int) + 1)) ∧ W.cell? ⟨b1, i * 6 + 1, none⟩ = some (.int .i64 0) ∧ W.cell? ⟨b1, i * 6 + 2, none⟩ = some (.int .i64 0) ∧ W.cell? ⟨b1, i * 6 + 3, none⟩ = some (.int .i64 0) ∧ W.cell? ⟨b1, i * 6 + 4, none⟩ = some (.slice none 0 0) ∧ W.cell? ⟨b1, i * 6 + 5, none⟩ = some (.slice none 0 0) := fun W hW => ⟨(hW.cell hltb1 id).trans ((HK.out.cell hltb1 id).symm.trans qb10), (hW.cell hltb1 id).trans ((HK.out.cell hltb1 id).symm.trans qb11), (hW.cell hltb1 id).trans ((HK.out.cell hltb1 id).symm.trans qb12), (hW.cell hltb1 id).trans ((HK.out.cell hltb1 id).symm.trans qb13), (hW.cell hltb1 id).trans ((HK.out.cell hltb1 id).symm.trans qb14), (hW.cell hltb1 id).trans ((HK.out.cell hltb1 id).symm.trans qb15)⟩
                    obtain ⟨z0, z1, z2, z3, z4, z5⟩ := HB1 _ K1.out
                    clear HB1 qb10 qb11 qb12 qb13 qb14 qb15 hltb1
                    have hlI : (i : Int) < (rl : Int) := by omega
                    have hne : ¬ ((i : Int) = (rl : Int)) := by omega
                    have x0 : (wr.alloc (.cells #[.int .i64 (1048576 * (n : Int) + (i : Int) + 1), .int .i64 0, .int .i64 0, .int .i64 0, .slice none 0 0, .slice none 0 0] 40)).cell? ⟨wr.heap.size, 0, none⟩ = some (.int .i64 (1048576 * (n : Int) + (i : Int) + 1)) := WV.out.cellAt 0
                    have f0 : (wr.alloc (.cells #[.int .i64 (1048576 * (n : Int) + (i : Int) + 1), .int .i64 0, .int .i64 0, .int .i64 0, .slice none 0 0, .slice none 0 0] 40)).frozen? ⟨wr.heap.size, 0, none⟩ = false := WV.out.free 0
                    have x1 : (wr.alloc (.cells #[.int .i64 (1048576 * (n : Int) + (i : Int) + 1), .int .i64 0, .int .i64 0, .int .i64 0, .slice none 0 0, .slice none 0 0] 40)).cell? ⟨wr.heap.size, 1, none⟩ = some (.int .i64 0) := WV.out.cellAt 1
                    have f1 : (wr.alloc (.cells #[.int .i64 (1048576 * (n : Int) + (i : Int) + 1), .int .i64 0, .int .i64 0, .int .i64 0, .slice none 0 0, .slice none 0 0] 40)).frozen? ⟨wr.heap.size, 1, none⟩ = false := WV.out.free 1
                    have x2 : (wr.alloc (.cells #[.int .i64 (1048576 * (n : Int) + (i : Int) + 1), .int .i64 0, .int .i64 0, .int .i64 0, .slice none 0 0, .slice none 0 0] 40)).cell? ⟨wr.heap.size, 2, none⟩ = some (.int .i64 0) := WV.out.cellAt 2
                    have f2 : (wr.alloc (.cells #[.int .i64 (1048576 * (n : Int) + (i : Int) + 1), .int .i64 0, .int .i64 0, .int .i64 0, .slice none 0 0, .slice none 0 0] 40)).frozen? ⟨wr.heap.size, 2, none⟩ = false := WV.out.free 2
                    have x3 : (wr.alloc (.cells #[.int .i64 (1048576 * (n : Int) + (i : Int) + 1), .int .i64 0, .int .i64 0, .int .i64 0, .slice none 0 0, .slice none 0 0] 40)).cell? ⟨wr.heap.size, 3, none⟩ = some (.int .i64 0) := WV.out.cellAt 3
                    have f3 : (wr.alloc (.cells #[.int .i64 (1048576 * (n : Int) + (i : Int) + 1), .int .i64 0, .int .i64 0, .int .i64 0, .slice none 0 0, .slice none 0 0] 40)).frozen? ⟨wr.heap.size, 3, none⟩ = false := WV.out.free 3
                    have x4 : (wr.alloc (.cells #[.int .i64 (1048576 * (n : Int) + (i : Int) + 1), .int .i64 0, .int .i64 0, .int .i64 0, .slice none 0 0, .slice none 0 0] 40)).cell? ⟨wr.heap.size, 4, none⟩ = some (.slice none 0 0) := WV.out.cellAt 4
                    have f4 : (wr.alloc (.cells #[.int .i64 (1048576 * (n : Int) + (i : Int) + 1), .int .i64 0, .int .i64 0, .int .i64 0, .slice none 0 0, .slice none 0 0] 40)).frozen? ⟨wr.heap.size, 4, none⟩ = false := WV.out.free 4
                    have x5 : (wr.alloc (.cells #[.int .i64 (1048576 * (n : Int) + (i : Int) + 1), .int .i64 0, .int .i64 0, .int .i64 0, .slice none 0 0, .slice none 0 0] 40)).cell? ⟨wr.heap.size, 5, none⟩ = some (.slice none 0 0) := WV.out.cellAt 5
                    have f5 : (wr.alloc (.cells #[.int .i64 (1048576 * (n : Int) + (i : Int) + 1), .int .i64 0, .int .i64 0, .int .i64 0, .slice none 0 0, .slice none 0 0] 40)).frozen? ⟨wr.heap.size, 5, none⟩ = false := WV.out.free 5
                    go_wp2_with fail
                    clear x0 f0 z0 x1 f1 z1 x2 f2 z2 x3 f3 z3 x4 f4 z4 x5 f5 z5
                    obtain ⟨w2, hw2⟩ : ∃ z, z = (wr.alloc (.cells #[.int .i64 (1048576 * (n : Int) + (i : Int) + 1), .int .i64 0, .int .i64 0, .int .i64 0, .slice none 0 0, .slice none 0 0] 40)) := ⟨_, rfl⟩
                    rw [← hw2, ← hvb]
                    rw [← hw2] at K1
                    rw [← hw2, ← hvb] at WV
                    rw [← hvb] at hqv
                    have K2 := K1
                    have Ww2 := WV
                    clear K1 WV al5 c0 c1 c2 c3 e0 e1 e2 e3 hw2 hvb qb50 qb51 qb52 qb53 qb54 qb55 HK
                    have x0 : w2.cell? ⟨vb, 0, none⟩ = some (.int .i64 (1048576 * (n : Int) + (i : Int) + 1)) := Ww2.out.cellAt 0
                    have f0 : w2.frozen? ⟨vb, 0, none⟩ = false := Ww2.out.free 0
                    have x1 : w2.cell? ⟨vb, 1, none⟩ = some (.int .i64 0) := Ww2.out.cellAt 1
                    have f1 : w2.frozen? ⟨vb, 1, none⟩ = false := Ww2.out.free 1
                    have x2 : w2.cell? ⟨vb, 2, none⟩ = some (.int .i64 0) := Ww2.out.cellAt 2
                    have f2 : w2.frozen? ⟨vb, 2, none⟩ = false := Ww2.out.free 2
                    have x3 : w2.cell? ⟨vb, 3, none⟩ = some (.int .i64 0) := Ww2.out.cellAt 3
                    have f3 : w2.frozen? ⟨vb, 3, none⟩ = false := Ww2.out.free 3
                    have x4 : w2.cell? ⟨vb, 4, none⟩ = some (.slice none 0 0) := Ww2.out.cellAt 4
                    have f4 : w2.frozen? ⟨vb, 4, none⟩ = false := Ww2.out.free 4
                    have x5 : w2.cell? ⟨vb, 5, none⟩ = some (.slice none 0 0) := Ww2.out.cellAt 5
                    have f5 : w2.frozen? ⟨vb, 5, none⟩ = false := Ww2.out.free 5
                    obtain ⟨e0, e1, e2, e3⟩ := HC.out w2 K2.out
                    obtain ⟨y0, y1, y2, y3, y4, y5⟩ := HB5.out w2 K2.out
                    go_wp2_with fail
                    go_quiet (first | (go_at_call 86; refine Calls.quiet_of_same (numB_same n i _ (by omega) (by omega))))
                    go_wp2_with fail
                    obtain ⟨w3, hw3⟩ : ∃ z, z = (((((((w2.drewN nq).setCell ⟨vb, 0, none⟩ (.int .i64 (1048576 * (n : Int) + (i : Int) + 1))).setCell ⟨vb, 1, none⟩ (.int .i64 0)).setCell ⟨vb, 2, none⟩ (.int .i64 0)).setCell ⟨vb, 3, none⟩ (.int .i64 0)).setCell ⟨vb, 4, none⟩ (.slice none 0 0)).setCell ⟨vb, 5, none⟩ (.slice none 0 0)) := ⟨_, rfl⟩
                    have K3 : Hid (Keeps (fun _ => False) wq w3) := Lib.hid (by
                      rw [hw3]
                      have hk : Keeps (fun b => b = vb) (w2.drewN nq) (((((((w2.drewN nq).setCell ⟨vb, 0, none⟩ (.int .i64 (1048576 * (n : Int) + (i : Int) + 1))).setCell ⟨vb, 1, none⟩ (.int .i64 0)).setCell ⟨vb, 2, none⟩ (.int .i64 0)).setCell ⟨vb, 3, none⟩ (.int .i64 0)).setCell ⟨vb, 4, none⟩ (.slice none 0 0)).setCell ⟨vb, 5, none⟩ (.slice none 0 0)) := (((((((Keeps.refl (fun b => b = vb) (w2.drewN nq)).setCell (p := ⟨vb, 0, none⟩) (fun _ => rfl) (.int .i64 (1048576 * (n : Int) + (i : Int) + 1))).setCell (p := ⟨vb, 1, none⟩) (fun _ => rfl) (.int .i64 0)).setCell (p := ⟨vb, 2, none⟩) (fun _ => rfl) (.int .i64 0)).setCell (p := ⟨vb, 3, none⟩) (fun _ => rfl) (.int .i64 0)).setCell (p := ⟨vb, 4, none⟩) (fun _ => rfl) (.slice none 0 0)).setCell (p := ⟨vb, 5, none⟩) (fun _ => rfl) (.slice none 0 0))
                      exact (K2.out.drewN nq).and hk (fun b hb e => by omega))
                    have Ww3 : Hid (Whole w3 vb 40 #[.int .i64 (1048576 * (n : Int) + (i : Int) + 1), .int .i64 0, .int .i64 0, .int .i64 0, .slice none 0 0, .slice none 0 0]) := Lib.hid (by rw [hw3]; simpa using (((((((Ww2.out.drewN nq).put 0 (.int .i64 (1048576 * (n : Int) + (i : Int) + 1))).put 1 (.int .i64 0)).put 2 (.int .i64 0)).put 3 (.int .i64 0)).put 4 (.slice none 0 0)).put 5 (.slice none 0 0)))
                    rw [← hw3]
                    clear hw3 e0 e1 e2 e3 x0 x1 x2 x3 x4 x5 f0 f1 f2 f3 f4 f5 y0 y1 y2 y3 y4 y5 K2 Ww2
                    have x0 : w3.cell? ⟨vb, 0, none⟩ = some (.int .i64 (1048576 * (n : Int) + (i : Int) + 1)) := Ww3.out.cellAt 0
                    have f0 : w3.frozen? ⟨vb, 0, none⟩ = false := Ww3.out.free 0
                    have x1 : w3.cell? ⟨vb, 1, none⟩ = some (.int .i64 0) := Ww3.out.cellAt 1
                    have f1 : w3.frozen? ⟨vb, 1, none⟩ = false := Ww3.out.free 1
                    have x2 : w3.cell? ⟨vb, 2, none⟩ = some (.int .i64 0) := Ww3.out.cellAt 2
                    have f2 : w3.frozen? ⟨vb, 2, none⟩ = false := Ww3.out.free 2
                    have x3 : w3.cell? ⟨vb, 3, none⟩ = some (.int .i64 0) := Ww3.out.cellAt 3
                    have f3 : w3.frozen? ⟨vb, 3, none⟩ = false := Ww3.out.free 3
                    have x4 : w3.cell? ⟨vb, 4, none⟩ = some (.slice none 0 0) := Ww3.out.cellAt 4
                    have f4 : w3.frozen? ⟨vb, 4, none⟩ = false := Ww3.out.free 4
                    have x5 : w3.cell? ⟨vb, 5, none⟩ = some (.slice none 0 0) := Ww3.out.cellAt 5
                    have f5 : w3.frozen? ⟨vb, 5, none⟩ = false := Ww3.out.free 5
                    go_wp2_with fail
                    go_quiet (first | (go_at_call 86; refine Calls.quiet_of_same (numB_same n i _ (by omega) (by omega))))
                    go_wp2_with fail
                    go_roundw
                    case rel => exact ⟨i + 1, by omega, by go_num, Lib.hid (K3.out.drewN _)⟩
                    case measure => (simp [intOf] <;> omega)
                  · obtain rfl : i = rl := h
                    obtain ⟨b3, hA, hD, d0⟩ := H3.out (i * 6 + 0) _ (mkK_at n _ i 0 (by omega) (by decide))
                    obtain rfl := hA
                    have hltb3 := HLT.out _ hD
                    have qb30 : wr.cell? ⟨b3, i * 6, none⟩ = some (.int .i64 (1048576 * (n : Int) + (i : Int) + 1)) := (HK.out.cell hltb3 id).trans d0
                    obtain ⟨b3', hA, _, d1⟩ := H3.out (i * 6 + 1) _ (mkK_at n _ i 1 (by omega) (by decide))
                    obtain rfl : b3 = b3' := by injection hA with hA; injection hA
                    have qb31 : wr.cell? ⟨b3, i * 6 + 1, none⟩ = some (.int .i64 0) := (HK.out.cell hltb3 id).trans d1
                    clear d1 hA
                    obtain ⟨b3', hA, _, d1⟩ := H3.out (i * 6 + 2) _ (mkK_at n _ i 2 (by omega) (by decide))
                    obtain rfl : b3 = b3' := by injection hA with hA; injection hA
                    have qb32 : wr.cell? ⟨b3, i * 6 + 2, none⟩ = some (.int .i64 0) := (HK.out.cell hltb3 id).trans d1
                    clear d1 hA
                    obtain ⟨b3', hA, _, d1⟩ := H3.out (i * 6 + 3) _ (mkK_at n _ i 3 (by omega) (by decide))
                    obtain rfl : b3 = b3' := by injection hA with hA; injection hA
                    have qb33 : wr.cell? ⟨b3, i * 6 + 3, none⟩ = some (.int .i64 0) := (HK.out.cell hltb3 id).trans d1
                    clear d1 hA
                    obtain ⟨b3', hA, _, d1⟩ := H3.out (i * 6 + 4) _ (mkK_at n _ i 4 (by omega) (by decide))
                    obtain rfl : b3 = b3' := by injection hA with hA; injection hA
                    have qb34 : wr.cell? ⟨b3, i * 6 + 4, none⟩ = some (.slice none 0 0) := (HK.out.cell hltb3 id).trans d1
                    clear d1 hA
                    obtain ⟨b3', hA, _, d1⟩ := H3.out (i * 6 + 5) _ (mkK_at n _ i 5 (by omega) (by decide))
                    obtain rfl : b3 = b3' := by injection hA with hA; injection hA
                    have qb35 : wr.cell? ⟨b3, i * 6 + 5, none⟩ = some (.slice none 0 0) := (HK.out.cell hltb3 id).trans d1
                    clear d1 hA
                    clear d0 hD
                    have HB1 : ∀ W, Keeps (fun _ => False) wq W → W.cell? ⟨b3, i * 6, none⟩ = some (.int .i64 (1048576 * (n : Int) + (i : Int) + 1)) ∧ W.cell? ⟨b3, i * 6 + 1, none⟩ = some (.int .i64 0) ∧ W.cell? ⟨b3, i * 6 + 2, none⟩ = some (.int .i64 0) ∧ W.cell? ⟨b3, i * 6 + 3, none⟩ = some (.int .i64 0) ∧ W.cell? ⟨b3, i * 6 + 4, none⟩ = some (.slice none 0 0) ∧ W.cell? ⟨b3, i * 6 + 5, none⟩ = some (.slice none 0 0) := fun W hW => ⟨(hW.cell hltb3 id).trans ((HK.out.cell hltb3 id).symm.trans qb30), (hW.cell hltb3 id).trans ((HK.out.cell hltb3 id).symm.trans qb31), (hW.cell hltb3 id).trans ((HK.out.cell hltb3 id).symm.trans qb32), (hW.cell hltb3 id).trans ((HK.out.cell hltb3 id).symm.trans qb33), (hW.cell hltb3 id).trans ((HK.out.cell hltb3 id).symm.trans qb34), (hW.cell hltb3 id).trans ((HK.out.cell hltb3 id).symm.trans qb35)⟩
                    obtain ⟨z0, z1, z2, z3, z4, z5⟩ := HB1 _ K1.out
                    clear HB1 qb30 qb31 qb32 qb33 qb34 qb35 hltb3
                    skip
                    have x0 : (wr.alloc (.cells #[.int .i64 (1048576 * (n : Int) + (i : Int) + 1), .int .i64 0, .int .i64 0, .int .i64 0, .slice none 0 0, .slice none 0 0] 40)).cell? ⟨wr.heap.size, 0, none⟩ = some (.int .i64 (1048576 * (n : Int) + (i : Int) + 1)) := WV.out.cellAt 0
                    have f0 : (wr.alloc (.cells #[.int .i64 (1048576 * (n : Int) + (i : Int) + 1), .int .i64 0, .int .i64 0, .int .i64 0, .slice none 0 0, .slice none 0 0] 40)).frozen? ⟨wr.heap.size, 0, none⟩ = false := WV.out.free 0
                    have x1 : (wr.alloc (.cells #[.int .i64 (1048576 * (n : Int) + (i : Int) + 1), .int .i64 0, .int .i64 0, .int .i64 0, .slice none 0 0, .slice none 0 0] 40)).cell? ⟨wr.heap.size, 1, none⟩ = some (.int .i64 0) := WV.out.cellAt 1
                    have f1 : (wr.alloc (.cells #[.int .i64 (1048576 * (n : Int) + (i : Int) + 1), .int .i64 0, .int .i64 0, .int .i64 0, .slice none 0 0, .slice none 0 0] 40)).frozen? ⟨wr.heap.size, 1, none⟩ = false := WV.out.free 1
                    have x2 : (wr.alloc (.cells #[.int .i64 (1048576 * (n : Int) + (i : Int) + 1), .int .i64 0, .int .i64 0, .int .i64 0, .slice none 0 0, .slice none 0 0] 40)).cell? ⟨wr.heap.size, 2, none⟩ = some (.int .i64 0) := WV.out.cellAt 2
                    have f2 : (wr.alloc (.cells #[.int .i64 (1048576 * (n : Int) + (i : Int) + 1), .int .i64 0, .int .i64 0, .int .i64 0, .slice none 0 0, .slice none 0 0] 40)).frozen? ⟨wr.heap.size, 2, none⟩ = false := WV.out.free 2
                    have x3 : (wr.alloc (.cells #[.int .i64 (1048576 * (n : Int) + (i : Int) + 1), .int .i64 0, .int .i64 0, .int .i64 0, .slice none 0 0, .slice none 0 0] 40)).cell? ⟨wr.heap.size, 3, none⟩ = some (.int .i64 0) := WV.out.cellAt 3
                    have f3 : (wr.alloc (.cells #[.int .i64 (1048576 * (n : Int) + (i : Int) + 1), .int .i64 0, .int .i64 0, .int .i64 0, .slice none 0 0, .slice none 0 0] 40)).frozen? ⟨wr.heap.size, 3, none⟩ = false := WV.out.free 3
                    have x4 : (wr.alloc (.cells #[.int .i64 (1048576 * (n : Int) + (i : Int) + 1), .int .i64 0, .int .i64 0, .int .i64 0, .slice none 0 0, .slice none 0 0] 40)).cell? ⟨wr.heap.size, 4, none⟩ = some (.slice none 0 0) := WV.out.cellAt 4
                    have f4 : (wr.alloc (.cells #[.int .i64 (1048576 * (n : Int) + (i : Int) + 1), .int .i64 0, .int .i64 0, .int .i64 0, .slice none 0 0, .slice none 0 0] 40)).frozen? ⟨wr.heap.size, 4, none⟩ = false := WV.out.free 4
                    have x5 : (wr.alloc (.cells #[.int .i64 (1048576 * (n : Int) + (i : Int) + 1), .int .i64 0, .int .i64 0, .int .i64 0, .slice none 0 0, .slice none 0 0] 40)).cell? ⟨wr.heap.size, 5, none⟩ = some (.slice none 0 0) := WV.out.cellAt 5
                    have f5 : (wr.alloc (.cells #[.int .i64 (1048576 * (n : Int) + (i : Int) + 1), .int .i64 0, .int .i64 0, .int .i64 0, .slice none 0 0, .slice none 0 0] 40)).frozen? ⟨wr.heap.size, 5, none⟩ = false := WV.out.free 5
                    go_wp2_with fail
                    clear x0 f0 z0 x1 f1 z1 x2 f2 z2 x3 f3 z3 x4 f4 z4 x5 f5 z5
                    obtain ⟨w2, hw2⟩ : ∃ z, z = (wr.alloc (.cells #[.int .i64 (1048576 * (n : Int) + (i : Int) + 1), .int .i64 0, .int .i64 0, .int .i64 0, .slice none 0 0, .slice none 0 0] 40)) := ⟨_, rfl⟩
                    rw [← hw2, ← hvb]
                    rw [← hw2] at K1
                    rw [← hw2, ← hvb] at WV
                    rw [← hvb] at hqv
                    have K2 := K1
                    have Ww2 := WV
                    clear K1 WV al5 c0 c1 c2 c3 e0 e1 e2 e3 hw2 hvb qb50 qb51 qb52 qb53 qb54 qb55 HK
                    have x0 : w2.cell? ⟨vb, 0, none⟩ = some (.int .i64 (1048576 * (n : Int) + (i : Int) + 1)) := Ww2.out.cellAt 0
                    have f0 : w2.frozen? ⟨vb, 0, none⟩ = false := Ww2.out.free 0
                    have x1 : w2.cell? ⟨vb, 1, none⟩ = some (.int .i64 0) := Ww2.out.cellAt 1
                    have f1 : w2.frozen? ⟨vb, 1, none⟩ = false := Ww2.out.free 1
                    have x2 : w2.cell? ⟨vb, 2, none⟩ = some (.int .i64 0) := Ww2.out.cellAt 2
                    have f2 : w2.frozen? ⟨vb, 2, none⟩ = false := Ww2.out.free 2
                    have x3 : w2.cell? ⟨vb, 3, none⟩ = some (.int .i64 0) := Ww2.out.cellAt 3
                    have f3 : w2.frozen? ⟨vb, 3, none⟩ = false := Ww2.out.free 3
                    have x4 : w2.cell? ⟨vb, 4, none⟩ = some (.slice none 0 0) := Ww2.out.cellAt 4
                    have f4 : w2.frozen? ⟨vb, 4, none⟩ = false := Ww2.out.free 4
                    have x5 : w2.cell? ⟨vb, 5, none⟩ = some (.slice none 0 0) := Ww2.out.cellAt 5
                    have f5 : w2.frozen? ⟨vb, 5, none⟩ = false := Ww2.out.free 5
                    obtain ⟨e0, e1, e2, e3⟩ := HC.out w2 K2.out
                    obtain ⟨y0, y1, y2, y3, y4, y5⟩ := HB5.out w2 K2.out
                    go_wp2_with fail
                    go_quiet (first | (go_at_call 86; refine Calls.quiet_of_same (numB_same n i _ (by omega) (by omega))))
                    go_wp2_with fail
                    obtain ⟨w3, hw3⟩ : ∃ z, z = (((((((w2.drewN nq).setCell ⟨vb, 0, none⟩ (.int .i64 (1048576 * (n : Int) + (i : Int) + 1))).setCell ⟨vb, 1, none⟩ (.int .i64 0)).setCell ⟨vb, 2, none⟩ (.int .i64 0)).setCell ⟨vb, 3, none⟩ (.int .i64 0)).setCell ⟨vb, 4, none⟩ (.slice none 0 0)).setCell ⟨vb, 5, none⟩ (.slice none 0 0)) := ⟨_, rfl⟩
                    have K3 : Hid (Keeps (fun _ => False) wq w3) := Lib.hid (by
                      rw [hw3]
                      have hk : Keeps (fun b => b = vb) (w2.drewN nq) (((((((w2.drewN nq).setCell ⟨vb, 0, none⟩ (.int .i64 (1048576 * (n : Int) + (i : Int) + 1))).setCell ⟨vb, 1, none⟩ (.int .i64 0)).setCell ⟨vb, 2, none⟩ (.int .i64 0)).setCell ⟨vb, 3, none⟩ (.int .i64 0)).setCell ⟨vb, 4, none⟩ (.slice none 0 0)).setCell ⟨vb, 5, none⟩ (.slice none 0 0)) := (((((((Keeps.refl (fun b => b = vb) (w2.drewN nq)).setCell (p := ⟨vb, 0, none⟩) (fun _ => rfl) (.int .i64 (1048576 * (n : Int) + (i : Int) + 1))).setCell (p := ⟨vb, 1, none⟩) (fun _ => rfl) (.int .i64 0)).setCell (p := ⟨vb, 2, none⟩) (fun _ => rfl) (.int .i64 0)).setCell (p := ⟨vb, 3, none⟩) (fun _ => rfl) (.int .i64 0)).setCell (p := ⟨vb, 4, none⟩) (fun _ => rfl) (.slice none 0 0)).setCell (p := ⟨vb, 5, none⟩) (fun _ => rfl) (.slice none 0 0))
                      exact (K2.out.drewN nq).and hk (fun b hb e => by omega))
                    have Ww3 : Hid (Whole w3 vb 40 #[.int .i64 (1048576 * (n : Int) + (i : Int) + 1), .int .i64 0, .int .i64 0, .int .i64 0, .slice none 0 0, .slice none 0 0]) := Lib.hid (by rw [hw3]; simpa using (((((((Ww2.out.drewN nq).put 0 (.int .i64 (1048576 * (n : Int) + (i : Int) + 1))).put 1 (.int .i64 0)).put 2 (.int .i64 0)).put 3 (.int .i64 0)).put 4 (.slice none 0 0)).put 5 (.slice none 0 0)))
                    rw [← hw3]
                    clear hw3 e0 e1 e2 e3 x0 x1 x2 x3 x4 x5 f0 f1 f2 f3 f4 f5 y0 y1 y2 y3 y4 y5 K2 Ww2
                    have x0 : w3.cell? ⟨vb, 0, none⟩ = some (.int .i64 (1048576 * (n : Int) + (i : Int) + 1)) := Ww3.out.cellAt 0
                    have f0 : w3.frozen? ⟨vb, 0, none⟩ = false := Ww3.out.free 0
                    have x1 : w3.cell? ⟨vb, 1, none⟩ = some (.int .i64 0) := Ww3.out.cellAt 1
                    have f1 : w3.frozen? ⟨vb, 1, none⟩ = false := Ww3.out.free 1
                    have x2 : w3.cell? ⟨vb, 2, none⟩ = some (.int .i64 0) := Ww3.out.cellAt 2
                    have f2 : w3.frozen? ⟨vb, 2, none⟩ = false := Ww3.out.free 2
                    have x3 : w3.cell? ⟨vb, 3, none⟩ = some (.int .i64 0) := Ww3.out.cellAt 3
                    have f3 : w3.frozen? ⟨vb, 3, none⟩ = false := Ww3.out.free 3
                    have x4 : w3.cell? ⟨vb, 4, none⟩ = some (.slice none 0 0) := Ww3.out.cellAt 4
                    have f4 : w3.frozen? ⟨vb, 4, none⟩ = false := Ww3.out.free 4
                    have x5 : w3.cell? ⟨vb, 5, none⟩ = some (.slice none 0 0) := Ww3.out.cellAt 5
                    have f5 : w3.frozen? ⟨vb, 5, none⟩ = false := Ww3.out.free 5
                    go_wp2_with fail
                    go_quiet (first | (go_at_call 86; refine Calls.quiet_of_same (numB_same n i _ (by omega) (by omega))))
                    go_wp2_with fail
                    go_roundw
                    case rel => exact ⟨i + 1, by omega, by go_num, Lib.hid (K3.out.drewN _)⟩
                    case measure => (simp [intOf] <;> omega)
                  · skip
                    have hne : ¬ ((i : Int) = (rl : Int)) := by omega
                    have hge : ¬ ((i : Int) < (rl : Int)) := by omega
                    go_wp2_with fail
                    obtain ⟨w2, hw2⟩ : ∃ z, z = (wr.alloc (.cells #[.int .i64 (1048576 * (n : Int) + (i : Int) + 1), .int .i64 0, .int .i64 0, .int .i64 0, .slice none 0 0, .slice none 0 0] 40)) := ⟨_, rfl⟩
                    rw [← hw2, ← hvb]
                    rw [← hw2] at K1
                    rw [← hw2, ← hvb] at WV
                    rw [← hvb] at hqv
                    have K2 := K1
                    have Ww2 := WV
                    clear K1 WV al5 c0 c1 c2 c3 e0 e1 e2 e3 hw2 hvb qb50 qb51 qb52 qb53 qb54 qb55 HK
                    have x0 : w2.cell? ⟨vb, 0, none⟩ = some (.int .i64 (1048576 * (n : Int) + (i : Int) + 1)) := Ww2.out.cellAt 0
                    have f0 : w2.frozen? ⟨vb, 0, none⟩ = false := Ww2.out.free 0
                    have x1 : w2.cell? ⟨vb, 1, none⟩ = some (.int .i64 0) := Ww2.out.cellAt 1
                    have f1 : w2.frozen? ⟨vb, 1, none⟩ = false := Ww2.out.free 1
                    have x2 : w2.cell? ⟨vb, 2, none⟩ = some (.int .i64 0) := Ww2.out.cellAt 2
                    have f2 : w2.frozen? ⟨vb, 2, none⟩ = false := Ww2.out.free 2
                    have x3 : w2.cell? ⟨vb, 3, none⟩ = some (.int .i64 0) := Ww2.out.cellAt 3
                    have f3 : w2.frozen? ⟨vb, 3, none⟩ = false := Ww2.out.free 3
                    have x4 : w2.cell? ⟨vb, 4, none⟩ = some (.slice none 0 0) := Ww2.out.cellAt 4
                    have f4 : w2.frozen? ⟨vb, 4, none⟩ = false := Ww2.out.free 4
                    have x5 : w2.cell? ⟨vb, 5, none⟩ = some (.slice none 0 0) := Ww2.out.cellAt 5
                    have f5 : w2.frozen? ⟨vb, 5, none⟩ = false := Ww2.out.free 5
                    obtain ⟨e0, e1, e2, e3⟩ := HC.out w2 K2.out
                    obtain ⟨y0, y1, y2, y3, y4, y5⟩ := HB5.out w2 K2.out
                    go_wp2_with fail
                    go_quiet (first | (go_at_call 86; refine Calls.quiet_of_same (numB_same n i _ (by omega) (by omega))))
                    go_wp2_with fail
                    obtain ⟨w3, hw3⟩ : ∃ z, z = (((((((w2.drewN nq).setCell ⟨vb, 0, none⟩ (.int .i64 (1048576 * (n : Int) + (i : Int) + 1))).setCell ⟨vb, 1, none⟩ (.int .i64 0)).setCell ⟨vb, 2, none⟩ (.int .i64 0)).setCell ⟨vb, 3, none⟩ (.int .i64 0)).setCell ⟨vb, 4, none⟩ (.slice none 0 0)).setCell ⟨vb, 5, none⟩ (.slice none 0 0)) := ⟨_, rfl⟩
                    have K3 : Hid (Keeps (fun _ => False) wq w3) := Lib.hid (by
                      rw [hw3]
                      have hk : Keeps (fun b => b = vb) (w2.drewN nq) (((((((w2.drewN nq).setCell ⟨vb, 0, none⟩ (.int .i64 (1048576 * (n : Int) + (i : Int) + 1))).setCell ⟨vb, 1, none⟩ (.int .i64 0)).setCell ⟨vb, 2, none⟩ (.int .i64 0)).setCell ⟨vb, 3, none⟩ (.int .i64 0)).setCell ⟨vb, 4, none⟩ (.slice none 0 0)).setCell ⟨vb, 5, none⟩ (.slice none 0 0)) := (((((((Keeps.refl (fun b => b = vb) (w2.drewN nq)).setCell (p := ⟨vb, 0, none⟩) (fun _ => rfl) (.int .i64 (1048576 * (n : Int) + (i : Int) + 1))).setCell (p := ⟨vb, 1, none⟩) (fun _ => rfl) (.int .i64 0)).setCell (p := ⟨vb, 2, none⟩) (fun _ => rfl) (.int .i64 0)).setCell (p := ⟨vb, 3, none⟩) (fun _ => rfl) (.int .i64 0)).setCell (p := ⟨vb, 4, none⟩) (fun _ => rfl) (.slice none 0 0)).setCell (p := ⟨vb, 5, none⟩) (fun _ => rfl) (.slice none 0 0))
                      exact (K2.out.drewN nq).and hk (fun b hb e => by omega))
                    have Ww3 : Hid (Whole w3 vb 40 #[.int .i64 (1048576 * (n : Int) + (i : Int) + 1), .int .i64 0, .int .i64 0, .int .i64 0, .slice none 0 0, .slice none 0 0]) := Lib.hid (by rw [hw3]; simpa using (((((((Ww2.out.drewN nq).put 0 (.int .i64 (1048576 * (n : Int) + (i : Int) + 1))).put 1 (.int .i64 0)).put 2 (.int .i64 0)).put 3 (.int .i64 0)).put 4 (.slice none 0 0)).put 5 (.slice none 0 0)))
                    rw [← hw3]
                    clear hw3 e0 e1 e2 e3 x0 x1 x2 x3 x4 x5 f0 f1 f2 f3 f4 f5 y0 y1 y2 y3 y4 y5 K2 Ww2
                    have x0 : w3.cell? ⟨vb, 0, none⟩ = some (.int .i64 (1048576 * (n : Int) + (i : Int) + 1)) := Ww3.out.cellAt 0
                    have f0 : w3.frozen? ⟨vb, 0, none⟩ = false := Ww3.out.free 0
                    have x1 : w3.cell? ⟨vb, 1, none⟩ = some (.int .i64 0) := Ww3.out.cellAt 1
                    have f1 : w3.frozen? ⟨vb, 1, none⟩ = false := Ww3.out.free 1
                    have x2 : w3.cell? ⟨vb, 2, none⟩ = some (.int .i64 0) := Ww3.out.cellAt 2
                    have f2 : w3.frozen? ⟨vb, 2, none⟩ = false := Ww3.out.free 2
                    have x3 : w3.cell? ⟨vb, 3, none⟩ = some (.int .i64 0) := Ww3.out.cellAt 3
                    have f3 : w3.frozen? ⟨vb, 3, none⟩ = false := Ww3.out.free 3
                    have x4 : w3.cell? ⟨vb, 4, none⟩ = some (.slice none 0 0) := Ww3.out.cellAt 4
                    have f4 : w3.frozen? ⟨vb, 4, none⟩ = false := Ww3.out.free 4
                    have x5 : w3.cell? ⟨vb, 5, none⟩ = some (.slice none 0 0) := Ww3.out.cellAt 5
                    have f5 : w3.frozen? ⟨vb, 5, none⟩ = false := Ww3.out.free 5
                    go_wp2_with fail
                    go_quiet (first | (go_at_call 86; refine Calls.quiet_of_same (numB_same n i _ (by omega) (by omega))))
                    go_wp2_with fail
                    go_roundw
                    case rel => exact ⟨i + 1, by omega, by go_num, Lib.hid (K3.out.drewN _)⟩
                    case measure => (simp [intOf] <;> omega)
                · obtain rfl : i = rl + 70 := by omega
                  go_wp2_with fail
                  go_roundw
                  case rel => exact ⟨n + 1, by omega, by go_num, HK⟩
                  case measure => (simp [intOf] <;> omega)
            · obtain rfl : n = rows.length := by omega
              have HK2 := Lib.hid (HG.out.keeps.trans (HK.out.mono (T := blks rows) (fun _ _ h => h.elim)))
              go_wp2_with fail
              go_ret
              exact ⟨rfl, HK2.out⟩
end Go.Proofs.YtcmbdnjcfneinaaGreatDoor
