/-
  Marks of several cells: a list's next mark is put. Conditions: none.
-/
import Derived.Test.YthmfbcfbcookiaaDoorBagP
import Derived.Test.YthmfbcfbcookiaaDoorBagA
import Derived.RegionTactic
import Derived.Deep.RegionWith
namespace Go.Proofs.YthmfbcfbcookiaaDoor
open Go.RowKit
/-- Several cells behind one another. -/
def putsW (g : Nat) : Nat → List Value → World → World
  | _, [], w => w
  | p, v :: vs, w => putsW g (p + 1) vs (w.setCell ⟨g, p, none⟩ v)
theorem putsW_keeps (g : Nat) : ∀ (vs : List Value) (p : Nat) (w : World), Keeps (fun b => b = g) w (putsW g p vs w)
  | [], _, w => Keeps.refl _ w
  | v :: vs, p, w => ((Keeps.refl (fun b => b = g) w).setCell (p := ⟨g, p, none⟩) (fun _ => rfl) v).trans (putsW_keeps g vs (p + 1) _)
theorem putsW_whole {g : Nat} {e : TypeId} : ∀ (vs : List Value) (p : Nat) (cs : Array Value) (w : World), Whole w g e cs → p + vs.length ≤ cs.size → ∃ cs' : Array Value, Whole (putsW g p vs w) g e cs' ∧ cs'.size = cs.size ∧ cs'.toList = cs.toList.take p ++ (vs ++ cs.toList.drop (p + vs.length))
  | [], p, cs, w, h, _ => ⟨cs, h, rfl, by simp⟩
  | v :: vs, p, cs, w, h, hl => by
    simp only [List.length_cons] at hl
    obtain ⟨cs', h1, h2, h3⟩ := putsW_whole vs (p + 1) (cs.setIfInBounds p v) (w.setCell ⟨g, p, none⟩ v) (h.put p v) (by rw [Array.size_setIfInBounds]; omega)
    refine ⟨cs', h1, by rw [h2, Array.size_setIfInBounds], ?_⟩
    have hlt : p < cs.toList.length := by rw [Array.length_toList]; omega
    rw [h3, Array.toList_setIfInBounds, List.length_cons, List.take_add_one, List.getElem?_set_self hlt, List.take_set_of_le (Nat.le_refl _), List.drop_set_of_lt (by omega)]
    simp [Nat.add_assoc, Nat.add_comm 1]
/-- The next mark of s cells. -/
theorem MarkedIn.puts {mk : Nat → Nat → List Value} {e : TypeId} {s : Nat} {rows : List Sl} {w0 w : World} {n i g : Nat} {r : Sl} {vs : List Value} (h : MarkedIn mk e s rows w0 w n i r) (hr : rows[n]? = some r) (hR : ∀ (j k : Nat) (r q : Sl) (b : Nat), rows[j]? = some r → rows[k]? = some q → r.blk = some b → q.blk = some b → j = k) (hi : i < r.len) (hg : r.at_ = some ⟨g, 0, none⟩) (hu : mk n i = vs) (hs : vs.length = s) :
    MarkedIn mk e s rows w0 (putsW g (i * s) vs w) n (i + 1) r := by
  have hb : r.blk = some g := by unfold Sl.blk Sl.val; rw [hg]; rfl
  have hk := putsW_keeps g vs (i * s) w
  refine ⟨h.keeps.trans (hk.mono fun b _ e1 => ⟨n, r, hr, by rw [e1]; exact hb⟩), ?_, ?_⟩
  · intro k q hne hq
    obtain ⟨xs, hx, hm⟩ := h.own k q hne hq
    exact ⟨xs, own_keepsS hx hk fun b hb' e1 => hne (hR k n q r g hq hr (by rw [← e1]; exact hb') hb), hm⟩
  · obtain ⟨xs, hx, ht⟩ := h.here
    rcases hx.2 with ⟨_, h0⟩ | ⟨g', cap, cur, hv, hbs, hh, hc, hm, hsz, hta⟩
    · omega
    · have hgg : g' = g := by
        have e1 : r.at_ = some ⟨g', 0, none⟩ := by unfold Sl.val at hv; injection hv
        rw [hg] at e1
        injection e1 with e1
        injection e1 with e1
        exact e1.symm
      subst hgg
      have hl : xs.length = r.len * s := hx.1
      have hil : i * s + s ≤ r.len * s := by rw [← Nat.succ_mul]; exact Nat.mul_le_mul_right _ hi
      have hcap : r.len * s ≤ cap * s := Nat.mul_le_mul_right _ hc
      have hW : Whole w g' e cur := hh
      obtain ⟨cs', h1, h2, h3⟩ := putsW_whole vs (i * s) cur w hW (by omega)
      refine ⟨xs.take (i * s) ++ (vs ++ xs.drop (i * s + s)), ⟨?_, .inr ⟨g', cap, cs', hv, hbs, h1, hc, hm, by rw [h2]; exact hsz, ?_⟩⟩, ?_⟩
      · simp only [List.length_append, List.length_take, List.length_drop]; omega
      · rw [h3, hs, ← hta]
        have hcl : cur.toList.length = cap * s := by rw [Array.length_toList]; exact hsz
        rw [List.take_append, List.take_take, List.length_take, hcl, show min (i * s) (cap * s) = i * s by omega, show min (r.len * s) (i * s) = i * s by omega, List.take_append, List.take_of_length_le (l := vs) (by omega), hs, List.take_take, show min (i * s) (r.len * s) = i * s by omega]
        congr 2
        rw [List.drop_take]
        congr 1
        omega
      · rw [Nat.succ_mul, marks_succ, hu]
        have hlt : (xs.take (i * s)).length = i * s := by rw [List.length_take]; omega
        rw [List.take_append, hlt, Nat.add_sub_cancel_left, List.take_of_length_le (l := xs.take (i * s)) (by omega), List.take_append, List.take_of_length_le (l := vs) (by omega), hs, Nat.sub_self, List.take_zero, List.append_nil, ht]
theorem marks_get' {mk : Nat → Nat → List Value} {s : Nat} (hs : ∀ k i, (mk k i).length = s) (k m i j : Nat) (h : i < m) (hj : j < s) : (marks mk k m)[i * s + j]? = (mk k i)[j]? := marks_get mk hs k m i j h hj
theorem numB_same (n i : Int) (w : World) (hn : 0 ≤ n ∧ n ≤ 1000000) (hi : 0 ≤ i ∧ i ≤ 1000000000000000000) : Calls Tryd.prog 82 #[.int .i64 n, .int .i64 i] w fun e w' => e = .returned (.int .i64 (1048576 * n + i + 1)) ∧ w' = w := (numB_any n i w hn hi).mono fun _ _ h => ⟨h.1, h.2.symm⟩
end Go.Proofs.YthmfbcfbcookiaaDoor
/-
  The bag: its lists of players, marked, gone on with and looked at: the walk. Conditions: no two of them lie in one block; lengths within 10 ^ 9.
-/
namespace Go.Proofs.YthmfbcfbcookiaaDoor
open Go.RowKit
theorem info_plB : (Tryd.prog.info? 75).map (fun i => (i.zero, i.size, i.bytes)) = some (some (.agg #[.int .i32 0, .int .i32 0, .bool false]), 3, 12) := by kernel_rfl
theorem info_plsB : (Tryd.prog.info? 22).map (fun i => (i.zero, i.size, i.bytes)) = some (some (.slice none 0 0), 1, 24) := by kernel_rfl
/-- The mark i of the list n. -/
def mkP (n i : Nat) : List Value := [.int .i32 (1048576 * (n : Int) + (i : Int) + 1), .int .i32 0, .bool false]
theorem mkP_length (n i : Nat) : (mkP n i).length = 3 := rfl
theorem mkP_add (n l m : Nat) : mkP n (l + m) = [.int .i32 (1048576 * (n : Int) + ((l : Int) + (m : Int)) + 1), .int .i32 0, .bool false] := by unfold mkP; rw [Int.natCast_add]
theorem mkP_at (k m i j : Nat) (h : i < m) (hj : j < 3) : (marks mkP k m)[i * 3 + j]? = (mkP k i)[j]? := marks_get mkP mkP_length k m i j h hj
theorem mkP_oneCell (k i : Nat) : ∀ u ∈ mkP k i, u.oneCell' = true := by
  intro u hu
  simp only [mkP, List.mem_cons, List.mem_nil_iff, or_false] at hu
  rcases hu with rfl | rfl | rfl <;> rfl
set_option maxRecDepth 100000 in
set_option maxHeartbeats 2000000 in
theorem apartPlayers_any (p gO capO : Nat) (rows : List Sl) (w : World) (hF : BagFix w p 7 gO capO rows) (hR : SlRows 75 3 rows w) (hn : rows.length ≤ 400) (hl : ∀ (k : Nat) (r : Sl), rows[k]? = some r → r.len ≤ 1000000000) :
    Calls Tryd.prog 52 #[.pointer (some ⟨p, 0, none⟩)] w fun e w' => e = .returned (.bool true) ∧ Keeps (blks rows) w w' := by
  have HF := Lib.hid hF
  have HAp := Lib.hid hR.apart
  have HM0 : Hid (Marked mkP 75 3 rows w w 0) := Lib.hid (Marked.start hR (Keeps.refl _ _))
  have HL := Lib.hid hl
  clear hl hR
  have c0 := hF.hp
  go_enter Tryd.func52, Tryd.ntmps52
  go_wp2_with fail
  clear c0
  go_loopw [3] (fun v wr => ∃ n : Nat, n ≤ rows.length ∧ v = .int .i64 n ∧ Hid (Marked mkP 75 3 rows w wr n)) (fun v _ => rows.length - (intOf v).toNat)
  case atStart => exact ⟨0, by omega, rfl, HM0⟩
  case round =>
    clear HM0 hF
    obtain ⟨n, hnr, rfl, HM⟩ := hrel
    have HFr := Lib.hid (HF.out.keeps HM.out.keeps)
    have c0 := HFr.out.hp
    by_cases hlt : n < rows.length
    · obtain ⟨r, hr⟩ : ∃ r, rows[n]? = some r := ⟨_, List.getElem?_eq_getElem hlt⟩
      have c1 := HFr.out.hO n r hr
      have HI0 := Lib.hid (HM.out.enter hr)
      have hrl := HL.out n r hr
      have HRr := Lib.hid hr
      obtain ⟨ra, rl, rc⟩ := r
      clear HM hr
      go_wp2_with fail
      clear c0 c1
      go_loopw [4] (fun v wr => ∃ i : Nat, i ≤ rl ∧ v = .int .i64 i ∧ Hid (MarkedIn mkP 75 3 rows w wr n i ⟨ra, rl, rc⟩)) (fun v _ => rl - (intOf v).toNat)
      case atStart => exact ⟨0, by omega, rfl, HI0⟩
      case round =>
        clear HI0 HFr
        obtain ⟨i, hir, rfl, HI⟩ := hrel
        have HFr := Lib.hid (HF.out.keeps HI.out.keeps)
        have c0 := HFr.out.hp
        have c1 := HFr.out.hO n _ HRr.out
        by_cases hil : i < rl
        · obtain ⟨g, cs, hg, hW, hsz⟩ := HI.out.cell hil
          obtain rfl : ra = some ⟨g, 0, none⟩ := hg
          have hil3 : i * 3 + 3 ≤ rl * 3 := by omega
          have hsz' : rl * 3 ≤ cs.size := hsz
          obtain ⟨u0, hu0⟩ : ∃ u, wr.cell? ⟨g, i * 3, none⟩ = some u := ⟨_, (hW.cellAt _).trans (Array.getElem?_eq_getElem (by omega))⟩
          have hf0 := hW.free (i * 3)
          obtain ⟨u1, hu1⟩ : ∃ u, wr.cell? ⟨g, i * 3 + 1, none⟩ = some u := ⟨_, (hW.cellAt _).trans (Array.getElem?_eq_getElem (by omega))⟩
          have hf1 := hW.free (i * 3 + 1)
          obtain ⟨u2, hu2⟩ : ∃ u, wr.cell? ⟨g, i * 3 + 2, none⟩ = some u := ⟨_, (hW.cellAt _).trans (Array.getElem?_eq_getElem (by omega))⟩
          have hf2 := hW.free (i * 3 + 2)
          clear hW hsz hsz'
          have HP : Hid (MarkedIn mkP 75 3 rows w (((wr.setCell ⟨g, i * 3, none⟩ (.int .i32 (1048576 * (n : Int) + (i : Int) + 1))).setCell ⟨g, i * 3 + 1, none⟩ (.int .i32 0)).setCell ⟨g, i * 3 + 2, none⟩ (.bool false)) n (i + 1) ⟨some ⟨g, 0, none⟩, rl, rc⟩) := Lib.hid (HI.out.puts (vs := mkP n i) HRr.out HAp.out hil rfl rfl rfl)
          clear HI
          go_wp2_with fail
          go_region_with (first | (go_at_call 82; refine (numB_any n i _ (by omega) (by omega)).mono ?_; rintro e w1 ⟨rfl, rfl⟩))
          all_goals
            go_wp2_with fail
            go_roundw
            case rel => exact ⟨i + 1, by omega, by go_num, Lib.hid HP.out.drew⟩
            case measure => (simp [intOf] <;> omega)
        · obtain rfl : i = rl := by omega
          have HM := Lib.hid (HI.out.leave HRr.out)
          clear HI
          go_wp2_with fail
          go_roundw
          case rel => exact ⟨n + 1, by omega, by go_num, HM⟩
          case measure => (simp [intOf] <;> omega)
    · obtain rfl : n = rows.length := by omega
      have HG0 := Lib.hid (Going.start (eo := 22) (base := wr.heap.size) HM.out rfl)
      have hb0 := HM.out.keeps.size
      clear hlt HM HFr
      go_wp2_with fail
      clear c0
      generalize wr.heap.size = base at *
      go_loopw [5, 6, 7] (fun vo vm v wq => ∃ (n : Nat) (ov mv : Value) (ones mores : List Value) (D : Nat → Prop), n ≤ rows.length ∧ v = .int .i64 n ∧ ov = vo ∧ mv = vm ∧ Hid (Going mkP 75 22 3 base rows w wq n ov mv ones mores D)) (fun _ _ v _ => rows.length - (intOf v).toNat)
      case atStart => exact ⟨0, _, _, [], [], fun _ => False, by omega, rfl, rfl, rfl, HG0⟩
      case round =>
        clear HG0
        obtain ⟨n, ov, mv, ones, mores, D, hnr, rfl, rfl, rfl, HG⟩ := hrel
        have HFr := Lib.hid (HF.out.keeps HG.out.keeps)
        have c0 := HFr.out.hp
        by_cases hlt : n < rows.length
        · obtain ⟨r, hr⟩ : ∃ r, rows[n]? = some r := ⟨_, List.getElem?_eq_getElem hlt⟩
          have c1 := HFr.out.hO n r hr
          have HI0 := Lib.hid (HG.out.enter HAp.out hr)
          have hrl := HL.out n r hr
          have HRr := Lib.hid hr
          obtain ⟨ra, rl, rc⟩ := r
          clear HG hr HFr
          go_wp2_with fail
          clear c0 c1
          go_loopw [5, 8, 9] (fun vo vl v wq => ∃ (m c lcap : Nat) (lA : Option Addr) (ones : List Value) (E : Nat → Prop), m ≤ 70 ∧ v = .int .i64 ((rl : Int) + (m : Int)) ∧ vl = .slice lA (rl + m) lcap ∧ c = (if m = 0 then n else n + 1) ∧ Hid (GoingIn mkP 75 22 3 base rows w wq n m c vo mv vl ones mores D E ⟨ra, rl, rc⟩)) (fun _ _ v _ => (rl : Int).toNat + 70 - (intOf v).toNat)
          case atStart => exact ⟨0, n, rc, ra, ones, _, by omega, by simp, rfl, rfl, HI0⟩
          case round =>
            clear HI0
            obtain ⟨m, c, lcap, lA, ones, E, hm, rfl, rfl, hc, HI⟩ := hrel
            have HFr := Lib.hid (HF.out.keeps HI.out.keeps)
            have c0 := HFr.out.hp
            have c1 := HFr.out.hO n _ HRr.out
            clear HFr
            obtain ⟨wq, rfl⟩ : ∃ wq : World, wq = wr := ⟨_, rfl⟩
            by_cases hm0 : m = 0
            · subst hm0
              obtain rfl : c = n := by simpa using hc
              clear hc hm
              go_wp2_with fail
              refine (numB_any c _ _ (by omega) (by omega)).mono ?_
              rintro e w1 ⟨rfl, rfl⟩
              have own0 : Hid (wq.ownsRow 0 75 3 (.slice lA rl lcap) rl (marks mkP c rl)) := Lib.hid HI.out.own
              go_wp2_with (first
                | (at_builtin; (refine wpList_append_cells _ rfl (.tmp 80) (.tmp 86) 22 rfl 0 75 (.agg #[.int .i32 0, .int .i32 0, .bool false]) 3 12 Tryd.underlying22 info_plB rfl (by decide) _ (rl) _ rfl (own0.out.alloc _) (wq.heap.size + 1) (some ⟨wq.heap.size, 0, none⟩) 1 1 (mkP c rl) rfl (by exact Lies.row (t := 75) (fr := (0, 0)) (heap_alloc_new wq _) (by simp)) rfl (mkP_oneCell _ _) (by unfold maxLen; omega) (by omega) (by simp) ?_); intro A' cap' w1 h1 h2 h3 _ h4; obtain ⟨E1, hI1⟩ := HI.out.pushed mkP_length h1 h2 h3 h4; have HI1 := Lib.hid hI1; have HF1 := Lib.hid (HF.out.keeps hI1.keeps); clear h1 h2 h3 h4 hI1 c0 c1; have d0 := HF1.out.hp; have d1 := HF1.out.hO c _ HRr.out)
                | (at_builtin; (refine wpList_append_cells _ rfl (.tmp 98) (.tmp 100) 55 rfl base 22 (.slice none 0 0) 1 24 Tryd.underlying55 info_plsB rfl (by decide) _ c _ rfl (HI1.out.one.alloc _) (w1.heap.size + 1) (some ⟨w1.heap.size, 0, none⟩) 1 1 [.slice A' (rl + 1) cap'] rfl (Lies.row (t := 22) (fr := (0, 0)) (heap_alloc_new w1 _) (by simp)) rfl (by simp [Value.oneCell']) (by unfold maxLen; omega) (by omega) (by have := HI1.out.big; simp; omega) ?_); intro A2 cap2 w2 h1 h2 h3 _ h4; have HI2 := Lib.hid (HI1.out.took hb0 rfl (pushed_of HI1.out.one h1 h2 h3 h4)); clear h1 h2 h3 h4 HI1))
              go_roundw
              case rel => exact ⟨1, c + 1, cap', A', _, E1, by omega, by go_num, rfl, rfl, HI2⟩
              case measure => (simp [intOf] <;> omega)
            · obtain rfl : c = n + 1 := by rw [if_neg hm0] at hc; exact hc
              clear hc
              by_cases hm7 : m < 70
              · have hne : ¬ ((rl : Int) + (m : Int) = (rl : Int)) := by omega
                go_wp2_with fail
                refine (numB_any n _ _ (by omega) (by omega)).mono ?_
                rintro e w1 ⟨rfl, rfl⟩
                go_wp2_with (at_builtin; (refine wpList_append_cells _ rfl (.tmp 80) (.tmp 86) 22 rfl 0 75 (.agg #[.int .i32 0, .int .i32 0, .bool false]) 3 12 Tryd.underlying22 info_plB rfl (by decide) _ (rl + m) _ rfl (HI.out.own.alloc _) (wq.heap.size + 1) (some ⟨wq.heap.size, 0, none⟩) 1 1 (mkP n (rl + m)) rfl (by rw [mkP_add]; exact Lies.row (t := 75) (fr := (0, 0)) (heap_alloc_new wq _) (by simp)) rfl (mkP_oneCell _ _) (by unfold maxLen; omega) (by omega) (by simp) ?_); intro A' cap' w1 h1 h2 h3 _ h4; obtain ⟨E1, hI1⟩ := HI.out.pushed mkP_length h1 h2 h3 h4; have HI1 := Lib.hid hI1; have HF1 := Lib.hid (HF.out.keeps hI1.keeps); clear h1 h2 h3 h4 hI1 c0 c1; have d0 := HF1.out.hp; have d1 := HF1.out.hO n _ HRr.out)
                go_roundw
                case rel => exact ⟨m + 1, n + 1, cap', A', _, E1, by omega, by go_num, rfl, rfl, HI1⟩
                case measure => (simp [intOf] <;> omega)
              · obtain rfl : m = 70 := by omega
                clear hm hm0 hm7
                go_wp2_with (at_builtin; (refine wpList_append_cells _ rfl (.tmp 102) (.tmp 104) 55 rfl base 22 (.slice none 0 0) 1 24 Tryd.underlying55 info_plsB rfl (by decide) _ n _ rfl (HI.out.more.alloc _) (wq.heap.size + 1) (some ⟨wq.heap.size, 0, none⟩) 1 1 [.slice lA (rl + 70) lcap] rfl (Lies.row (t := 22) (fr := (0, 0)) (heap_alloc_new wq _) (by simp)) rfl (by simp [Value.oneCell']) (by unfold maxLen; omega) (by omega) (by have := HI.out.big; simp; omega) ?_); intro A2 cap2 w2 h1 h2 h3 _ h4; have HG := Lib.hid (HI.out.leave HRr.out hb0 rfl (pushed_of HI.out.more h1 h2 h3 h4)); clear h1 h2 h3 h4 HI)
                go_roundw
                case rel => exact ⟨n + 1, _, _, _, _, _, by omega, by go_num, rfl, rfl, HG⟩
                case measure => (simp [intOf] <;> omega)
        · obtain rfl : n = rows.length := by omega
          clear hlt hb0
          obtain ⟨wq, rfl⟩ : ∃ wq : World, wq = wr := ⟨_, rfl⟩
          obtain ⟨mA, mcap, rfl, _, _⟩ := own_slice HG.out.more
          obtain ⟨oA, ocap, rfl, _, _⟩ := own_slice HG.out.one
          have HLm := Lib.hid (own_lies HG.out.more)
          have HLo := Lib.hid (own_lies HG.out.one)
          go_wp2_with fail
          clear c0
          go_loopw [10] (fun v wr => ∃ n : Nat, n ≤ rows.length ∧ v = .int .i64 n ∧ Hid (Keeps (fun _ => False) wq wr)) (fun v _ => rows.length - (intOf v).toNat)
          case atStart => exact ⟨0, by omega, rfl, Lib.hid (Keeps.refl _ _)⟩
          case round =>
            obtain ⟨n, hn2, rfl, HK⟩ := hrel
            by_cases hlt : n < rows.length
            · obtain ⟨r, hr⟩ : ∃ r, rows[n]? = some r := ⟨_, List.getElem?_eq_getElem hlt⟩
              obtain ⟨h1, ⟨a, c, h2, h3⟩, a', c', h4, h5⟩ := HG.out.did n hlt r hr
              obtain ⟨gm, om, rfl, hgm, hcm⟩ := HLm.out n _ h4
              obtain ⟨go, oo, rfl, hgo, hco⟩ := HLo.out n _ h2
              have hrl := HL.out n r hr
              have c0 := HFr.out.hp
              have c1 := HFr.out.hO n r hr
              have HLT := Lib.hid HG.out.lt
              have hF := HFr.out.lt
              obtain ⟨ra, rl, rc⟩ := r
              have H1 := Lib.hid h1; have H3 := Lib.hid h3; have H5 := Lib.hid h5
              have HC : Hid (∀ W, Keeps (fun _ => False) wq W → W.cell? ⟨p, 7, none⟩ = some (.slice (some ⟨gO, 0, none⟩) rows.length capO) ∧ W.cell? ⟨gO, n, none⟩ = some (.slice ra rl rc) ∧ W.cell? ⟨gm, om + n, none⟩ = some (.slice a' (rl + 70) c') ∧ W.cell? ⟨go, oo + n, none⟩ = some (.slice a (rl + 1) c)) := Lib.hid (fun W hW => ⟨(hW.cell hF.1 id).trans c0, (hW.cell hF.2 id).trans c1, (hW.cell hgm id).trans hcm, (hW.cell hgo id).trans hco⟩)
              clear h1 h2 h3 h4 h5 hr c0 c1 hcm hco hgm hgo
              obtain ⟨c0, c1, c2, c3⟩ := HC.out wr HK.out
              go_wp2_with fail
              clear c0 c1 c2 c3
              go_loopw [11] (fun v wr => ∃ i : Nat, i ≤ rl + 70 ∧ v = .int .i64 i ∧ Hid (Keeps (fun _ => False) wq wr)) (fun v _ => rl + 70 - (intOf v).toNat)
              case atStart => exact ⟨0, by omega, rfl, HK⟩
              case round =>
                clear HK
                obtain ⟨i, hi, rfl, HK⟩ := hrel
                obtain ⟨c0, c1, c2, c3⟩ := HC.out wr HK.out
                by_cases hil : i < rl + 70
                · skip
                  obtain ⟨b5, hA, hD, d0⟩ := H5.out (i * 3 + 0) _ (mkP_at n _ i 0 (by omega) (by decide))
                  obtain rfl := hA
                  have hltb5 := HLT.out _ hD
                  have qb50 : wr.cell? ⟨b5, i * 3, none⟩ = some (.int .i32 (1048576 * (n : Int) + (i : Int) + 1)) := (HK.out.cell hltb5 id).trans d0
                  obtain ⟨b5', hA, _, d1⟩ := H5.out (i * 3 + 1) _ (mkP_at n _ i 1 (by omega) (by decide))
                  obtain rfl : b5 = b5' := by injection hA with hA; injection hA
                  have qb51 : wr.cell? ⟨b5, i * 3 + 1, none⟩ = some (.int .i32 0) := (HK.out.cell hltb5 id).trans d1
                  clear d1 hA
                  obtain ⟨b5', hA, _, d1⟩ := H5.out (i * 3 + 2) _ (mkP_at n _ i 2 (by omega) (by decide))
                  obtain rfl : b5 = b5' := by injection hA with hA; injection hA
                  have qb52 : wr.cell? ⟨b5, i * 3 + 2, none⟩ = some (.bool false) := (HK.out.cell hltb5 id).trans d1
                  clear d1 hA
                  clear d0 hD
                  have al5 : ∀ o, (wr.alloc o).cell? ⟨b5, i * 3, none⟩ = some (.int .i32 (1048576 * (n : Int) + (i : Int) + 1)) ∧ (wr.alloc o).cell? ⟨b5, i * 3 + 1, none⟩ = some (.int .i32 0) ∧ (wr.alloc o).cell? ⟨b5, i * 3 + 2, none⟩ = some (.bool false) := fun o => ⟨(World.cell?_alloc_lt wr o ⟨b5, i * 3, none⟩ (World.block_lt_of_cell? wr _ qb50)).trans qb50, (World.cell?_alloc_lt wr o ⟨b5, i * 3 + 1, none⟩ (World.block_lt_of_cell? wr _ qb51)).trans qb51, (World.cell?_alloc_lt wr o ⟨b5, i * 3 + 2, none⟩ (World.block_lt_of_cell? wr _ qb52)).trans qb52⟩
                  have K1 : Hid (Keeps (fun _ => False) wq (wr.alloc (.cells #[.int .i32 (1048576 * (n : Int) + (i : Int) + 1), .int .i32 0, .bool false] 75))) := Lib.hid (HK.out.alloc _)
                  have WV : Hid (Whole (wr.alloc (.cells #[.int .i32 (1048576 * (n : Int) + (i : Int) + 1), .int .i32 0, .bool false] 75)) wr.heap.size 75 #[.int .i32 (1048576 * (n : Int) + (i : Int) + 1), .int .i32 0, .bool false]) := Lib.hid (Whole.made _ _ _)
                  obtain ⟨e0, e1, e2, e3⟩ := HC.out _ K1.out
                  have hqv : wq.heap.size ≤ wr.heap.size := HK.out.size
                  obtain ⟨vb, hvb⟩ : ∃ z, z = wr.heap.size := ⟨_, rfl⟩
                  have HB5 : Hid (∀ W, Keeps (fun _ => False) wq W → W.cell? ⟨b5, i * 3, none⟩ = some (.int .i32 (1048576 * (n : Int) + (i : Int) + 1)) ∧ W.cell? ⟨b5, i * 3 + 1, none⟩ = some (.int .i32 0) ∧ W.cell? ⟨b5, i * 3 + 2, none⟩ = some (.bool false)) := Lib.hid (fun W hW => ⟨(hW.cell hltb5 id).trans ((HK.out.cell hltb5 id).symm.trans qb50), (hW.cell hltb5 id).trans ((HK.out.cell hltb5 id).symm.trans qb51), (hW.cell hltb5 id).trans ((HK.out.cell hltb5 id).symm.trans qb52)⟩)
                  rcases Nat.lt_trichotomy i rl with h | h | h
                  · skip
                    obtain ⟨b1, hA, hD, d0⟩ := H1.out (i * 3 + 0) _ (mkP_at n _ i 0 (by omega) (by decide))
                    obtain rfl := hA
                    have hltb1 := HLT.out _ hD
                    have qb10 : wr.cell? ⟨b1, i * 3, none⟩ = some (.int .i32 (1048576 * (n : Int) + (i : Int) + 1)) := (HK.out.cell hltb1 id).trans d0
                    obtain ⟨b1', hA, _, d1⟩ := H1.out (i * 3 + 1) _ (mkP_at n _ i 1 (by omega) (by decide))
                    obtain rfl : b1 = b1' := by injection hA with hA; injection hA
                    have qb11 : wr.cell? ⟨b1, i * 3 + 1, none⟩ = some (.int .i32 0) := (HK.out.cell hltb1 id).trans d1
                    clear d1 hA
                    obtain ⟨b1', hA, _, d1⟩ := H1.out (i * 3 + 2) _ (mkP_at n _ i 2 (by omega) (by decide))
                    obtain rfl : b1 = b1' := by injection hA with hA; injection hA
                    have qb12 : wr.cell? ⟨b1, i * 3 + 2, none⟩ = some (.bool false) := (HK.out.cell hltb1 id).trans d1
                    clear d1 hA
                    clear d0 hD
                    have HB1 : ∀ W, Keeps (fun _ => False) wq W → W.cell? ⟨b1, i * 3, none⟩ = some (.int .i32 (1048576 * (n : Int) + (i : Int) + 1)) ∧ W.cell? ⟨b1, i * 3 + 1, none⟩ = some (.int .i32 0) ∧ W.cell? ⟨b1, i * 3 + 2, none⟩ = some (.bool false) := fun W hW => ⟨(hW.cell hltb1 id).trans ((HK.out.cell hltb1 id).symm.trans qb10), (hW.cell hltb1 id).trans ((HK.out.cell hltb1 id).symm.trans qb11), (hW.cell hltb1 id).trans ((HK.out.cell hltb1 id).symm.trans qb12)⟩
                    obtain ⟨z0, z1, z2⟩ := HB1 _ K1.out
                    clear HB1 qb10 qb11 qb12 hltb1
                    have hlI : (i : Int) < (rl : Int) := by omega
                    have hne : ¬ ((i : Int) = (rl : Int)) := by omega
                    have x0 : (wr.alloc (.cells #[.int .i32 (1048576 * (n : Int) + (i : Int) + 1), .int .i32 0, .bool false] 75)).cell? ⟨wr.heap.size, 0, none⟩ = some (.int .i32 (1048576 * (n : Int) + (i : Int) + 1)) := WV.out.cellAt 0
                    have f0 : (wr.alloc (.cells #[.int .i32 (1048576 * (n : Int) + (i : Int) + 1), .int .i32 0, .bool false] 75)).frozen? ⟨wr.heap.size, 0, none⟩ = false := WV.out.free 0
                    have x1 : (wr.alloc (.cells #[.int .i32 (1048576 * (n : Int) + (i : Int) + 1), .int .i32 0, .bool false] 75)).cell? ⟨wr.heap.size, 1, none⟩ = some (.int .i32 0) := WV.out.cellAt 1
                    have f1 : (wr.alloc (.cells #[.int .i32 (1048576 * (n : Int) + (i : Int) + 1), .int .i32 0, .bool false] 75)).frozen? ⟨wr.heap.size, 1, none⟩ = false := WV.out.free 1
                    have x2 : (wr.alloc (.cells #[.int .i32 (1048576 * (n : Int) + (i : Int) + 1), .int .i32 0, .bool false] 75)).cell? ⟨wr.heap.size, 2, none⟩ = some (.bool false) := WV.out.cellAt 2
                    have f2 : (wr.alloc (.cells #[.int .i32 (1048576 * (n : Int) + (i : Int) + 1), .int .i32 0, .bool false] 75)).frozen? ⟨wr.heap.size, 2, none⟩ = false := WV.out.free 2
                    go_wp2_with fail
                    clear x0 f0 z0 x1 f1 z1 x2 f2 z2
                    obtain ⟨w2, hw2⟩ : ∃ z, z = (wr.alloc (.cells #[.int .i32 (1048576 * (n : Int) + (i : Int) + 1), .int .i32 0, .bool false] 75)) := ⟨_, rfl⟩
                    rw [← hw2, ← hvb]
                    rw [← hw2] at K1
                    rw [← hw2, ← hvb] at WV
                    rw [← hvb] at hqv
                    have K2 := K1
                    have Ww2 := WV
                    clear K1 WV al5 c0 c1 c2 c3 e0 e1 e2 e3 hw2 hvb qb50 qb51 qb52 HK
                    have x0 : w2.cell? ⟨vb, 0, none⟩ = some (.int .i32 (1048576 * (n : Int) + (i : Int) + 1)) := Ww2.out.cellAt 0
                    have f0 : w2.frozen? ⟨vb, 0, none⟩ = false := Ww2.out.free 0
                    have x1 : w2.cell? ⟨vb, 1, none⟩ = some (.int .i32 0) := Ww2.out.cellAt 1
                    have f1 : w2.frozen? ⟨vb, 1, none⟩ = false := Ww2.out.free 1
                    have x2 : w2.cell? ⟨vb, 2, none⟩ = some (.bool false) := Ww2.out.cellAt 2
                    have f2 : w2.frozen? ⟨vb, 2, none⟩ = false := Ww2.out.free 2
                    obtain ⟨e0, e1, e2, e3⟩ := HC.out w2 K2.out
                    obtain ⟨y0, y1, y2⟩ := HB5.out w2 K2.out
                    go_wp2_with fail
                    go_quiet (first | (go_at_call 82; refine Calls.quiet_of_same (numB_same n i _ (by omega) (by omega))))
                    go_wp2_with fail
                    obtain ⟨w3, hw3⟩ : ∃ z, z = ((((w2.drewN nq).setCell ⟨vb, 0, none⟩ (.int .i32 (1048576 * (n : Int) + (i : Int) + 1))).setCell ⟨vb, 1, none⟩ (.int .i32 0)).setCell ⟨vb, 2, none⟩ (.bool false)) := ⟨_, rfl⟩
                    have K3 : Hid (Keeps (fun _ => False) wq w3) := Lib.hid (by
                      rw [hw3]
                      have hk : Keeps (fun b => b = vb) (w2.drewN nq) ((((w2.drewN nq).setCell ⟨vb, 0, none⟩ (.int .i32 (1048576 * (n : Int) + (i : Int) + 1))).setCell ⟨vb, 1, none⟩ (.int .i32 0)).setCell ⟨vb, 2, none⟩ (.bool false)) := ((((Keeps.refl (fun b => b = vb) (w2.drewN nq)).setCell (p := ⟨vb, 0, none⟩) (fun _ => rfl) (.int .i32 (1048576 * (n : Int) + (i : Int) + 1))).setCell (p := ⟨vb, 1, none⟩) (fun _ => rfl) (.int .i32 0)).setCell (p := ⟨vb, 2, none⟩) (fun _ => rfl) (.bool false))
                      exact (K2.out.drewN nq).and hk (fun b hb e => by omega))
                    have Ww3 : Hid (Whole w3 vb 75 #[.int .i32 (1048576 * (n : Int) + (i : Int) + 1), .int .i32 0, .bool false]) := Lib.hid (by rw [hw3]; simpa using ((((Ww2.out.drewN nq).put 0 (.int .i32 (1048576 * (n : Int) + (i : Int) + 1))).put 1 (.int .i32 0)).put 2 (.bool false)))
                    rw [← hw3]
                    clear hw3 e0 e1 e2 e3 x0 x1 x2 f0 f1 f2 y0 y1 y2 K2 Ww2
                    have x0 : w3.cell? ⟨vb, 0, none⟩ = some (.int .i32 (1048576 * (n : Int) + (i : Int) + 1)) := Ww3.out.cellAt 0
                    have f0 : w3.frozen? ⟨vb, 0, none⟩ = false := Ww3.out.free 0
                    have x1 : w3.cell? ⟨vb, 1, none⟩ = some (.int .i32 0) := Ww3.out.cellAt 1
                    have f1 : w3.frozen? ⟨vb, 1, none⟩ = false := Ww3.out.free 1
                    have x2 : w3.cell? ⟨vb, 2, none⟩ = some (.bool false) := Ww3.out.cellAt 2
                    have f2 : w3.frozen? ⟨vb, 2, none⟩ = false := Ww3.out.free 2
                    go_wp2_with fail
                    go_quiet (first | (go_at_call 82; refine Calls.quiet_of_same (numB_same n i _ (by omega) (by omega))))
                    go_wp2_with fail
                    go_roundw
                    case rel => exact ⟨i + 1, by omega, by go_num, Lib.hid (K3.out.drewN _)⟩
                    case measure => (simp [intOf] <;> omega)
                  · obtain rfl : i = rl := h
                    obtain ⟨b3, hA, hD, d0⟩ := H3.out (i * 3 + 0) _ (mkP_at n _ i 0 (by omega) (by decide))
                    obtain rfl := hA
                    have hltb3 := HLT.out _ hD
                    have qb30 : wr.cell? ⟨b3, i * 3, none⟩ = some (.int .i32 (1048576 * (n : Int) + (i : Int) + 1)) := (HK.out.cell hltb3 id).trans d0
                    obtain ⟨b3', hA, _, d1⟩ := H3.out (i * 3 + 1) _ (mkP_at n _ i 1 (by omega) (by decide))
                    obtain rfl : b3 = b3' := by injection hA with hA; injection hA
                    have qb31 : wr.cell? ⟨b3, i * 3 + 1, none⟩ = some (.int .i32 0) := (HK.out.cell hltb3 id).trans d1
                    clear d1 hA
                    obtain ⟨b3', hA, _, d1⟩ := H3.out (i * 3 + 2) _ (mkP_at n _ i 2 (by omega) (by decide))
                    obtain rfl : b3 = b3' := by injection hA with hA; injection hA
                    have qb32 : wr.cell? ⟨b3, i * 3 + 2, none⟩ = some (.bool false) := (HK.out.cell hltb3 id).trans d1
                    clear d1 hA
                    clear d0 hD
                    have HB1 : ∀ W, Keeps (fun _ => False) wq W → W.cell? ⟨b3, i * 3, none⟩ = some (.int .i32 (1048576 * (n : Int) + (i : Int) + 1)) ∧ W.cell? ⟨b3, i * 3 + 1, none⟩ = some (.int .i32 0) ∧ W.cell? ⟨b3, i * 3 + 2, none⟩ = some (.bool false) := fun W hW => ⟨(hW.cell hltb3 id).trans ((HK.out.cell hltb3 id).symm.trans qb30), (hW.cell hltb3 id).trans ((HK.out.cell hltb3 id).symm.trans qb31), (hW.cell hltb3 id).trans ((HK.out.cell hltb3 id).symm.trans qb32)⟩
                    obtain ⟨z0, z1, z2⟩ := HB1 _ K1.out
                    clear HB1 qb30 qb31 qb32 hltb3
                    skip
                    have x0 : (wr.alloc (.cells #[.int .i32 (1048576 * (n : Int) + (i : Int) + 1), .int .i32 0, .bool false] 75)).cell? ⟨wr.heap.size, 0, none⟩ = some (.int .i32 (1048576 * (n : Int) + (i : Int) + 1)) := WV.out.cellAt 0
                    have f0 : (wr.alloc (.cells #[.int .i32 (1048576 * (n : Int) + (i : Int) + 1), .int .i32 0, .bool false] 75)).frozen? ⟨wr.heap.size, 0, none⟩ = false := WV.out.free 0
                    have x1 : (wr.alloc (.cells #[.int .i32 (1048576 * (n : Int) + (i : Int) + 1), .int .i32 0, .bool false] 75)).cell? ⟨wr.heap.size, 1, none⟩ = some (.int .i32 0) := WV.out.cellAt 1
                    have f1 : (wr.alloc (.cells #[.int .i32 (1048576 * (n : Int) + (i : Int) + 1), .int .i32 0, .bool false] 75)).frozen? ⟨wr.heap.size, 1, none⟩ = false := WV.out.free 1
                    have x2 : (wr.alloc (.cells #[.int .i32 (1048576 * (n : Int) + (i : Int) + 1), .int .i32 0, .bool false] 75)).cell? ⟨wr.heap.size, 2, none⟩ = some (.bool false) := WV.out.cellAt 2
                    have f2 : (wr.alloc (.cells #[.int .i32 (1048576 * (n : Int) + (i : Int) + 1), .int .i32 0, .bool false] 75)).frozen? ⟨wr.heap.size, 2, none⟩ = false := WV.out.free 2
                    go_wp2_with fail
                    clear x0 f0 z0 x1 f1 z1 x2 f2 z2
                    obtain ⟨w2, hw2⟩ : ∃ z, z = (wr.alloc (.cells #[.int .i32 (1048576 * (n : Int) + (i : Int) + 1), .int .i32 0, .bool false] 75)) := ⟨_, rfl⟩
                    rw [← hw2, ← hvb]
                    rw [← hw2] at K1
                    rw [← hw2, ← hvb] at WV
                    rw [← hvb] at hqv
                    have K2 := K1
                    have Ww2 := WV
                    clear K1 WV al5 c0 c1 c2 c3 e0 e1 e2 e3 hw2 hvb qb50 qb51 qb52 HK
                    have x0 : w2.cell? ⟨vb, 0, none⟩ = some (.int .i32 (1048576 * (n : Int) + (i : Int) + 1)) := Ww2.out.cellAt 0
                    have f0 : w2.frozen? ⟨vb, 0, none⟩ = false := Ww2.out.free 0
                    have x1 : w2.cell? ⟨vb, 1, none⟩ = some (.int .i32 0) := Ww2.out.cellAt 1
                    have f1 : w2.frozen? ⟨vb, 1, none⟩ = false := Ww2.out.free 1
                    have x2 : w2.cell? ⟨vb, 2, none⟩ = some (.bool false) := Ww2.out.cellAt 2
                    have f2 : w2.frozen? ⟨vb, 2, none⟩ = false := Ww2.out.free 2
                    obtain ⟨e0, e1, e2, e3⟩ := HC.out w2 K2.out
                    obtain ⟨y0, y1, y2⟩ := HB5.out w2 K2.out
                    go_wp2_with fail
                    go_quiet (first | (go_at_call 82; refine Calls.quiet_of_same (numB_same n i _ (by omega) (by omega))))
                    go_wp2_with fail
                    obtain ⟨w3, hw3⟩ : ∃ z, z = ((((w2.drewN nq).setCell ⟨vb, 0, none⟩ (.int .i32 (1048576 * (n : Int) + (i : Int) + 1))).setCell ⟨vb, 1, none⟩ (.int .i32 0)).setCell ⟨vb, 2, none⟩ (.bool false)) := ⟨_, rfl⟩
                    have K3 : Hid (Keeps (fun _ => False) wq w3) := Lib.hid (by
                      rw [hw3]
                      have hk : Keeps (fun b => b = vb) (w2.drewN nq) ((((w2.drewN nq).setCell ⟨vb, 0, none⟩ (.int .i32 (1048576 * (n : Int) + (i : Int) + 1))).setCell ⟨vb, 1, none⟩ (.int .i32 0)).setCell ⟨vb, 2, none⟩ (.bool false)) := ((((Keeps.refl (fun b => b = vb) (w2.drewN nq)).setCell (p := ⟨vb, 0, none⟩) (fun _ => rfl) (.int .i32 (1048576 * (n : Int) + (i : Int) + 1))).setCell (p := ⟨vb, 1, none⟩) (fun _ => rfl) (.int .i32 0)).setCell (p := ⟨vb, 2, none⟩) (fun _ => rfl) (.bool false))
                      exact (K2.out.drewN nq).and hk (fun b hb e => by omega))
                    have Ww3 : Hid (Whole w3 vb 75 #[.int .i32 (1048576 * (n : Int) + (i : Int) + 1), .int .i32 0, .bool false]) := Lib.hid (by rw [hw3]; simpa using ((((Ww2.out.drewN nq).put 0 (.int .i32 (1048576 * (n : Int) + (i : Int) + 1))).put 1 (.int .i32 0)).put 2 (.bool false)))
                    rw [← hw3]
                    clear hw3 e0 e1 e2 e3 x0 x1 x2 f0 f1 f2 y0 y1 y2 K2 Ww2
                    have x0 : w3.cell? ⟨vb, 0, none⟩ = some (.int .i32 (1048576 * (n : Int) + (i : Int) + 1)) := Ww3.out.cellAt 0
                    have f0 : w3.frozen? ⟨vb, 0, none⟩ = false := Ww3.out.free 0
                    have x1 : w3.cell? ⟨vb, 1, none⟩ = some (.int .i32 0) := Ww3.out.cellAt 1
                    have f1 : w3.frozen? ⟨vb, 1, none⟩ = false := Ww3.out.free 1
                    have x2 : w3.cell? ⟨vb, 2, none⟩ = some (.bool false) := Ww3.out.cellAt 2
                    have f2 : w3.frozen? ⟨vb, 2, none⟩ = false := Ww3.out.free 2
                    go_wp2_with fail
                    go_quiet (first | (go_at_call 82; refine Calls.quiet_of_same (numB_same n i _ (by omega) (by omega))))
                    go_wp2_with fail
                    go_roundw
                    case rel => exact ⟨i + 1, by omega, by go_num, Lib.hid (K3.out.drewN _)⟩
                    case measure => (simp [intOf] <;> omega)
                  · skip
                    have hne : ¬ ((i : Int) = (rl : Int)) := by omega
                    have hge : ¬ ((i : Int) < (rl : Int)) := by omega
                    go_wp2_with fail
                    obtain ⟨w2, hw2⟩ : ∃ z, z = (wr.alloc (.cells #[.int .i32 (1048576 * (n : Int) + (i : Int) + 1), .int .i32 0, .bool false] 75)) := ⟨_, rfl⟩
                    rw [← hw2, ← hvb]
                    rw [← hw2] at K1
                    rw [← hw2, ← hvb] at WV
                    rw [← hvb] at hqv
                    have K2 := K1
                    have Ww2 := WV
                    clear K1 WV al5 c0 c1 c2 c3 e0 e1 e2 e3 hw2 hvb qb50 qb51 qb52 HK
                    have x0 : w2.cell? ⟨vb, 0, none⟩ = some (.int .i32 (1048576 * (n : Int) + (i : Int) + 1)) := Ww2.out.cellAt 0
                    have f0 : w2.frozen? ⟨vb, 0, none⟩ = false := Ww2.out.free 0
                    have x1 : w2.cell? ⟨vb, 1, none⟩ = some (.int .i32 0) := Ww2.out.cellAt 1
                    have f1 : w2.frozen? ⟨vb, 1, none⟩ = false := Ww2.out.free 1
                    have x2 : w2.cell? ⟨vb, 2, none⟩ = some (.bool false) := Ww2.out.cellAt 2
                    have f2 : w2.frozen? ⟨vb, 2, none⟩ = false := Ww2.out.free 2
                    obtain ⟨e0, e1, e2, e3⟩ := HC.out w2 K2.out
                    obtain ⟨y0, y1, y2⟩ := HB5.out w2 K2.out
                    go_wp2_with fail
                    go_quiet (first | (go_at_call 82; refine Calls.quiet_of_same (numB_same n i _ (by omega) (by omega))))
                    go_wp2_with fail
                    obtain ⟨w3, hw3⟩ : ∃ z, z = ((((w2.drewN nq).setCell ⟨vb, 0, none⟩ (.int .i32 (1048576 * (n : Int) + (i : Int) + 1))).setCell ⟨vb, 1, none⟩ (.int .i32 0)).setCell ⟨vb, 2, none⟩ (.bool false)) := ⟨_, rfl⟩
                    have K3 : Hid (Keeps (fun _ => False) wq w3) := Lib.hid (by
                      rw [hw3]
                      have hk : Keeps (fun b => b = vb) (w2.drewN nq) ((((w2.drewN nq).setCell ⟨vb, 0, none⟩ (.int .i32 (1048576 * (n : Int) + (i : Int) + 1))).setCell ⟨vb, 1, none⟩ (.int .i32 0)).setCell ⟨vb, 2, none⟩ (.bool false)) := ((((Keeps.refl (fun b => b = vb) (w2.drewN nq)).setCell (p := ⟨vb, 0, none⟩) (fun _ => rfl) (.int .i32 (1048576 * (n : Int) + (i : Int) + 1))).setCell (p := ⟨vb, 1, none⟩) (fun _ => rfl) (.int .i32 0)).setCell (p := ⟨vb, 2, none⟩) (fun _ => rfl) (.bool false))
                      exact (K2.out.drewN nq).and hk (fun b hb e => by omega))
                    have Ww3 : Hid (Whole w3 vb 75 #[.int .i32 (1048576 * (n : Int) + (i : Int) + 1), .int .i32 0, .bool false]) := Lib.hid (by rw [hw3]; simpa using ((((Ww2.out.drewN nq).put 0 (.int .i32 (1048576 * (n : Int) + (i : Int) + 1))).put 1 (.int .i32 0)).put 2 (.bool false)))
                    rw [← hw3]
                    clear hw3 e0 e1 e2 e3 x0 x1 x2 f0 f1 f2 y0 y1 y2 K2 Ww2
                    have x0 : w3.cell? ⟨vb, 0, none⟩ = some (.int .i32 (1048576 * (n : Int) + (i : Int) + 1)) := Ww3.out.cellAt 0
                    have f0 : w3.frozen? ⟨vb, 0, none⟩ = false := Ww3.out.free 0
                    have x1 : w3.cell? ⟨vb, 1, none⟩ = some (.int .i32 0) := Ww3.out.cellAt 1
                    have f1 : w3.frozen? ⟨vb, 1, none⟩ = false := Ww3.out.free 1
                    have x2 : w3.cell? ⟨vb, 2, none⟩ = some (.bool false) := Ww3.out.cellAt 2
                    have f2 : w3.frozen? ⟨vb, 2, none⟩ = false := Ww3.out.free 2
                    go_wp2_with fail
                    go_quiet (first | (go_at_call 82; refine Calls.quiet_of_same (numB_same n i _ (by omega) (by omega))))
                    go_wp2_with fail
                    go_roundw
                    case rel => exact ⟨i + 1, by omega, by go_num, Lib.hid (K3.out.drewN _)⟩
                    case measure => (simp [intOf] <;> omega)
                · obtain rfl : i = rl + 70 := by omega
                  go_wp2_with fail
                  go_roundw
                  case rel => exact ⟨n + 1, by omega, by go_num, HK⟩
                  case measure => (simp [intOf] <;> omega)
            · obtain rfl : n = rows.length := by omega
              have HK2 := Lib.hid (HG.out.keeps.trans (HK.out.mono (T := blks rows) (fun _ _ h => h.elim)))
              go_wp2_with fail
              go_ret
              exact ⟨rfl, HK2.out⟩
end Go.Proofs.YthmfbcfbcookiaaDoor
/-
  The bag: its lists of cards, marked, gone on with and looked at: the walk. Conditions: no two of them lie in one block; lengths within 10 ^ 9.
-/
namespace Go.Proofs.YthmfbcfbcookiaaDoor
open Go.RowKit
theorem info_cdB : (Tryd.prog.info? 78).map (fun i => (i.zero, i.size, i.bytes)) = some (some (.agg #[.int .i64 0, .int .i64 0, .int .i32 0, .int .i32 0, .int .i32 0, .int .i32 0]), 6, 32) := by kernel_rfl
theorem info_cdsB : (Tryd.prog.info? 23).map (fun i => (i.zero, i.size, i.bytes)) = some (some (.slice none 0 0), 1, 24) := by kernel_rfl
/-- The mark i of the list n. -/
def mkC (n i : Nat) : List Value := [.int .i64 (1048576 * (n : Int) + (i : Int) + 1), .int .i64 0, .int .i32 0, .int .i32 0, .int .i32 0, .int .i32 0]
theorem mkC_length (n i : Nat) : (mkC n i).length = 6 := rfl
theorem mkC_add (n l m : Nat) : mkC n (l + m) = [.int .i64 (1048576 * (n : Int) + ((l : Int) + (m : Int)) + 1), .int .i64 0, .int .i32 0, .int .i32 0, .int .i32 0, .int .i32 0] := by unfold mkC; rw [Int.natCast_add]
theorem mkC_at (k m i j : Nat) (h : i < m) (hj : j < 6) : (marks mkC k m)[i * 6 + j]? = (mkC k i)[j]? := marks_get mkC mkC_length k m i j h hj
theorem mkC_oneCell (k i : Nat) : ∀ u ∈ mkC k i, u.oneCell' = true := by
  intro u hu
  simp only [mkC, List.mem_cons, List.mem_nil_iff, or_false] at hu
  rcases hu with rfl | rfl | rfl | rfl | rfl | rfl <;> rfl
set_option maxRecDepth 100000 in
set_option maxHeartbeats 2000000 in
theorem apartCards_any (p gO capO : Nat) (rows : List Sl) (w : World) (hF : BagFix w p 8 gO capO rows) (hR : SlRows 78 6 rows w) (hn : rows.length ≤ 400) (hl : ∀ (k : Nat) (r : Sl), rows[k]? = some r → r.len ≤ 1000000000) :
    Calls Tryd.prog 53 #[.pointer (some ⟨p, 0, none⟩)] w fun e w' => e = .returned (.bool true) ∧ Keeps (blks rows) w w' := by
  have HF := Lib.hid hF
  have HAp := Lib.hid hR.apart
  have HM0 : Hid (Marked mkC 78 6 rows w w 0) := Lib.hid (Marked.start hR (Keeps.refl _ _))
  have HL := Lib.hid hl
  clear hl hR
  have c0 := hF.hp
  go_enter Tryd.func53, Tryd.ntmps53
  go_wp2_with fail
  clear c0
  go_loopw [3] (fun v wr => ∃ n : Nat, n ≤ rows.length ∧ v = .int .i64 n ∧ Hid (Marked mkC 78 6 rows w wr n)) (fun v _ => rows.length - (intOf v).toNat)
  case atStart => exact ⟨0, by omega, rfl, HM0⟩
  case round =>
    clear HM0 hF
    obtain ⟨n, hnr, rfl, HM⟩ := hrel
    have HFr := Lib.hid (HF.out.keeps HM.out.keeps)
    have c0 := HFr.out.hp
    by_cases hlt : n < rows.length
    · obtain ⟨r, hr⟩ : ∃ r, rows[n]? = some r := ⟨_, List.getElem?_eq_getElem hlt⟩
      have c1 := HFr.out.hO n r hr
      have HI0 := Lib.hid (HM.out.enter hr)
      have hrl := HL.out n r hr
      have HRr := Lib.hid hr
      obtain ⟨ra, rl, rc⟩ := r
      clear HM hr
      go_wp2_with fail
      clear c0 c1
      go_loopw [4] (fun v wr => ∃ i : Nat, i ≤ rl ∧ v = .int .i64 i ∧ Hid (MarkedIn mkC 78 6 rows w wr n i ⟨ra, rl, rc⟩)) (fun v _ => rl - (intOf v).toNat)
      case atStart => exact ⟨0, by omega, rfl, HI0⟩
      case round =>
        clear HI0 HFr
        obtain ⟨i, hir, rfl, HI⟩ := hrel
        have HFr := Lib.hid (HF.out.keeps HI.out.keeps)
        have c0 := HFr.out.hp
        have c1 := HFr.out.hO n _ HRr.out
        by_cases hil : i < rl
        · obtain ⟨g, cs, hg, hW, hsz⟩ := HI.out.cell hil
          obtain rfl : ra = some ⟨g, 0, none⟩ := hg
          have hil3 : i * 6 + 6 ≤ rl * 6 := by omega
          have hsz' : rl * 6 ≤ cs.size := hsz
          obtain ⟨u0, hu0⟩ : ∃ u, wr.cell? ⟨g, i * 6, none⟩ = some u := ⟨_, (hW.cellAt _).trans (Array.getElem?_eq_getElem (by omega))⟩
          have hf0 := hW.free (i * 6)
          obtain ⟨u1, hu1⟩ : ∃ u, wr.cell? ⟨g, i * 6 + 1, none⟩ = some u := ⟨_, (hW.cellAt _).trans (Array.getElem?_eq_getElem (by omega))⟩
          have hf1 := hW.free (i * 6 + 1)
          obtain ⟨u2, hu2⟩ : ∃ u, wr.cell? ⟨g, i * 6 + 2, none⟩ = some u := ⟨_, (hW.cellAt _).trans (Array.getElem?_eq_getElem (by omega))⟩
          have hf2 := hW.free (i * 6 + 2)
          obtain ⟨u3, hu3⟩ : ∃ u, wr.cell? ⟨g, i * 6 + 3, none⟩ = some u := ⟨_, (hW.cellAt _).trans (Array.getElem?_eq_getElem (by omega))⟩
          have hf3 := hW.free (i * 6 + 3)
          obtain ⟨u4, hu4⟩ : ∃ u, wr.cell? ⟨g, i * 6 + 4, none⟩ = some u := ⟨_, (hW.cellAt _).trans (Array.getElem?_eq_getElem (by omega))⟩
          have hf4 := hW.free (i * 6 + 4)
          obtain ⟨u5, hu5⟩ : ∃ u, wr.cell? ⟨g, i * 6 + 5, none⟩ = some u := ⟨_, (hW.cellAt _).trans (Array.getElem?_eq_getElem (by omega))⟩
          have hf5 := hW.free (i * 6 + 5)
          clear hW hsz hsz'
          have HP : Hid (MarkedIn mkC 78 6 rows w ((((((wr.setCell ⟨g, i * 6, none⟩ (.int .i64 (1048576 * (n : Int) + (i : Int) + 1))).setCell ⟨g, i * 6 + 1, none⟩ (.int .i64 0)).setCell ⟨g, i * 6 + 2, none⟩ (.int .i32 0)).setCell ⟨g, i * 6 + 3, none⟩ (.int .i32 0)).setCell ⟨g, i * 6 + 4, none⟩ (.int .i32 0)).setCell ⟨g, i * 6 + 5, none⟩ (.int .i32 0)) n (i + 1) ⟨some ⟨g, 0, none⟩, rl, rc⟩) := Lib.hid (HI.out.puts (vs := mkC n i) HRr.out HAp.out hil rfl rfl rfl)
          clear HI
          go_wp2_with fail
          go_region_with (first | (go_at_call 82; refine (numB_any n i _ (by omega) (by omega)).mono ?_; rintro e w1 ⟨rfl, rfl⟩))
          all_goals
            go_wp2_with fail
            go_roundw
            case rel => exact ⟨i + 1, by omega, by go_num, Lib.hid HP.out.drew⟩
            case measure => (simp [intOf] <;> omega)
        · obtain rfl : i = rl := by omega
          have HM := Lib.hid (HI.out.leave HRr.out)
          clear HI
          go_wp2_with fail
          go_roundw
          case rel => exact ⟨n + 1, by omega, by go_num, HM⟩
          case measure => (simp [intOf] <;> omega)
    · obtain rfl : n = rows.length := by omega
      have HG0 := Lib.hid (Going.start (eo := 23) (base := wr.heap.size) HM.out rfl)
      have hb0 := HM.out.keeps.size
      clear hlt HM HFr
      go_wp2_with fail
      clear c0
      generalize wr.heap.size = base at *
      go_loopw [5, 6, 7] (fun vo vm v wq => ∃ (n : Nat) (ov mv : Value) (ones mores : List Value) (D : Nat → Prop), n ≤ rows.length ∧ v = .int .i64 n ∧ ov = vo ∧ mv = vm ∧ Hid (Going mkC 78 23 6 base rows w wq n ov mv ones mores D)) (fun _ _ v _ => rows.length - (intOf v).toNat)
      case atStart => exact ⟨0, _, _, [], [], fun _ => False, by omega, rfl, rfl, rfl, HG0⟩
      case round =>
        clear HG0
        obtain ⟨n, ov, mv, ones, mores, D, hnr, rfl, rfl, rfl, HG⟩ := hrel
        have HFr := Lib.hid (HF.out.keeps HG.out.keeps)
        have c0 := HFr.out.hp
        by_cases hlt : n < rows.length
        · obtain ⟨r, hr⟩ : ∃ r, rows[n]? = some r := ⟨_, List.getElem?_eq_getElem hlt⟩
          have c1 := HFr.out.hO n r hr
          have HI0 := Lib.hid (HG.out.enter HAp.out hr)
          have hrl := HL.out n r hr
          have HRr := Lib.hid hr
          obtain ⟨ra, rl, rc⟩ := r
          clear HG hr HFr
          go_wp2_with fail
          clear c0 c1
          go_loopw [5, 8, 9] (fun vo vl v wq => ∃ (m c lcap : Nat) (lA : Option Addr) (ones : List Value) (E : Nat → Prop), m ≤ 70 ∧ v = .int .i64 ((rl : Int) + (m : Int)) ∧ vl = .slice lA (rl + m) lcap ∧ c = (if m = 0 then n else n + 1) ∧ Hid (GoingIn mkC 78 23 6 base rows w wq n m c vo mv vl ones mores D E ⟨ra, rl, rc⟩)) (fun _ _ v _ => (rl : Int).toNat + 70 - (intOf v).toNat)
          case atStart => exact ⟨0, n, rc, ra, ones, _, by omega, by simp, rfl, rfl, HI0⟩
          case round =>
            clear HI0
            obtain ⟨m, c, lcap, lA, ones, E, hm, rfl, rfl, hc, HI⟩ := hrel
            have HFr := Lib.hid (HF.out.keeps HI.out.keeps)
            have c0 := HFr.out.hp
            have c1 := HFr.out.hO n _ HRr.out
            clear HFr
            obtain ⟨wq, rfl⟩ : ∃ wq : World, wq = wr := ⟨_, rfl⟩
            by_cases hm0 : m = 0
            · subst hm0
              obtain rfl : c = n := by simpa using hc
              clear hc hm
              go_wp2_with fail
              refine (numB_any c _ _ (by omega) (by omega)).mono ?_
              rintro e w1 ⟨rfl, rfl⟩
              have own0 : Hid (wq.ownsRow 0 78 6 (.slice lA rl lcap) rl (marks mkC c rl)) := Lib.hid HI.out.own
              go_wp2_with (first
                | (at_builtin; (refine wpList_append_cells _ rfl (.tmp 79) (.tmp 84) 23 rfl 0 78 (.agg #[.int .i64 0, .int .i64 0, .int .i32 0, .int .i32 0, .int .i32 0, .int .i32 0]) 6 32 Tryd.underlying23 info_cdB rfl (by decide) _ (rl) _ rfl (own0.out.alloc _) (wq.heap.size + 1) (some ⟨wq.heap.size, 0, none⟩) 1 1 (mkC c rl) rfl (by exact Lies.row (t := 78) (fr := (0, 0)) (heap_alloc_new wq _) (by simp)) rfl (mkC_oneCell _ _) (by unfold maxLen; omega) (by omega) (by simp) ?_); intro A' cap' w1 h1 h2 h3 _ h4; obtain ⟨E1, hI1⟩ := HI.out.pushed mkC_length h1 h2 h3 h4; have HI1 := Lib.hid hI1; have HF1 := Lib.hid (HF.out.keeps hI1.keeps); clear h1 h2 h3 h4 hI1 c0 c1; have d0 := HF1.out.hp; have d1 := HF1.out.hO c _ HRr.out)
                | (at_builtin; (refine wpList_append_cells _ rfl (.tmp 96) (.tmp 98) 56 rfl base 23 (.slice none 0 0) 1 24 Tryd.underlying56 info_cdsB rfl (by decide) _ c _ rfl (HI1.out.one.alloc _) (w1.heap.size + 1) (some ⟨w1.heap.size, 0, none⟩) 1 1 [.slice A' (rl + 1) cap'] rfl (Lies.row (t := 23) (fr := (0, 0)) (heap_alloc_new w1 _) (by simp)) rfl (by simp [Value.oneCell']) (by unfold maxLen; omega) (by omega) (by have := HI1.out.big; simp; omega) ?_); intro A2 cap2 w2 h1 h2 h3 _ h4; have HI2 := Lib.hid (HI1.out.took hb0 rfl (pushed_of HI1.out.one h1 h2 h3 h4)); clear h1 h2 h3 h4 HI1))
              go_roundw
              case rel => exact ⟨1, c + 1, cap', A', _, E1, by omega, by go_num, rfl, rfl, HI2⟩
              case measure => (simp [intOf] <;> omega)
            · obtain rfl : c = n + 1 := by rw [if_neg hm0] at hc; exact hc
              clear hc
              by_cases hm7 : m < 70
              · have hne : ¬ ((rl : Int) + (m : Int) = (rl : Int)) := by omega
                go_wp2_with fail
                refine (numB_any n _ _ (by omega) (by omega)).mono ?_
                rintro e w1 ⟨rfl, rfl⟩
                go_wp2_with (at_builtin; (refine wpList_append_cells _ rfl (.tmp 79) (.tmp 84) 23 rfl 0 78 (.agg #[.int .i64 0, .int .i64 0, .int .i32 0, .int .i32 0, .int .i32 0, .int .i32 0]) 6 32 Tryd.underlying23 info_cdB rfl (by decide) _ (rl + m) _ rfl (HI.out.own.alloc _) (wq.heap.size + 1) (some ⟨wq.heap.size, 0, none⟩) 1 1 (mkC n (rl + m)) rfl (by rw [mkC_add]; exact Lies.row (t := 78) (fr := (0, 0)) (heap_alloc_new wq _) (by simp)) rfl (mkC_oneCell _ _) (by unfold maxLen; omega) (by omega) (by simp) ?_); intro A' cap' w1 h1 h2 h3 _ h4; obtain ⟨E1, hI1⟩ := HI.out.pushed mkC_length h1 h2 h3 h4; have HI1 := Lib.hid hI1; have HF1 := Lib.hid (HF.out.keeps hI1.keeps); clear h1 h2 h3 h4 hI1 c0 c1; have d0 := HF1.out.hp; have d1 := HF1.out.hO n _ HRr.out)
                go_roundw
                case rel => exact ⟨m + 1, n + 1, cap', A', _, E1, by omega, by go_num, rfl, rfl, HI1⟩
                case measure => (simp [intOf] <;> omega)
              · obtain rfl : m = 70 := by omega
                clear hm hm0 hm7
                go_wp2_with (at_builtin; (refine wpList_append_cells _ rfl (.tmp 100) (.tmp 102) 56 rfl base 23 (.slice none 0 0) 1 24 Tryd.underlying56 info_cdsB rfl (by decide) _ n _ rfl (HI.out.more.alloc _) (wq.heap.size + 1) (some ⟨wq.heap.size, 0, none⟩) 1 1 [.slice lA (rl + 70) lcap] rfl (Lies.row (t := 23) (fr := (0, 0)) (heap_alloc_new wq _) (by simp)) rfl (by simp [Value.oneCell']) (by unfold maxLen; omega) (by omega) (by have := HI.out.big; simp; omega) ?_); intro A2 cap2 w2 h1 h2 h3 _ h4; have HG := Lib.hid (HI.out.leave HRr.out hb0 rfl (pushed_of HI.out.more h1 h2 h3 h4)); clear h1 h2 h3 h4 HI)
                go_roundw
                case rel => exact ⟨n + 1, _, _, _, _, _, by omega, by go_num, rfl, rfl, HG⟩
                case measure => (simp [intOf] <;> omega)
        · obtain rfl : n = rows.length := by omega
          clear hlt hb0
          obtain ⟨wq, rfl⟩ : ∃ wq : World, wq = wr := ⟨_, rfl⟩
          obtain ⟨mA, mcap, rfl, _, _⟩ := own_slice HG.out.more
          obtain ⟨oA, ocap, rfl, _, _⟩ := own_slice HG.out.one
          have HLm := Lib.hid (own_lies HG.out.more)
          have HLo := Lib.hid (own_lies HG.out.one)
          go_wp2_with fail
          clear c0
          go_loopw [10] (fun v wr => ∃ n : Nat, n ≤ rows.length ∧ v = .int .i64 n ∧ Hid (Keeps (fun _ => False) wq wr)) (fun v _ => rows.length - (intOf v).toNat)
          case atStart => exact ⟨0, by omega, rfl, Lib.hid (Keeps.refl _ _)⟩
          case round =>
            obtain ⟨n, hn2, rfl, HK⟩ := hrel
            by_cases hlt : n < rows.length
            · obtain ⟨r, hr⟩ : ∃ r, rows[n]? = some r := ⟨_, List.getElem?_eq_getElem hlt⟩
              obtain ⟨h1, ⟨a, c, h2, h3⟩, a', c', h4, h5⟩ := HG.out.did n hlt r hr
              obtain ⟨gm, om, rfl, hgm, hcm⟩ := HLm.out n _ h4
              obtain ⟨go, oo, rfl, hgo, hco⟩ := HLo.out n _ h2
              have hrl := HL.out n r hr
              have c0 := HFr.out.hp
              have c1 := HFr.out.hO n r hr
              have HLT := Lib.hid HG.out.lt
              have hF := HFr.out.lt
              obtain ⟨ra, rl, rc⟩ := r
              have H1 := Lib.hid h1; have H3 := Lib.hid h3; have H5 := Lib.hid h5
              have HC : Hid (∀ W, Keeps (fun _ => False) wq W → W.cell? ⟨p, 8, none⟩ = some (.slice (some ⟨gO, 0, none⟩) rows.length capO) ∧ W.cell? ⟨gO, n, none⟩ = some (.slice ra rl rc) ∧ W.cell? ⟨gm, om + n, none⟩ = some (.slice a' (rl + 70) c') ∧ W.cell? ⟨go, oo + n, none⟩ = some (.slice a (rl + 1) c)) := Lib.hid (fun W hW => ⟨(hW.cell hF.1 id).trans c0, (hW.cell hF.2 id).trans c1, (hW.cell hgm id).trans hcm, (hW.cell hgo id).trans hco⟩)
              clear h1 h2 h3 h4 h5 hr c0 c1 hcm hco hgm hgo
              obtain ⟨c0, c1, c2, c3⟩ := HC.out wr HK.out
              go_wp2_with fail
              clear c0 c1 c2 c3
              go_loopw [11] (fun v wr => ∃ i : Nat, i ≤ rl + 70 ∧ v = .int .i64 i ∧ Hid (Keeps (fun _ => False) wq wr)) (fun v _ => rl + 70 - (intOf v).toNat)
              case atStart => exact ⟨0, by omega, rfl, HK⟩
              case round =>
                clear HK
                obtain ⟨i, hi, rfl, HK⟩ := hrel
                obtain ⟨c0, c1, c2, c3⟩ := HC.out wr HK.out
                by_cases hil : i < rl + 70
                · skip
                  obtain ⟨b5, hA, hD, d0⟩ := H5.out (i * 6 + 0) _ (mkC_at n _ i 0 (by omega) (by decide))
                  obtain rfl := hA
                  have hltb5 := HLT.out _ hD
                  have qb50 : wr.cell? ⟨b5, i * 6, none⟩ = some (.int .i64 (1048576 * (n : Int) + (i : Int) + 1)) := (HK.out.cell hltb5 id).trans d0
                  obtain ⟨b5', hA, _, d1⟩ := H5.out (i * 6 + 1) _ (mkC_at n _ i 1 (by omega) (by decide))
                  obtain rfl : b5 = b5' := by injection hA with hA; injection hA
                  have qb51 : wr.cell? ⟨b5, i * 6 + 1, none⟩ = some (.int .i64 0) := (HK.out.cell hltb5 id).trans d1
                  clear d1 hA
                  obtain ⟨b5', hA, _, d1⟩ := H5.out (i * 6 + 2) _ (mkC_at n _ i 2 (by omega) (by decide))
                  obtain rfl : b5 = b5' := by injection hA with hA; injection hA
                  have qb52 : wr.cell? ⟨b5, i * 6 + 2, none⟩ = some (.int .i32 0) := (HK.out.cell hltb5 id).trans d1
                  clear d1 hA
                  obtain ⟨b5', hA, _, d1⟩ := H5.out (i * 6 + 3) _ (mkC_at n _ i 3 (by omega) (by decide))
                  obtain rfl : b5 = b5' := by injection hA with hA; injection hA
                  have qb53 : wr.cell? ⟨b5, i * 6 + 3, none⟩ = some (.int .i32 0) := (HK.out.cell hltb5 id).trans d1
                  clear d1 hA
                  obtain ⟨b5', hA, _, d1⟩ := H5.out (i * 6 + 4) _ (mkC_at n _ i 4 (by omega) (by decide))
                  obtain rfl : b5 = b5' := by injection hA with hA; injection hA
                  have qb54 : wr.cell? ⟨b5, i * 6 + 4, none⟩ = some (.int .i32 0) := (HK.out.cell hltb5 id).trans d1
                  clear d1 hA
                  obtain ⟨b5', hA, _, d1⟩ := H5.out (i * 6 + 5) _ (mkC_at n _ i 5 (by omega) (by decide))
                  obtain rfl : b5 = b5' := by injection hA with hA; injection hA
                  have qb55 : wr.cell? ⟨b5, i * 6 + 5, none⟩ = some (.int .i32 0) := (HK.out.cell hltb5 id).trans d1
                  clear d1 hA
                  clear d0 hD
                  have al5 : ∀ o, (wr.alloc o).cell? ⟨b5, i * 6, none⟩ = some (.int .i64 (1048576 * (n : Int) + (i : Int) + 1)) ∧ (wr.alloc o).cell? ⟨b5, i * 6 + 1, none⟩ = some (.int .i64 0) ∧ (wr.alloc o).cell? ⟨b5, i * 6 + 2, none⟩ = some (.int .i32 0) ∧ (wr.alloc o).cell? ⟨b5, i * 6 + 3, none⟩ = some (.int .i32 0) ∧ (wr.alloc o).cell? ⟨b5, i * 6 + 4, none⟩ = some (.int .i32 0) ∧ (wr.alloc o).cell? ⟨b5, i * 6 + 5, none⟩ = some (.int .i32 0) := fun o => ⟨(World.cell?_alloc_lt wr o ⟨b5, i * 6, none⟩ (World.block_lt_of_cell? wr _ qb50)).trans qb50, (World.cell?_alloc_lt wr o ⟨b5, i * 6 + 1, none⟩ (World.block_lt_of_cell? wr _ qb51)).trans qb51, (World.cell?_alloc_lt wr o ⟨b5, i * 6 + 2, none⟩ (World.block_lt_of_cell? wr _ qb52)).trans qb52, (World.cell?_alloc_lt wr o ⟨b5, i * 6 + 3, none⟩ (World.block_lt_of_cell? wr _ qb53)).trans qb53, (World.cell?_alloc_lt wr o ⟨b5, i * 6 + 4, none⟩ (World.block_lt_of_cell? wr _ qb54)).trans qb54, (World.cell?_alloc_lt wr o ⟨b5, i * 6 + 5, none⟩ (World.block_lt_of_cell? wr _ qb55)).trans qb55⟩
                  have K1 : Hid (Keeps (fun _ => False) wq (wr.alloc (.cells #[.int .i64 (1048576 * (n : Int) + (i : Int) + 1), .int .i64 0, .int .i32 0, .int .i32 0, .int .i32 0, .int .i32 0] 78))) := Lib.hid (HK.out.alloc _)
                  have WV : Hid (Whole (wr.alloc (.cells #[.int .i64 (1048576 * (n : Int) + (i : Int) + 1), .int .i64 0, .int .i32 0, .int .i32 0, .int .i32 0, .int .i32 0] 78)) wr.heap.size 78 #[.int .i64 (1048576 * (n : Int) + (i : Int) + 1), .int .i64 0, .int .i32 0, .int .i32 0, .int .i32 0, .int .i32 0]) := Lib.hid (Whole.made _ _ _)
                  obtain ⟨e0, e1, e2, e3⟩ := HC.out _ K1.out
                  have hqv : wq.heap.size ≤ wr.heap.size := HK.out.size
                  obtain ⟨vb, hvb⟩ : ∃ z, z = wr.heap.size := ⟨_, rfl⟩
                  have HB5 : Hid (∀ W, Keeps (fun _ => False) wq W → W.cell? ⟨b5, i * 6, none⟩ = some (.int .i64 (1048576 * (n : Int) + (i : Int) + 1)) ∧ W.cell? ⟨b5, i * 6 + 1, none⟩ = some (.int .i64 0) ∧ W.cell? ⟨b5, i * 6 + 2, none⟩ = some (.int .i32 0) ∧ W.cell? ⟨b5, i * 6 + 3, none⟩ = some (.int .i32 0) ∧ W.cell? ⟨b5, i * 6 + 4, none⟩ = some (.int .i32 0) ∧ W.cell? ⟨b5, i * 6 + 5, none⟩ = some (.int .i32 0)) := Lib.hid (fun W hW => ⟨(hW.cell hltb5 id).trans ((HK.out.cell hltb5 id).symm.trans qb50), (hW.cell hltb5 id).trans ((HK.out.cell hltb5 id).symm.trans qb51), (hW.cell hltb5 id).trans ((HK.out.cell hltb5 id).symm.trans qb52), (hW.cell hltb5 id).trans ((HK.out.cell hltb5 id).symm.trans qb53), (hW.cell hltb5 id).trans ((HK.out.cell hltb5 id).symm.trans qb54), (hW.cell hltb5 id).trans ((HK.out.cell hltb5 id).symm.trans qb55)⟩)
                  rcases Nat.lt_trichotomy i rl with h | h | h
                  · skip
                    obtain ⟨b1, hA, hD, d0⟩ := H1.out (i * 6 + 0) _ (mkC_at n _ i 0 (by omega) (by decide))
                    obtain rfl := hA
                    have hltb1 := HLT.out _ hD
                    have qb10 : wr.cell? ⟨b1, i * 6, none⟩ = some (.int .i64 (1048576 * (n : Int) + (i : Int) + 1)) := (HK.out.cell hltb1 id).trans d0
                    obtain ⟨b1', hA, _, d1⟩ := H1.out (i * 6 + 1) _ (mkC_at n _ i 1 (by omega) (by decide))
                    obtain rfl : b1 = b1' := by injection hA with hA; injection hA
                    have qb11 : wr.cell? ⟨b1, i * 6 + 1, none⟩ = some (.int .i64 0) := (HK.out.cell hltb1 id).trans d1
                    clear d1 hA
                    obtain ⟨b1', hA, _, d1⟩ := H1.out (i * 6 + 2) _ (mkC_at n _ i 2 (by omega) (by decide))
                    obtain rfl : b1 = b1' := by injection hA with hA; injection hA
                    have qb12 : wr.cell? ⟨b1, i * 6 + 2, none⟩ = some (.int .i32 0) := (HK.out.cell hltb1 id).trans d1
                    clear d1 hA
                    obtain ⟨b1', hA, _, d1⟩ := H1.out (i * 6 + 3) _ (mkC_at n _ i 3 (by omega) (by decide))
                    obtain rfl : b1 = b1' := by injection hA with hA; injection hA
                    have qb13 : wr.cell? ⟨b1, i * 6 + 3, none⟩ = some (.int .i32 0) := (HK.out.cell hltb1 id).trans d1
                    clear d1 hA
                    obtain ⟨b1', hA, _, d1⟩ := H1.out (i * 6 + 4) _ (mkC_at n _ i 4 (by omega) (by decide))
                    obtain rfl : b1 = b1' := by injection hA with hA; injection hA
                    have qb14 : wr.cell? ⟨b1, i * 6 + 4, none⟩ = some (.int .i32 0) := (HK.out.cell hltb1 id).trans d1
                    clear d1 hA
                    obtain ⟨b1', hA, _, d1⟩ := H1.out (i * 6 + 5) _ (mkC_at n _ i 5 (by omega) (by decide))
                    obtain rfl : b1 = b1' := by injection hA with hA; injection hA
                    have qb15 : wr.cell? ⟨b1, i * 6 + 5, none⟩ = some (.int .i32 0) := (HK.out.cell hltb1 id).trans d1
                    clear d1 hA
                    clear d0 hD
                    have HB1 : ∀ W, Keeps (fun _ => False) wq W → W.cell? ⟨b1, i * 6, none⟩ = some (.int .i64 (1048576 * (n : Int) + (i : Int) + 1)) ∧ W.cell? ⟨b1, i * 6 + 1, none⟩ = some (.int .i64 0) ∧ W.cell? ⟨b1, i * 6 + 2, none⟩ = some (.int .i32 0) ∧ W.cell? ⟨b1, i * 6 + 3, none⟩ = some (.int .i32 0) ∧ W.cell? ⟨b1, i * 6 + 4, none⟩ = some (.int .i32 0) ∧ W.cell? ⟨b1, i * 6 + 5, none⟩ = some (.int .i32 0) := fun W hW => ⟨(hW.cell hltb1 id).trans ((HK.out.cell hltb1 id).symm.trans qb10), (hW.cell hltb1 id).trans ((HK.out.cell hltb1 id).symm.trans qb11), (hW.cell hltb1 id).trans ((HK.out.cell hltb1 id).symm.trans qb12), (hW.cell hltb1 id).trans ((HK.out.cell hltb1 id).symm.trans qb13), (hW.cell hltb1 id).trans ((HK.out.cell hltb1 id).symm.trans qb14), (hW.cell hltb1 id).trans ((HK.out.cell hltb1 id).symm.trans qb15)⟩
                    obtain ⟨z0, z1, z2, z3, z4, z5⟩ := HB1 _ K1.out
                    clear HB1 qb10 qb11 qb12 qb13 qb14 qb15 hltb1
                    have hlI : (i : Int) < (rl : Int) := by omega
                    have hne : ¬ ((i : Int) = (rl : Int)) := by omega
                    have x0 : (wr.alloc (.cells #[.int .i64 (1048576 * (n : Int) + (i : Int) + 1), .int .i64 0, .int .i32 0, .int .i32 0, .int .i32 0, .int .i32 0] 78)).cell? ⟨wr.heap.size, 0, none⟩ = some (.int .i64 (1048576 * (n : Int) + (i : Int) + 1)) := WV.out.cellAt 0
                    have f0 : (wr.alloc (.cells #[.int .i64 (1048576 * (n : Int) + (i : Int) + 1), .int .i64 0, .int .i32 0, .int .i32 0, .int .i32 0, .int .i32 0] 78)).frozen? ⟨wr.heap.size, 0, none⟩ = false := WV.out.free 0
                    have x1 : (wr.alloc (.cells #[.int .i64 (1048576 * (n : Int) + (i : Int) + 1), .int .i64 0, .int .i32 0, .int .i32 0, .int .i32 0, .int .i32 0] 78)).cell? ⟨wr.heap.size, 1, none⟩ = some (.int .i64 0) := WV.out.cellAt 1
                    have f1 : (wr.alloc (.cells #[.int .i64 (1048576 * (n : Int) + (i : Int) + 1), .int .i64 0, .int .i32 0, .int .i32 0, .int .i32 0, .int .i32 0] 78)).frozen? ⟨wr.heap.size, 1, none⟩ = false := WV.out.free 1
                    have x2 : (wr.alloc (.cells #[.int .i64 (1048576 * (n : Int) + (i : Int) + 1), .int .i64 0, .int .i32 0, .int .i32 0, .int .i32 0, .int .i32 0] 78)).cell? ⟨wr.heap.size, 2, none⟩ = some (.int .i32 0) := WV.out.cellAt 2
                    have f2 : (wr.alloc (.cells #[.int .i64 (1048576 * (n : Int) + (i : Int) + 1), .int .i64 0, .int .i32 0, .int .i32 0, .int .i32 0, .int .i32 0] 78)).frozen? ⟨wr.heap.size, 2, none⟩ = false := WV.out.free 2
                    have x3 : (wr.alloc (.cells #[.int .i64 (1048576 * (n : Int) + (i : Int) + 1), .int .i64 0, .int .i32 0, .int .i32 0, .int .i32 0, .int .i32 0] 78)).cell? ⟨wr.heap.size, 3, none⟩ = some (.int .i32 0) := WV.out.cellAt 3
                    have f3 : (wr.alloc (.cells #[.int .i64 (1048576 * (n : Int) + (i : Int) + 1), .int .i64 0, .int .i32 0, .int .i32 0, .int .i32 0, .int .i32 0] 78)).frozen? ⟨wr.heap.size, 3, none⟩ = false := WV.out.free 3
                    have x4 : (wr.alloc (.cells #[.int .i64 (1048576 * (n : Int) + (i : Int) + 1), .int .i64 0, .int .i32 0, .int .i32 0, .int .i32 0, .int .i32 0] 78)).cell? ⟨wr.heap.size, 4, none⟩ = some (.int .i32 0) := WV.out.cellAt 4
                    have f4 : (wr.alloc (.cells #[.int .i64 (1048576 * (n : Int) + (i : Int) + 1), .int .i64 0, .int .i32 0, .int .i32 0, .int .i32 0, .int .i32 0] 78)).frozen? ⟨wr.heap.size, 4, none⟩ = false := WV.out.free 4
                    have x5 : (wr.alloc (.cells #[.int .i64 (1048576 * (n : Int) + (i : Int) + 1), .int .i64 0, .int .i32 0, .int .i32 0, .int .i32 0, .int .i32 0] 78)).cell? ⟨wr.heap.size, 5, none⟩ = some (.int .i32 0) := WV.out.cellAt 5
                    have f5 : (wr.alloc (.cells #[.int .i64 (1048576 * (n : Int) + (i : Int) + 1), .int .i64 0, .int .i32 0, .int .i32 0, .int .i32 0, .int .i32 0] 78)).frozen? ⟨wr.heap.size, 5, none⟩ = false := WV.out.free 5
                    go_wp2_with fail
                    clear x0 f0 z0 x1 f1 z1 x2 f2 z2 x3 f3 z3 x4 f4 z4 x5 f5 z5
                    obtain ⟨w2, hw2⟩ : ∃ z, z = (wr.alloc (.cells #[.int .i64 (1048576 * (n : Int) + (i : Int) + 1), .int .i64 0, .int .i32 0, .int .i32 0, .int .i32 0, .int .i32 0] 78)) := ⟨_, rfl⟩
                    rw [← hw2, ← hvb]
                    rw [← hw2] at K1
                    rw [← hw2, ← hvb] at WV
                    rw [← hvb] at hqv
                    have K2 := K1
                    have Ww2 := WV
                    clear K1 WV al5 c0 c1 c2 c3 e0 e1 e2 e3 hw2 hvb qb50 qb51 qb52 qb53 qb54 qb55 HK
                    have x0 : w2.cell? ⟨vb, 0, none⟩ = some (.int .i64 (1048576 * (n : Int) + (i : Int) + 1)) := Ww2.out.cellAt 0
                    have f0 : w2.frozen? ⟨vb, 0, none⟩ = false := Ww2.out.free 0
                    have x1 : w2.cell? ⟨vb, 1, none⟩ = some (.int .i64 0) := Ww2.out.cellAt 1
                    have f1 : w2.frozen? ⟨vb, 1, none⟩ = false := Ww2.out.free 1
                    have x2 : w2.cell? ⟨vb, 2, none⟩ = some (.int .i32 0) := Ww2.out.cellAt 2
                    have f2 : w2.frozen? ⟨vb, 2, none⟩ = false := Ww2.out.free 2
                    have x3 : w2.cell? ⟨vb, 3, none⟩ = some (.int .i32 0) := Ww2.out.cellAt 3
                    have f3 : w2.frozen? ⟨vb, 3, none⟩ = false := Ww2.out.free 3
                    have x4 : w2.cell? ⟨vb, 4, none⟩ = some (.int .i32 0) := Ww2.out.cellAt 4
                    have f4 : w2.frozen? ⟨vb, 4, none⟩ = false := Ww2.out.free 4
                    have x5 : w2.cell? ⟨vb, 5, none⟩ = some (.int .i32 0) := Ww2.out.cellAt 5
                    have f5 : w2.frozen? ⟨vb, 5, none⟩ = false := Ww2.out.free 5
                    obtain ⟨e0, e1, e2, e3⟩ := HC.out w2 K2.out
                    obtain ⟨y0, y1, y2, y3, y4, y5⟩ := HB5.out w2 K2.out
                    go_wp2_with fail
                    go_quiet (first | (go_at_call 82; refine Calls.quiet_of_same (numB_same n i _ (by omega) (by omega))))
                    go_wp2_with fail
                    obtain ⟨w3, hw3⟩ : ∃ z, z = (((((((w2.drewN nq).setCell ⟨vb, 0, none⟩ (.int .i64 (1048576 * (n : Int) + (i : Int) + 1))).setCell ⟨vb, 1, none⟩ (.int .i64 0)).setCell ⟨vb, 2, none⟩ (.int .i32 0)).setCell ⟨vb, 3, none⟩ (.int .i32 0)).setCell ⟨vb, 4, none⟩ (.int .i32 0)).setCell ⟨vb, 5, none⟩ (.int .i32 0)) := ⟨_, rfl⟩
                    have K3 : Hid (Keeps (fun _ => False) wq w3) := Lib.hid (by
                      rw [hw3]
                      have hk : Keeps (fun b => b = vb) (w2.drewN nq) (((((((w2.drewN nq).setCell ⟨vb, 0, none⟩ (.int .i64 (1048576 * (n : Int) + (i : Int) + 1))).setCell ⟨vb, 1, none⟩ (.int .i64 0)).setCell ⟨vb, 2, none⟩ (.int .i32 0)).setCell ⟨vb, 3, none⟩ (.int .i32 0)).setCell ⟨vb, 4, none⟩ (.int .i32 0)).setCell ⟨vb, 5, none⟩ (.int .i32 0)) := (((((((Keeps.refl (fun b => b = vb) (w2.drewN nq)).setCell (p := ⟨vb, 0, none⟩) (fun _ => rfl) (.int .i64 (1048576 * (n : Int) + (i : Int) + 1))).setCell (p := ⟨vb, 1, none⟩) (fun _ => rfl) (.int .i64 0)).setCell (p := ⟨vb, 2, none⟩) (fun _ => rfl) (.int .i32 0)).setCell (p := ⟨vb, 3, none⟩) (fun _ => rfl) (.int .i32 0)).setCell (p := ⟨vb, 4, none⟩) (fun _ => rfl) (.int .i32 0)).setCell (p := ⟨vb, 5, none⟩) (fun _ => rfl) (.int .i32 0))
                      exact (K2.out.drewN nq).and hk (fun b hb e => by omega))
                    have Ww3 : Hid (Whole w3 vb 78 #[.int .i64 (1048576 * (n : Int) + (i : Int) + 1), .int .i64 0, .int .i32 0, .int .i32 0, .int .i32 0, .int .i32 0]) := Lib.hid (by rw [hw3]; simpa using (((((((Ww2.out.drewN nq).put 0 (.int .i64 (1048576 * (n : Int) + (i : Int) + 1))).put 1 (.int .i64 0)).put 2 (.int .i32 0)).put 3 (.int .i32 0)).put 4 (.int .i32 0)).put 5 (.int .i32 0)))
                    rw [← hw3]
                    clear hw3 e0 e1 e2 e3 x0 x1 x2 x3 x4 x5 f0 f1 f2 f3 f4 f5 y0 y1 y2 y3 y4 y5 K2 Ww2
                    have x0 : w3.cell? ⟨vb, 0, none⟩ = some (.int .i64 (1048576 * (n : Int) + (i : Int) + 1)) := Ww3.out.cellAt 0
                    have f0 : w3.frozen? ⟨vb, 0, none⟩ = false := Ww3.out.free 0
                    have x1 : w3.cell? ⟨vb, 1, none⟩ = some (.int .i64 0) := Ww3.out.cellAt 1
                    have f1 : w3.frozen? ⟨vb, 1, none⟩ = false := Ww3.out.free 1
                    have x2 : w3.cell? ⟨vb, 2, none⟩ = some (.int .i32 0) := Ww3.out.cellAt 2
                    have f2 : w3.frozen? ⟨vb, 2, none⟩ = false := Ww3.out.free 2
                    have x3 : w3.cell? ⟨vb, 3, none⟩ = some (.int .i32 0) := Ww3.out.cellAt 3
                    have f3 : w3.frozen? ⟨vb, 3, none⟩ = false := Ww3.out.free 3
                    have x4 : w3.cell? ⟨vb, 4, none⟩ = some (.int .i32 0) := Ww3.out.cellAt 4
                    have f4 : w3.frozen? ⟨vb, 4, none⟩ = false := Ww3.out.free 4
                    have x5 : w3.cell? ⟨vb, 5, none⟩ = some (.int .i32 0) := Ww3.out.cellAt 5
                    have f5 : w3.frozen? ⟨vb, 5, none⟩ = false := Ww3.out.free 5
                    go_wp2_with fail
                    go_quiet (first | (go_at_call 82; refine Calls.quiet_of_same (numB_same n i _ (by omega) (by omega))))
                    go_wp2_with fail
                    go_roundw
                    case rel => exact ⟨i + 1, by omega, by go_num, Lib.hid (K3.out.drewN _)⟩
                    case measure => (simp [intOf] <;> omega)
                  · obtain rfl : i = rl := h
                    obtain ⟨b3, hA, hD, d0⟩ := H3.out (i * 6 + 0) _ (mkC_at n _ i 0 (by omega) (by decide))
                    obtain rfl := hA
                    have hltb3 := HLT.out _ hD
                    have qb30 : wr.cell? ⟨b3, i * 6, none⟩ = some (.int .i64 (1048576 * (n : Int) + (i : Int) + 1)) := (HK.out.cell hltb3 id).trans d0
                    obtain ⟨b3', hA, _, d1⟩ := H3.out (i * 6 + 1) _ (mkC_at n _ i 1 (by omega) (by decide))
                    obtain rfl : b3 = b3' := by injection hA with hA; injection hA
                    have qb31 : wr.cell? ⟨b3, i * 6 + 1, none⟩ = some (.int .i64 0) := (HK.out.cell hltb3 id).trans d1
                    clear d1 hA
                    obtain ⟨b3', hA, _, d1⟩ := H3.out (i * 6 + 2) _ (mkC_at n _ i 2 (by omega) (by decide))
                    obtain rfl : b3 = b3' := by injection hA with hA; injection hA
                    have qb32 : wr.cell? ⟨b3, i * 6 + 2, none⟩ = some (.int .i32 0) := (HK.out.cell hltb3 id).trans d1
                    clear d1 hA
                    obtain ⟨b3', hA, _, d1⟩ := H3.out (i * 6 + 3) _ (mkC_at n _ i 3 (by omega) (by decide))
                    obtain rfl : b3 = b3' := by injection hA with hA; injection hA
                    have qb33 : wr.cell? ⟨b3, i * 6 + 3, none⟩ = some (.int .i32 0) := (HK.out.cell hltb3 id).trans d1
                    clear d1 hA
                    obtain ⟨b3', hA, _, d1⟩ := H3.out (i * 6 + 4) _ (mkC_at n _ i 4 (by omega) (by decide))
                    obtain rfl : b3 = b3' := by injection hA with hA; injection hA
                    have qb34 : wr.cell? ⟨b3, i * 6 + 4, none⟩ = some (.int .i32 0) := (HK.out.cell hltb3 id).trans d1
                    clear d1 hA
                    obtain ⟨b3', hA, _, d1⟩ := H3.out (i * 6 + 5) _ (mkC_at n _ i 5 (by omega) (by decide))
                    obtain rfl : b3 = b3' := by injection hA with hA; injection hA
                    have qb35 : wr.cell? ⟨b3, i * 6 + 5, none⟩ = some (.int .i32 0) := (HK.out.cell hltb3 id).trans d1
                    clear d1 hA
                    clear d0 hD
                    have HB1 : ∀ W, Keeps (fun _ => False) wq W → W.cell? ⟨b3, i * 6, none⟩ = some (.int .i64 (1048576 * (n : Int) + (i : Int) + 1)) ∧ W.cell? ⟨b3, i * 6 + 1, none⟩ = some (.int .i64 0) ∧ W.cell? ⟨b3, i * 6 + 2, none⟩ = some (.int .i32 0) ∧ W.cell? ⟨b3, i * 6 + 3, none⟩ = some (.int .i32 0) ∧ W.cell? ⟨b3, i * 6 + 4, none⟩ = some (.int .i32 0) ∧ W.cell? ⟨b3, i * 6 + 5, none⟩ = some (.int .i32 0) := fun W hW => ⟨(hW.cell hltb3 id).trans ((HK.out.cell hltb3 id).symm.trans qb30), (hW.cell hltb3 id).trans ((HK.out.cell hltb3 id).symm.trans qb31), (hW.cell hltb3 id).trans ((HK.out.cell hltb3 id).symm.trans qb32), (hW.cell hltb3 id).trans ((HK.out.cell hltb3 id).symm.trans qb33), (hW.cell hltb3 id).trans ((HK.out.cell hltb3 id).symm.trans qb34), (hW.cell hltb3 id).trans ((HK.out.cell hltb3 id).symm.trans qb35)⟩
                    obtain ⟨z0, z1, z2, z3, z4, z5⟩ := HB1 _ K1.out
                    clear HB1 qb30 qb31 qb32 qb33 qb34 qb35 hltb3
                    skip
                    have x0 : (wr.alloc (.cells #[.int .i64 (1048576 * (n : Int) + (i : Int) + 1), .int .i64 0, .int .i32 0, .int .i32 0, .int .i32 0, .int .i32 0] 78)).cell? ⟨wr.heap.size, 0, none⟩ = some (.int .i64 (1048576 * (n : Int) + (i : Int) + 1)) := WV.out.cellAt 0
                    have f0 : (wr.alloc (.cells #[.int .i64 (1048576 * (n : Int) + (i : Int) + 1), .int .i64 0, .int .i32 0, .int .i32 0, .int .i32 0, .int .i32 0] 78)).frozen? ⟨wr.heap.size, 0, none⟩ = false := WV.out.free 0
                    have x1 : (wr.alloc (.cells #[.int .i64 (1048576 * (n : Int) + (i : Int) + 1), .int .i64 0, .int .i32 0, .int .i32 0, .int .i32 0, .int .i32 0] 78)).cell? ⟨wr.heap.size, 1, none⟩ = some (.int .i64 0) := WV.out.cellAt 1
                    have f1 : (wr.alloc (.cells #[.int .i64 (1048576 * (n : Int) + (i : Int) + 1), .int .i64 0, .int .i32 0, .int .i32 0, .int .i32 0, .int .i32 0] 78)).frozen? ⟨wr.heap.size, 1, none⟩ = false := WV.out.free 1
                    have x2 : (wr.alloc (.cells #[.int .i64 (1048576 * (n : Int) + (i : Int) + 1), .int .i64 0, .int .i32 0, .int .i32 0, .int .i32 0, .int .i32 0] 78)).cell? ⟨wr.heap.size, 2, none⟩ = some (.int .i32 0) := WV.out.cellAt 2
                    have f2 : (wr.alloc (.cells #[.int .i64 (1048576 * (n : Int) + (i : Int) + 1), .int .i64 0, .int .i32 0, .int .i32 0, .int .i32 0, .int .i32 0] 78)).frozen? ⟨wr.heap.size, 2, none⟩ = false := WV.out.free 2
                    have x3 : (wr.alloc (.cells #[.int .i64 (1048576 * (n : Int) + (i : Int) + 1), .int .i64 0, .int .i32 0, .int .i32 0, .int .i32 0, .int .i32 0] 78)).cell? ⟨wr.heap.size, 3, none⟩ = some (.int .i32 0) := WV.out.cellAt 3
                    have f3 : (wr.alloc (.cells #[.int .i64 (1048576 * (n : Int) + (i : Int) + 1), .int .i64 0, .int .i32 0, .int .i32 0, .int .i32 0, .int .i32 0] 78)).frozen? ⟨wr.heap.size, 3, none⟩ = false := WV.out.free 3
                    have x4 : (wr.alloc (.cells #[.int .i64 (1048576 * (n : Int) + (i : Int) + 1), .int .i64 0, .int .i32 0, .int .i32 0, .int .i32 0, .int .i32 0] 78)).cell? ⟨wr.heap.size, 4, none⟩ = some (.int .i32 0) := WV.out.cellAt 4
                    have f4 : (wr.alloc (.cells #[.int .i64 (1048576 * (n : Int) + (i : Int) + 1), .int .i64 0, .int .i32 0, .int .i32 0, .int .i32 0, .int .i32 0] 78)).frozen? ⟨wr.heap.size, 4, none⟩ = false := WV.out.free 4
                    have x5 : (wr.alloc (.cells #[.int .i64 (1048576 * (n : Int) + (i : Int) + 1), .int .i64 0, .int .i32 0, .int .i32 0, .int .i32 0, .int .i32 0] 78)).cell? ⟨wr.heap.size, 5, none⟩ = some (.int .i32 0) := WV.out.cellAt 5
                    have f5 : (wr.alloc (.cells #[.int .i64 (1048576 * (n : Int) + (i : Int) + 1), .int .i64 0, .int .i32 0, .int .i32 0, .int .i32 0, .int .i32 0] 78)).frozen? ⟨wr.heap.size, 5, none⟩ = false := WV.out.free 5
                    go_wp2_with fail
                    clear x0 f0 z0 x1 f1 z1 x2 f2 z2 x3 f3 z3 x4 f4 z4 x5 f5 z5
                    obtain ⟨w2, hw2⟩ : ∃ z, z = (wr.alloc (.cells #[.int .i64 (1048576 * (n : Int) + (i : Int) + 1), .int .i64 0, .int .i32 0, .int .i32 0, .int .i32 0, .int .i32 0] 78)) := ⟨_, rfl⟩
                    rw [← hw2, ← hvb]
                    rw [← hw2] at K1
                    rw [← hw2, ← hvb] at WV
                    rw [← hvb] at hqv
                    have K2 := K1
                    have Ww2 := WV
                    clear K1 WV al5 c0 c1 c2 c3 e0 e1 e2 e3 hw2 hvb qb50 qb51 qb52 qb53 qb54 qb55 HK
                    have x0 : w2.cell? ⟨vb, 0, none⟩ = some (.int .i64 (1048576 * (n : Int) + (i : Int) + 1)) := Ww2.out.cellAt 0
                    have f0 : w2.frozen? ⟨vb, 0, none⟩ = false := Ww2.out.free 0
                    have x1 : w2.cell? ⟨vb, 1, none⟩ = some (.int .i64 0) := Ww2.out.cellAt 1
                    have f1 : w2.frozen? ⟨vb, 1, none⟩ = false := Ww2.out.free 1
                    have x2 : w2.cell? ⟨vb, 2, none⟩ = some (.int .i32 0) := Ww2.out.cellAt 2
                    have f2 : w2.frozen? ⟨vb, 2, none⟩ = false := Ww2.out.free 2
                    have x3 : w2.cell? ⟨vb, 3, none⟩ = some (.int .i32 0) := Ww2.out.cellAt 3
                    have f3 : w2.frozen? ⟨vb, 3, none⟩ = false := Ww2.out.free 3
                    have x4 : w2.cell? ⟨vb, 4, none⟩ = some (.int .i32 0) := Ww2.out.cellAt 4
                    have f4 : w2.frozen? ⟨vb, 4, none⟩ = false := Ww2.out.free 4
                    have x5 : w2.cell? ⟨vb, 5, none⟩ = some (.int .i32 0) := Ww2.out.cellAt 5
                    have f5 : w2.frozen? ⟨vb, 5, none⟩ = false := Ww2.out.free 5
                    obtain ⟨e0, e1, e2, e3⟩ := HC.out w2 K2.out
                    obtain ⟨y0, y1, y2, y3, y4, y5⟩ := HB5.out w2 K2.out
                    go_wp2_with fail
                    go_quiet (first | (go_at_call 82; refine Calls.quiet_of_same (numB_same n i _ (by omega) (by omega))))
                    go_wp2_with fail
                    obtain ⟨w3, hw3⟩ : ∃ z, z = (((((((w2.drewN nq).setCell ⟨vb, 0, none⟩ (.int .i64 (1048576 * (n : Int) + (i : Int) + 1))).setCell ⟨vb, 1, none⟩ (.int .i64 0)).setCell ⟨vb, 2, none⟩ (.int .i32 0)).setCell ⟨vb, 3, none⟩ (.int .i32 0)).setCell ⟨vb, 4, none⟩ (.int .i32 0)).setCell ⟨vb, 5, none⟩ (.int .i32 0)) := ⟨_, rfl⟩
                    have K3 : Hid (Keeps (fun _ => False) wq w3) := Lib.hid (by
                      rw [hw3]
                      have hk : Keeps (fun b => b = vb) (w2.drewN nq) (((((((w2.drewN nq).setCell ⟨vb, 0, none⟩ (.int .i64 (1048576 * (n : Int) + (i : Int) + 1))).setCell ⟨vb, 1, none⟩ (.int .i64 0)).setCell ⟨vb, 2, none⟩ (.int .i32 0)).setCell ⟨vb, 3, none⟩ (.int .i32 0)).setCell ⟨vb, 4, none⟩ (.int .i32 0)).setCell ⟨vb, 5, none⟩ (.int .i32 0)) := (((((((Keeps.refl (fun b => b = vb) (w2.drewN nq)).setCell (p := ⟨vb, 0, none⟩) (fun _ => rfl) (.int .i64 (1048576 * (n : Int) + (i : Int) + 1))).setCell (p := ⟨vb, 1, none⟩) (fun _ => rfl) (.int .i64 0)).setCell (p := ⟨vb, 2, none⟩) (fun _ => rfl) (.int .i32 0)).setCell (p := ⟨vb, 3, none⟩) (fun _ => rfl) (.int .i32 0)).setCell (p := ⟨vb, 4, none⟩) (fun _ => rfl) (.int .i32 0)).setCell (p := ⟨vb, 5, none⟩) (fun _ => rfl) (.int .i32 0))
                      exact (K2.out.drewN nq).and hk (fun b hb e => by omega))
                    have Ww3 : Hid (Whole w3 vb 78 #[.int .i64 (1048576 * (n : Int) + (i : Int) + 1), .int .i64 0, .int .i32 0, .int .i32 0, .int .i32 0, .int .i32 0]) := Lib.hid (by rw [hw3]; simpa using (((((((Ww2.out.drewN nq).put 0 (.int .i64 (1048576 * (n : Int) + (i : Int) + 1))).put 1 (.int .i64 0)).put 2 (.int .i32 0)).put 3 (.int .i32 0)).put 4 (.int .i32 0)).put 5 (.int .i32 0)))
                    rw [← hw3]
                    clear hw3 e0 e1 e2 e3 x0 x1 x2 x3 x4 x5 f0 f1 f2 f3 f4 f5 y0 y1 y2 y3 y4 y5 K2 Ww2
                    have x0 : w3.cell? ⟨vb, 0, none⟩ = some (.int .i64 (1048576 * (n : Int) + (i : Int) + 1)) := Ww3.out.cellAt 0
                    have f0 : w3.frozen? ⟨vb, 0, none⟩ = false := Ww3.out.free 0
                    have x1 : w3.cell? ⟨vb, 1, none⟩ = some (.int .i64 0) := Ww3.out.cellAt 1
                    have f1 : w3.frozen? ⟨vb, 1, none⟩ = false := Ww3.out.free 1
                    have x2 : w3.cell? ⟨vb, 2, none⟩ = some (.int .i32 0) := Ww3.out.cellAt 2
                    have f2 : w3.frozen? ⟨vb, 2, none⟩ = false := Ww3.out.free 2
                    have x3 : w3.cell? ⟨vb, 3, none⟩ = some (.int .i32 0) := Ww3.out.cellAt 3
                    have f3 : w3.frozen? ⟨vb, 3, none⟩ = false := Ww3.out.free 3
                    have x4 : w3.cell? ⟨vb, 4, none⟩ = some (.int .i32 0) := Ww3.out.cellAt 4
                    have f4 : w3.frozen? ⟨vb, 4, none⟩ = false := Ww3.out.free 4
                    have x5 : w3.cell? ⟨vb, 5, none⟩ = some (.int .i32 0) := Ww3.out.cellAt 5
                    have f5 : w3.frozen? ⟨vb, 5, none⟩ = false := Ww3.out.free 5
                    go_wp2_with fail
                    go_quiet (first | (go_at_call 82; refine Calls.quiet_of_same (numB_same n i _ (by omega) (by omega))))
                    go_wp2_with fail
                    go_roundw
                    case rel => exact ⟨i + 1, by omega, by go_num, Lib.hid (K3.out.drewN _)⟩
                    case measure => (simp [intOf] <;> omega)
                  · skip
                    have hne : ¬ ((i : Int) = (rl : Int)) := by omega
                    have hge : ¬ ((i : Int) < (rl : Int)) := by omega
                    go_wp2_with fail
                    obtain ⟨w2, hw2⟩ : ∃ z, z = (wr.alloc (.cells #[.int .i64 (1048576 * (n : Int) + (i : Int) + 1), .int .i64 0, .int .i32 0, .int .i32 0, .int .i32 0, .int .i32 0] 78)) := ⟨_, rfl⟩
                    rw [← hw2, ← hvb]
                    rw [← hw2] at K1
                    rw [← hw2, ← hvb] at WV
                    rw [← hvb] at hqv
                    have K2 := K1
                    have Ww2 := WV
                    clear K1 WV al5 c0 c1 c2 c3 e0 e1 e2 e3 hw2 hvb qb50 qb51 qb52 qb53 qb54 qb55 HK
                    have x0 : w2.cell? ⟨vb, 0, none⟩ = some (.int .i64 (1048576 * (n : Int) + (i : Int) + 1)) := Ww2.out.cellAt 0
                    have f0 : w2.frozen? ⟨vb, 0, none⟩ = false := Ww2.out.free 0
                    have x1 : w2.cell? ⟨vb, 1, none⟩ = some (.int .i64 0) := Ww2.out.cellAt 1
                    have f1 : w2.frozen? ⟨vb, 1, none⟩ = false := Ww2.out.free 1
                    have x2 : w2.cell? ⟨vb, 2, none⟩ = some (.int .i32 0) := Ww2.out.cellAt 2
                    have f2 : w2.frozen? ⟨vb, 2, none⟩ = false := Ww2.out.free 2
                    have x3 : w2.cell? ⟨vb, 3, none⟩ = some (.int .i32 0) := Ww2.out.cellAt 3
                    have f3 : w2.frozen? ⟨vb, 3, none⟩ = false := Ww2.out.free 3
                    have x4 : w2.cell? ⟨vb, 4, none⟩ = some (.int .i32 0) := Ww2.out.cellAt 4
                    have f4 : w2.frozen? ⟨vb, 4, none⟩ = false := Ww2.out.free 4
                    have x5 : w2.cell? ⟨vb, 5, none⟩ = some (.int .i32 0) := Ww2.out.cellAt 5
                    have f5 : w2.frozen? ⟨vb, 5, none⟩ = false := Ww2.out.free 5
                    obtain ⟨e0, e1, e2, e3⟩ := HC.out w2 K2.out
                    obtain ⟨y0, y1, y2, y3, y4, y5⟩ := HB5.out w2 K2.out
                    go_wp2_with fail
                    go_quiet (first | (go_at_call 82; refine Calls.quiet_of_same (numB_same n i _ (by omega) (by omega))))
                    go_wp2_with fail
                    obtain ⟨w3, hw3⟩ : ∃ z, z = (((((((w2.drewN nq).setCell ⟨vb, 0, none⟩ (.int .i64 (1048576 * (n : Int) + (i : Int) + 1))).setCell ⟨vb, 1, none⟩ (.int .i64 0)).setCell ⟨vb, 2, none⟩ (.int .i32 0)).setCell ⟨vb, 3, none⟩ (.int .i32 0)).setCell ⟨vb, 4, none⟩ (.int .i32 0)).setCell ⟨vb, 5, none⟩ (.int .i32 0)) := ⟨_, rfl⟩
                    have K3 : Hid (Keeps (fun _ => False) wq w3) := Lib.hid (by
                      rw [hw3]
                      have hk : Keeps (fun b => b = vb) (w2.drewN nq) (((((((w2.drewN nq).setCell ⟨vb, 0, none⟩ (.int .i64 (1048576 * (n : Int) + (i : Int) + 1))).setCell ⟨vb, 1, none⟩ (.int .i64 0)).setCell ⟨vb, 2, none⟩ (.int .i32 0)).setCell ⟨vb, 3, none⟩ (.int .i32 0)).setCell ⟨vb, 4, none⟩ (.int .i32 0)).setCell ⟨vb, 5, none⟩ (.int .i32 0)) := (((((((Keeps.refl (fun b => b = vb) (w2.drewN nq)).setCell (p := ⟨vb, 0, none⟩) (fun _ => rfl) (.int .i64 (1048576 * (n : Int) + (i : Int) + 1))).setCell (p := ⟨vb, 1, none⟩) (fun _ => rfl) (.int .i64 0)).setCell (p := ⟨vb, 2, none⟩) (fun _ => rfl) (.int .i32 0)).setCell (p := ⟨vb, 3, none⟩) (fun _ => rfl) (.int .i32 0)).setCell (p := ⟨vb, 4, none⟩) (fun _ => rfl) (.int .i32 0)).setCell (p := ⟨vb, 5, none⟩) (fun _ => rfl) (.int .i32 0))
                      exact (K2.out.drewN nq).and hk (fun b hb e => by omega))
                    have Ww3 : Hid (Whole w3 vb 78 #[.int .i64 (1048576 * (n : Int) + (i : Int) + 1), .int .i64 0, .int .i32 0, .int .i32 0, .int .i32 0, .int .i32 0]) := Lib.hid (by rw [hw3]; simpa using (((((((Ww2.out.drewN nq).put 0 (.int .i64 (1048576 * (n : Int) + (i : Int) + 1))).put 1 (.int .i64 0)).put 2 (.int .i32 0)).put 3 (.int .i32 0)).put 4 (.int .i32 0)).put 5 (.int .i32 0)))
                    rw [← hw3]
                    clear hw3 e0 e1 e2 e3 x0 x1 x2 x3 x4 x5 f0 f1 f2 f3 f4 f5 y0 y1 y2 y3 y4 y5 K2 Ww2
                    have x0 : w3.cell? ⟨vb, 0, none⟩ = some (.int .i64 (1048576 * (n : Int) + (i : Int) + 1)) := Ww3.out.cellAt 0
                    have f0 : w3.frozen? ⟨vb, 0, none⟩ = false := Ww3.out.free 0
                    have x1 : w3.cell? ⟨vb, 1, none⟩ = some (.int .i64 0) := Ww3.out.cellAt 1
                    have f1 : w3.frozen? ⟨vb, 1, none⟩ = false := Ww3.out.free 1
                    have x2 : w3.cell? ⟨vb, 2, none⟩ = some (.int .i32 0) := Ww3.out.cellAt 2
                    have f2 : w3.frozen? ⟨vb, 2, none⟩ = false := Ww3.out.free 2
                    have x3 : w3.cell? ⟨vb, 3, none⟩ = some (.int .i32 0) := Ww3.out.cellAt 3
                    have f3 : w3.frozen? ⟨vb, 3, none⟩ = false := Ww3.out.free 3
                    have x4 : w3.cell? ⟨vb, 4, none⟩ = some (.int .i32 0) := Ww3.out.cellAt 4
                    have f4 : w3.frozen? ⟨vb, 4, none⟩ = false := Ww3.out.free 4
                    have x5 : w3.cell? ⟨vb, 5, none⟩ = some (.int .i32 0) := Ww3.out.cellAt 5
                    have f5 : w3.frozen? ⟨vb, 5, none⟩ = false := Ww3.out.free 5
                    go_wp2_with fail
                    go_quiet (first | (go_at_call 82; refine Calls.quiet_of_same (numB_same n i _ (by omega) (by omega))))
                    go_wp2_with fail
                    go_roundw
                    case rel => exact ⟨i + 1, by omega, by go_num, Lib.hid (K3.out.drewN _)⟩
                    case measure => (simp [intOf] <;> omega)
                · obtain rfl : i = rl + 70 := by omega
                  go_wp2_with fail
                  go_roundw
                  case rel => exact ⟨n + 1, by omega, by go_num, HK⟩
                  case measure => (simp [intOf] <;> omega)
            · obtain rfl : n = rows.length := by omega
              have HK2 := Lib.hid (HG.out.keeps.trans (HK.out.mono (T := blks rows) (fun _ _ h => h.elim)))
              go_wp2_with fail
              go_ret
              exact ⟨rfl, HK2.out⟩
end Go.Proofs.YthmfbcfbcookiaaDoor
/-
  Marks that are lists of their own: what stands of them. Conditions: none.
-/
namespace Go.Proofs.YthmfbcfbcookiaaDoor
open Go.RowKit
theorem calls_joinedB {P : Program} {f : FuncId} {args : Array Value} {w : World} {d n : Nat} {v : Value} (h : Calls P f args (w.drewN (d + n)) fun e w' => e = .returned v ∧ w' = w.drewN (d + n)) :
    Calls P f args (w.drewN (d + n)) fun e w'' => e = .returned v ∧ ∃ m, w'' = w.drewN (d + m) :=
  h.mono fun _ _ ⟨he, hm⟩ => ⟨he, n, hm⟩
theorem marks_congr {mk mk' : Nat → Nat → List Value} {k : Nat} : ∀ {m : Nat}, (∀ j, j < m → mk' k j = mk k j) → marks mk' k m = marks mk k m
  | 0, _ => rfl
  | m + 1, h => by rw [marks_succ, marks_succ, marks_congr (fun j hj => h j (by omega)), h m (by omega)]
section
variable {mk mk' : Nat → Nat → List Value} {e eo : TypeId} {s base : Nat} {rows : List Sl} {w0 w w' : World}
theorem MarkedIn.calm {n i : Nat} {r : Sl} (h : MarkedIn mk e s rows w0 w n i r) (hk : Keeps (fun _ => False) w w') : MarkedIn mk e s rows w0 w' n i r :=
  ⟨h.keeps.trans (hk.mono (fun _ _ h => h.elim)), fun k q hne hq => by obtain ⟨xs, hx, hm⟩ := h.own k q hne hq; exact ⟨xs, own_keepsS hx hk (fun _ _ h => h), hm⟩, by obtain ⟨xs, hx, ht⟩ := h.here; exact ⟨xs, own_keepsS hx hk (fun _ _ h => h), ht⟩⟩
theorem MarkedIn.congr {n i : Nat} {r : Sl} (h : MarkedIn mk e s rows w0 w n i r) (hk : ∀ k j, (k ≠ n ∨ j < i) → mk' k j = mk k j) : MarkedIn mk' e s rows w0 w n i r :=
  ⟨h.keeps, fun k q hne hq => by
    obtain ⟨xs, hx, hm⟩ := h.own k q hne hq
    exact ⟨xs, hx, fun hl => (hm hl).trans (marks_congr (fun j _ => hk k j (.inl hne))).symm⟩, by
    obtain ⟨xs, hx, ht⟩ := h.here
    exact ⟨xs, hx, ht.trans (marks_congr (fun j hj => hk n j (.inr hj))).symm⟩⟩
theorem LiesD.calm {D : Nat → Prop} {A : Option Addr} {xs : List Value} (h : LiesD w D A xs) (hk : Keeps (fun _ => False) w w') (hD : ∀ b, D b → b < w.heap.size) : LiesD w' D A xs := h.keep fun _ _ hb _ => hk.cell (hD _ hb) id
theorem Done1.calm {D : Nat → Prop} {ones mores : List Value} {k : Nat} (h : Done1 mk rows w D ones mores k) (hk : Keeps (fun _ => False) w w') (hD : ∀ b, D b → b < w.heap.size) : Done1 mk rows w' D ones mores k := fun r hr => by
  obtain ⟨h1, ⟨a, c, h2, h3⟩, a', c', h4, h5⟩ := h r hr
  exact ⟨h1.calm hk hD, ⟨a, c, h2, h3.calm hk hD⟩, a', c', h4, h5.calm hk hD⟩
theorem Done1.congr {D : Nat → Prop} {ones mores : List Value} {k : Nat} (h : Done1 mk rows w D ones mores k) (hk : ∀ j, mk' k j = mk k j) : Done1 mk' rows w D ones mores k := fun r hr => by
  obtain ⟨h1, ⟨a, c, h2, h3⟩, a', c', h4, h5⟩ := h r hr
  rw [← marks_congr (mk' := mk') (fun j _ => hk j)] at h1 h3 h5
  exact ⟨h1, ⟨a, c, h2, h3⟩, a', c', h4, h5⟩
theorem GoingIn.calm {n m c : Nat} {ov mv lv : Value} {ones mores : List Value} {D E : Nat → Prop} {r : Sl} (h : GoingIn mk e eo s base rows w0 w n m c ov mv lv ones mores D E r) (hk : Keeps (fun _ => False) w w') : GoingIn mk e eo s base rows w0 w' n m c ov mv lv ones mores D E r :=
  ⟨h.keeps.trans (hk.mono (fun _ _ h => h.elim)), Nat.le_trans h.big hk.size, fun b hb => Nat.lt_of_lt_of_le (h.lt b hb) hk.size, own_keepsS h.one hk (fun _ _ h => h), own_keepsS h.more hk (fun _ _ h => h), h.oneD, h.moreD, h.om, own_keepsS h.own hk (fun _ _ h => h), h.lE, h.lnew,
   fun k q hq hr => ⟨own_keepsS (h.rest k q hq hr).1 hk (fun _ _ h => h), (h.rest k q hq hr).2⟩, h.here.calm hk (fun b hb => h.lt b (.inr hb)), h.cn, fun hc => by
    obtain ⟨h1, a, cp, h2, h3⟩ := h.first hc
    exact ⟨h1, a, cp, h2, h3.calm hk (fun b hb => h.lt b (.inr hb))⟩, fun k hk' => (h.did k hk').calm hk (fun b hb => h.lt b (.inl hb))⟩
theorem GoingIn.congr {n m c : Nat} {ov mv lv : Value} {ones mores : List Value} {D E : Nat → Prop} {r : Sl} (h : GoingIn mk e eo s base rows w0 w n m c ov mv lv ones mores D E r) (hk : ∀ k j, (k ≠ n ∨ j < r.len + m) → mk' k j = mk k j) : GoingIn mk' e eo s base rows w0 w n m c ov mv lv ones mores D E r :=
  ⟨h.keeps, h.big, h.lt, h.one, h.more, h.oneD, h.moreD, h.om, by rw [marks_congr (mk' := mk') (mk := mk) (fun j hj => hk n j (.inr hj))]; exact h.own, h.lE, h.lnew,
   fun k q hq hr => ⟨by rw [marks_congr (mk' := mk') (mk := mk) (fun j _ => hk k j (.inl (by omega)))]; exact (h.rest k q hq hr).1, (h.rest k q hq hr).2⟩, by rw [marks_congr (mk' := mk') (mk := mk) (fun j hj => hk n j (.inr (by omega)))]; exact h.here, h.cn, fun hc => by
    obtain ⟨h1, a, cp, h2, h3⟩ := h.first hc
    exact ⟨h1, a, cp, h2, by rw [marks_congr (mk' := mk') (mk := mk) (fun j hj => hk n j (.inr (by omega)))]; exact h3⟩, fun k hk' => (h.did k hk').congr (fun j => hk k j (.inl (by omega)))⟩
end
/-- The mark i of the list n lies in the block f n i. -/
def mkW (f : Nat → Nat → Nat) (n i : Nat) : List Value := [.slice (some ⟨f n i, 0, none⟩) 1 1]
theorem mkW_length (f : Nat → Nat → Nat) (n i : Nat) : (mkW f n i).length = 1 := rfl
theorem mkW_oneCell (f : Nat → Nat → Nat) (k i : Nat) : ∀ u ∈ mkW f k i, u.oneCell' = true := by
  intro u hu
  simp only [mkW, List.mem_cons, List.mem_nil_iff, or_false] at hu
  rw [hu]; rfl
theorem mkW_at (f : Nat → Nat → Nat) (k m i : Nat) (h : i < m) : (marks (mkW f) k m)[i]? = some (.slice (some ⟨f k i, 0, none⟩) 1 1) := by
  have := marks_get (mkW f) (mkW_length f) k m i 0 h (by decide)
  rw [Nat.mul_one, Nat.add_zero] at this
  rw [this]; rfl
def upd (f : Nat → Nat → Nat) (n i b : Nat) : Nat → Nat → Nat := fun k j => if k = n ∧ j = i then b else f k j
theorem upd_here (f : Nat → Nat → Nat) (n i b : Nat) : upd f n i b n i = b := by unfold upd; rw [if_pos ⟨rfl, rfl⟩]
theorem upd_far {f : Nat → Nat → Nat} {n i b k j : Nat} (h : k ≠ n ∨ j < i) : mkW (upd f n i b) k j = mkW f k j := by
  unfold mkW upd
  rw [if_neg (fun hh => by omega)]
/-- The marks' own blocks. -/
def MBs (w : World) (f : Nat → Nat → Nat) (U : Nat → Nat → Prop) : Prop := ∀ k j, U k j → Whole w (f k j) 3 #[.int .i64 (1048576 * (k : Int) + (j : Int) + 1)]
theorem MBs.keeps {S : Nat → Prop} {w w' : World} {f : Nat → Nat → Nat} {U : Nat → Nat → Prop} (h : MBs w f U) (hk : Keeps S w w') (hS : ∀ b cs, Whole w b 3 cs → ¬ S b) : MBs w' f U := fun k j hu => (h k j hu).keeps hk (hS _ _ (h k j hu))
theorem MBs.add {w : World} {f : Nat → Nat → Nat} {U U' : Nat → Nat → Prop} {n i b : Nat} (h : MBs w f U) (hb : Whole w b 3 #[.int .i64 (1048576 * (n : Int) + (i : Int) + 1)]) (hU : ∀ k j, U' k j → U k j ∨ (k = n ∧ j = i)) : MBs w (upd f n i b) U' := fun k j hu => by
  by_cases e : k = n ∧ j = i
  · obtain ⟨rfl, rfl⟩ := e
    rw [upd_here]; exact hb
  · have e1 : upd f n i b k j = f k j := by unfold upd; rw [if_neg e]
    rw [e1]
    rcases hU k j hu with h1 | h1
    · exact h k j h1
    · exact absurd h1 e
theorem MBs.sub {w : World} {f : Nat → Nat → Nat} {U U' : Nat → Nat → Prop} (h : MBs w f U) (hU : ∀ k j, U' k j → U k j) : MBs w f U' := fun k j hu => h k j (hU k j hu)
theorem row_kindB {w : World} {B s n b : Nat} {e t : TypeId} {v : Value} {xs : List Value} {cs : Array Value} (h : w.ownsRow B e s v n xs) (hw : Whole w b t cs) (hne : t ≠ e) : v.ownBlock ≠ some b := fun hb => by
  rcases h.2 with ⟨rfl, _⟩ | ⟨g, _, cur, rfl, _, hg, _⟩
  · cases hb
  · simp only [Value.ownBlock, Option.some.injEq] at hb
    subst hb
    unfold Whole at hw
    rw [hw] at hg
    injection hg with hg
    injection hg with _ e1 _
    exact hne e1
/-- Marked so far: of the lists ahead of n all, of the list n the first i. -/
def U1 (rows : List Sl) (n i : Nat) (k j : Nat) : Prop := ∃ r, rows[k]? = some r ∧ j < r.len ∧ (k < n ∨ (k = n ∧ j < i))
/-- Gone on with so far. -/
def U2 (rows : List Sl) (n m : Nat) (k j : Nat) : Prop := ∃ r, rows[k]? = some r ∧ (j < r.len ∨ (k < n ∧ j < r.len + 70) ∨ (k = n ∧ j < r.len + m))
theorem U1_next {rows : List Sl} {n i k j : Nat} (h : U1 rows n (i + 1) k j) : U1 rows n i k j ∨ (k = n ∧ j = i) := by
  obtain ⟨r, hr, hj, h⟩ := h
  rcases h with h | ⟨h1, h2⟩
  · exact .inl ⟨r, hr, hj, .inl h⟩
  · by_cases e : j = i
    · exact .inr ⟨h1, e⟩
    · exact .inl ⟨r, hr, hj, .inr ⟨h1, by omega⟩⟩
theorem U1_list {rows : List Sl} {n k j : Nat} {r : Sl} (hr : rows[n]? = some r) (h : U1 rows (n + 1) 0 k j) : U1 rows n r.len k j := by
  obtain ⟨q, hq, hj, h⟩ := h
  rcases h with h | ⟨_, h⟩
  · by_cases e : k = n
    · subst e
      rw [hr] at hq; injection hq with hq; subst hq
      exact ⟨_, hr, hj, .inr ⟨rfl, hj⟩⟩
    · exact ⟨q, hq, hj, .inl (by omega)⟩
  · omega
theorem U1_all {rows : List Sl} {k j : Nat} (h : U2 rows 0 0 k j) : U1 rows rows.length 0 k j := by
  obtain ⟨q, hq, h⟩ := h
  have hk := (List.getElem?_eq_some_iff.1 hq).1
  rcases h with h | ⟨h, _⟩ | ⟨_, h⟩
  · exact ⟨q, hq, h, .inl hk⟩
  · omega
  · exact ⟨q, hq, by omega, .inl hk⟩
theorem U2_next {rows : List Sl} {n m k j : Nat} {r : Sl} (hr : rows[n]? = some r) (h : U2 rows n (m + 1) k j) : U2 rows n m k j ∨ (k = n ∧ j = r.len + m) := by
  obtain ⟨q, hq, h⟩ := h
  rcases h with h | h | ⟨h1, h2⟩
  · exact .inl ⟨q, hq, .inl h⟩
  · exact .inl ⟨q, hq, .inr (.inl h)⟩
  · subst h1
    rw [hr] at hq; injection hq with hq; subst hq
    by_cases e : j = r.len + m
    · exact .inr ⟨rfl, e⟩
    · exact .inl ⟨r, hr, .inr (.inr ⟨rfl, by omega⟩)⟩
theorem U2_list {rows : List Sl} {n k j : Nat} (h : U2 rows (n + 1) 0 k j) : U2 rows n 70 k j := by
  obtain ⟨q, hq, h⟩ := h
  rcases h with h | ⟨h1, h2⟩ | ⟨h1, h2⟩
  · exact ⟨q, hq, .inl h⟩
  · by_cases e : k = n
    · exact ⟨q, hq, .inr (.inr ⟨e, h2⟩)⟩
    · exact ⟨q, hq, .inr (.inl ⟨by omega, h2⟩)⟩
  · exact ⟨q, hq, .inl (by omega)⟩
end Go.Proofs.YthmfbcfbcookiaaDoor
/-
  The bag: its lists of lists of integers, marked, gone on with and looked at: the walk. Conditions: no two of them lie in one block; lengths within 10 ^ 12.
-/
namespace Go.Proofs.YthmfbcfbcookiaaDoor
open Go.RowKit
theorem info_rwB : (Tryd.prog.info? 81).map (fun i => (i.zero, i.size, i.bytes)) = some (some (.slice none 0 0), 1, 24) := by kernel_rfl
theorem info_rwsB : (Tryd.prog.info? 24).map (fun i => (i.zero, i.size, i.bytes)) = some (some (.slice none 0 0), 1, 24) := by kernel_rfl
set_option maxRecDepth 100000 in
set_option maxHeartbeats 4000000 in
theorem apartRows_any (p gO capO : Nat) (rows : List Sl) (w : World) (hF : BagFix w p 12 gO capO rows) (hR : SlRows 81 1 rows w) (hn : rows.length ≤ 400) (hl : ∀ (k : Nat) (r : Sl), rows[k]? = some r → r.len ≤ 1000000000000) :
    Calls Tryd.prog 57 #[.pointer (some ⟨p, 0, none⟩)] w fun e w' => e = .returned (.bool true) ∧ Keeps (blks rows) w w' := by
  have HF := Lib.hid hF
  have HAp := Lib.hid hR.apart
  have HM0 : Hid (Marked (mkW (fun _ _ => 0)) 81 1 rows w w 0) := Lib.hid (Marked.start hR (Keeps.refl _ _))
  have HL := Lib.hid hl
  clear hl hR
  have c0 := hF.hp
  go_enter Tryd.func57, Tryd.ntmps57
  go_wp2_with fail
  clear c0
  go_loopw [3] (fun v wr => ∃ (n : Nat) (f : Nat → Nat → Nat), n ≤ rows.length ∧ v = .int .i64 n ∧ Hid (Marked (mkW f) 81 1 rows w wr n) ∧ Hid (MBs wr f (U1 rows n 0))) (fun v _ => rows.length - (intOf v).toNat)
  case atStart => exact ⟨0, _, by omega, rfl, HM0, Lib.hid (fun k j h => by obtain ⟨_, _, _, h⟩ := h; omega)⟩
  case round =>
    clear HM0 hF
    obtain ⟨n, f, hnr, rfl, HM, HB⟩ := hrel
    have HFr := Lib.hid (HF.out.keeps HM.out.keeps)
    have c0 := HFr.out.hp
    by_cases hlt : n < rows.length
    · obtain ⟨r, hr⟩ : ∃ r, rows[n]? = some r := ⟨_, List.getElem?_eq_getElem hlt⟩
      have c1 := HFr.out.hO n r hr
      have HI0 := Lib.hid (HM.out.enter hr)
      have hrl := HL.out n r hr
      have HRr := Lib.hid hr
      obtain ⟨ra, rl, rc⟩ := r
      clear HM hr
      go_wp2_with fail
      clear c0 c1
      go_loopw [4] (fun v wr => ∃ (i : Nat) (f : Nat → Nat → Nat), i ≤ rl ∧ v = .int .i64 i ∧ Hid (MarkedIn (mkW f) 81 1 rows w wr n i ⟨ra, rl, rc⟩) ∧ Hid (MBs wr f (U1 rows n i))) (fun v _ => rl - (intOf v).toNat)
      case atStart => exact ⟨0, f, by omega, rfl, HI0, HB⟩
      case round =>
        clear HI0 HFr HB
        obtain ⟨i, f, hir, rfl, HI, HB⟩ := hrel
        have HFr := Lib.hid (HF.out.keeps HI.out.keeps)
        have c0 := HFr.out.hp
        have c1 := HFr.out.hO n _ HRr.out
        by_cases hil : i < rl
        · have HI1 := Lib.hid (HI.out.congr (mk' := mkW (upd f n i wr.heap.size)) (fun k j h => upd_far h))
          obtain ⟨g, cs, hg, hW, hsz⟩ := HI.out.cell hil
          obtain rfl : ra = some ⟨g, 0, none⟩ := hg
          obtain ⟨u, hu⟩ : ∃ u, wr.cell? ⟨g, i, none⟩ = some u := ⟨_, (hW.cellAt i).trans (Array.getElem?_eq_getElem (by simp only [Nat.mul_one] at hsz; omega))⟩
          have hfr := hW.free i
          have hua : ∀ o, (wr.alloc o).cell? ⟨g, i, none⟩ = some u := fun o => (World.cell?_alloc_lt wr o _ (by exact hW.inside)).trans hu
          have hfa : ∀ o, (wr.alloc o).frozen? ⟨g, i, none⟩ = false := fun o => (hW.alloc o).free i
          have hub : ∀ o, (wr.drew.alloc o).cell? ⟨g, i, none⟩ = some u := fun o => hua o
          have hfb : ∀ o, (wr.drew.alloc o).frozen? ⟨g, i, none⟩ = false := fun o => hfa o
          have ca0 : ∀ o, (wr.alloc o).cell? ⟨p, 12, none⟩ = some (.slice (some ⟨gO, 0, none⟩) rows.length capO) := fun o => (World.cell?_alloc_lt wr o _ (by exact HFr.out.lt.1)).trans c0
          have ca1 : ∀ o, (wr.alloc o).cell? ⟨gO, n, none⟩ = some (.slice (some ⟨g, 0, none⟩) rl rc) := fun o => (World.cell?_alloc_lt wr o _ (by exact HFr.out.lt.2)).trans c1
          have cb0 : ∀ o, (wr.drew.alloc o).cell? ⟨p, 12, none⟩ = some (.slice (some ⟨gO, 0, none⟩) rows.length capO) := fun o => ca0 o
          have cb1 : ∀ o, (wr.drew.alloc o).cell? ⟨gO, n, none⟩ = some (.slice (some ⟨g, 0, none⟩) rl rc) := fun o => ca1 o
          have hgi := hW.inside
          have HP := Lib.hid ((HI1.out.put (u := .slice (some ⟨wr.heap.size, 0, none⟩) 1 1) HRr.out HAp.out hil rfl (by unfold mkW; rw [upd_here])).calm (((Keeps.refl (fun _ => False) _).alloc (.cells #[.int .i64 (1048576 * (n : Int) + (i : Int) + 1)] 3)).drew))
          have HB1 : Hid (MBs (((wr.setCell ⟨g, i, none⟩ (.slice (some ⟨wr.heap.size, 0, none⟩) 1 1)).alloc (.cells #[.int .i64 (1048576 * (n : Int) + (i : Int) + 1)] 3)).drew) (upd f n i wr.heap.size) (U1 rows n (i + 1))) := Lib.hid (by
            have hk : Keeps (fun b => b = g) wr (wr.setCell ⟨g, i, none⟩ (.slice (some ⟨wr.heap.size, 0, none⟩) 1 1)) := (Keeps.refl (fun b => b = g) _).setCell (p := ⟨g, i, none⟩) (fun _ => rfl) _
            have h1 : MBs (wr.setCell ⟨g, i, none⟩ (.slice (some ⟨wr.heap.size, 0, none⟩) 1 1)) f (U1 rows n i) := HB.out.keeps hk (fun b cs' hb e => by
              subst e
              unfold Whole at hb hW
              rw [hb] at hW
              injection hW with h2
              injection h2 with _ h3 _
              exact absurd h3 (by decide))
            have h2 : MBs (((wr.setCell ⟨g, i, none⟩ (.slice (some ⟨wr.heap.size, 0, none⟩) 1 1)).alloc (.cells #[.int .i64 (1048576 * (n : Int) + (i : Int) + 1)] 3)).drew) f (U1 rows n i) := h1.keeps (((Keeps.refl (fun _ => False) _).alloc _).drew) (fun _ _ _ h => h)
            have h3 : Whole (((wr.setCell ⟨g, i, none⟩ (.slice (some ⟨wr.heap.size, 0, none⟩) 1 1)).alloc (.cells #[.int .i64 (1048576 * (n : Int) + (i : Int) + 1)] 3)).drew) wr.heap.size 3 #[.int .i64 (1048576 * (n : Int) + (i : Int) + 1)] := by
              have h4 := (Whole.made (wr.setCell ⟨g, i, none⟩ (.slice (some ⟨wr.heap.size, 0, none⟩) 1 1)) 3 #[.int .i64 (1048576 * (n : Int) + (i : Int) + 1)]).drew
              rw [show (wr.setCell ⟨g, i, none⟩ (.slice (some ⟨wr.heap.size, 0, none⟩) 1 1)).heap.size = wr.heap.size by simp] at h4
              exact h4
            exact h2.add h3 (fun k j h => U1_next h))
          clear hW hsz HI HI1 HB
          go_wp2_with fail
          go_region_with (first | (go_at_call 82; refine (numB_any n i _ (by omega) (by omega)).mono ?_; rintro e w1 ⟨rfl, rfl⟩))
          all_goals
            go_wp2_with fail
            go_roundw
            case rel => exact ⟨i + 1, _, by omega, by go_num, HP, HB1⟩
            case measure => (simp [intOf] <;> omega)
        · obtain rfl : i = rl := by omega
          have HM := Lib.hid (HI.out.leave HRr.out)
          have HB2 : Hid (MBs wr f (U1 rows (n + 1) 0)) := Lib.hid (HB.out.sub (fun k j h => U1_list HRr.out h))
          clear HI HB
          go_wp2_with fail
          go_roundw
          case rel => exact ⟨n + 1, f, by omega, by go_num, HM, HB2⟩
          case measure => (simp [intOf] <;> omega)
    · obtain rfl : n = rows.length := by omega
      have HG0 := Lib.hid (Going.start (eo := 24) (base := wr.heap.size) HM.out rfl)
      have HB0 : Hid (MBs wr f (U2 rows 0 0)) := Lib.hid (HB.out.sub (fun k j h => U1_all h))
      have hb0 := HM.out.keeps.size
      clear hlt HM HFr HB
      go_wp2_with fail
      clear c0
      generalize wr.heap.size = base at *
      go_loopw [5, 6, 7] (fun vo vm v wq => ∃ (n : Nat) (f : Nat → Nat → Nat) (ov mv : Value) (ones mores : List Value) (D : Nat → Prop), n ≤ rows.length ∧ v = .int .i64 n ∧ ov = vo ∧ mv = vm ∧ Hid (Going (mkW f) 81 24 1 base rows w wq n ov mv ones mores D) ∧ Hid (MBs wq f (U2 rows n 0))) (fun _ _ v _ => rows.length - (intOf v).toNat)
      case atStart => exact ⟨0, f, _, _, [], [], fun _ => False, by omega, rfl, rfl, rfl, HG0, HB0⟩
      case round =>
        clear HG0 HB0
        obtain ⟨n, f, ov, mv, ones, mores, D, hnr, rfl, rfl, rfl, HG, HB⟩ := hrel
        have HFr := Lib.hid (HF.out.keeps HG.out.keeps)
        have c0 := HFr.out.hp
        by_cases hlt : n < rows.length
        · obtain ⟨r, hr⟩ : ∃ r, rows[n]? = some r := ⟨_, List.getElem?_eq_getElem hlt⟩
          have c1 := HFr.out.hO n r hr
          have HI0 := Lib.hid (HG.out.enter HAp.out hr)
          have hrl := HL.out n r hr
          have HRr := Lib.hid hr
          obtain ⟨ra, rl, rc⟩ := r
          clear HG hr HFr
          go_wp2_with fail
          clear c0 c1
          go_loopw [5, 8, 9] (fun vo vl v wq => ∃ (m c lcap : Nat) (lA : Option Addr) (f : Nat → Nat → Nat) (ones : List Value) (E : Nat → Prop), m ≤ 70 ∧ v = .int .i64 ((rl : Int) + (m : Int)) ∧ vl = .slice lA (rl + m) lcap ∧ c = (if m = 0 then n else n + 1) ∧ Hid (GoingIn (mkW f) 81 24 1 base rows w wq n m c vo mv vl ones mores D E ⟨ra, rl, rc⟩) ∧ Hid (MBs wq f (U2 rows n m))) (fun _ _ v _ => (rl : Int).toNat + 70 - (intOf v).toNat)
          case atStart => exact ⟨0, n, rc, ra, f, ones, _, by omega, by simp, rfl, rfl, HI0, HB⟩
          case round =>
            clear HI0 HB
            obtain ⟨m, c, lcap, lA, f, ones, E, hm, rfl, rfl, hc, HI, HB⟩ := hrel
            have HFr := Lib.hid (HF.out.keeps HI.out.keeps)
            have c0 := HFr.out.hp
            have c1 := HFr.out.hO n _ HRr.out
            obtain ⟨wq, rfl⟩ : ∃ wq : World, wq = wr := ⟨_, rfl⟩
            by_cases hm0 : m = 0
            · subst hm0
              obtain rfl : c = n := by simpa using hc
              clear hc hm
              have hszA : (wq.alloc (.cells #[.int .i64 (1048576 * (c : Int) + (rl : Int) + 1)] 3)).heap.size = wq.heap.size + 1 := by simp
              have HI1 := Lib.hid ((HI.out.calm ((Keeps.refl (fun _ => False) wq).alloc (.cells #[.int .i64 (1048576 * (c : Int) + (rl : Int) + 1)] 3))).congr (mk' := mkW (upd f c (rl) wq.heap.size)) (fun k j h => upd_far h))
              have own0 : Hid ((wq.alloc (.cells #[.int .i64 (1048576 * (c : Int) + (rl : Int) + 1)] 3)).ownsRow 0 81 1 (.slice lA (rl) lcap) (rl) (marks (mkW (upd f c (rl) wq.heap.size)) c (rl))) := Lib.hid HI1.out.own
              have hmk : mkW (upd f c (rl) wq.heap.size) c (rl) = [.slice (some ⟨wq.heap.size, 0, none⟩) 1 1] := by unfold mkW; rw [upd_here]
              have HBA : Hid (MBs (wq.alloc (.cells #[.int .i64 (1048576 * (c : Int) + (rl : Int) + 1)] 3)) (upd f c (rl) wq.heap.size) (U2 rows c 1)) := Lib.hid ((HB.out.keeps ((Keeps.refl (fun _ => False) wq).alloc _) (fun _ _ _ h => h)).add (n := c) (i := rl) (by have hh := Whole.made wq 3 #[.int .i64 (1048576 * (c : Int) + (rl : Int) + 1)]; first | exact hh | (rw [Int.natCast_add]; exact hh)) (fun k j h => U2_next HRr.out h))
              have ca0 : ∀ o, (wq.alloc o).cell? ⟨p, 12, none⟩ = some (.slice (some ⟨gO, 0, none⟩) rows.length capO) := fun o => (World.cell?_alloc_lt wq o _ (by exact HFr.out.lt.1)).trans c0
              have ca1 : ∀ o, (wq.alloc o).cell? ⟨gO, c, none⟩ = some (.slice ra rl rc) := fun o => (World.cell?_alloc_lt wq o _ (by exact HFr.out.lt.2)).trans c1
              go_wp2_with fail
              refine (numB_any c _ _ (by omega) (by omega)).mono ?_
              rintro e w1 ⟨rfl, rfl⟩
              go_wp2_with (first
                | (at_builtin; (refine wpList_append_cells _ rfl (.tmp 79) (.tmp 84) 24 rfl 0 81 (.slice none 0 0) 1 24 Tryd.underlying24 info_rwB rfl (by decide) _ (rl) _ rfl (own0.out.alloc _) (wq.heap.size + 1 + 1) (some ⟨wq.heap.size + 1, 0, none⟩) 1 1 [.slice (some ⟨wq.heap.size, 0, none⟩) 1 1] rfl (by have hh := heap_alloc_new (wq.alloc (.cells #[.int .i64 (1048576 * (c : Int) + (rl : Int) + 1)] 3)) (.cells #[.slice (some ⟨wq.heap.size, 0, none⟩) 1 1] 81); rw [hszA] at hh; exact Lies.row (t := 81) (fr := (0, 0)) hh (Nat.lt_succ_self _)) rfl (by simp [Value.oneCell']) (by unfold maxLen; omega) (by omega) (by simp) ?_); intro A' cap' w1 h1 h2 h3 _ h4; obtain ⟨E1, hI1⟩ := HI1.out.pushed (mkW_length _) (by show w1.ownsRow 0 _ 1 (.slice A' (rl + 1) cap') (rl + 1) (marks _ c rl ++ mkW _ c rl); rw [hmk]; exact h1) h2 h3 h4; have HB2 : Hid (MBs w1 (upd f c (rl) wq.heap.size) (U2 rows c 1)) := Lib.hid (HBA.out.keeps (((Keeps.refl (fun b => (Value.slice lA (rl) lcap).ownBlock = some b) _).alloc _).grown h2 (fun b hb _ => hb)) (fun b cs hb => row_kindB own0.out hb (by decide))); have HI2 := Lib.hid hI1; have HF1 := Lib.hid (HF.out.keeps hI1.keeps); clear h1 h2 h3 h4 hI1 c0 c1; have d0 := HF1.out.hp; have d1 := HF1.out.hO c _ HRr.out)
                | (at_builtin; (refine wpList_append_cells _ rfl (.tmp 96) (.tmp 98) 60 rfl base 24 (.slice none 0 0) 1 24 Tryd.underlying60 info_rwsB rfl (by decide) _ c _ rfl (HI2.out.one.alloc _) (w1.heap.size + 1) (some ⟨w1.heap.size, 0, none⟩) 1 1 [.slice A' (rl + 1) cap'] rfl (Lies.row (t := 24) (fr := (0, 0)) (heap_alloc_new w1 _) (by simp)) rfl (by simp [Value.oneCell']) (by unfold maxLen; omega) (by omega) (by have := HI2.out.big; simp; omega) ?_); intro A2 cap2 w2 h1 h2 h3 _ h4; have HB3 : Hid (MBs w2 (upd f c (rl) wq.heap.size) (U2 rows c 1)) := Lib.hid (HB2.out.keeps (((Keeps.refl _ w1).alloc _).grown h2 (fun b hb _ => hb)) (fun b cs hb => row_kindB HI2.out.one hb (by decide))); have HI3 := Lib.hid (HI2.out.took hb0 rfl (pushed_of HI2.out.one h1 h2 h3 h4)); clear h1 h2 h3 h4 HI2))
              go_roundw
              case rel => exact ⟨1, c + 1, cap', A', _, _, E1, by omega, by go_num, rfl, rfl, HI3, HB3⟩
              case measure => (simp [intOf] <;> omega)
            · obtain rfl : c = n + 1 := by rw [if_neg hm0] at hc; exact hc
              clear hc
              by_cases hm7 : m < 70
              · have hne : ¬ ((rl : Int) + (m : Int) = (rl : Int)) := by omega
                have hszA : (wq.alloc (.cells #[.int .i64 (1048576 * (n : Int) + ((rl : Int) + (m : Int)) + 1)] 3)).heap.size = wq.heap.size + 1 := by simp
                have HI1 := Lib.hid ((HI.out.calm ((Keeps.refl (fun _ => False) wq).alloc (.cells #[.int .i64 (1048576 * (n : Int) + ((rl : Int) + (m : Int)) + 1)] 3))).congr (mk' := mkW (upd f n (rl + m) wq.heap.size)) (fun k j h => upd_far h))
                have own0 : Hid ((wq.alloc (.cells #[.int .i64 (1048576 * (n : Int) + ((rl : Int) + (m : Int)) + 1)] 3)).ownsRow 0 81 1 (.slice lA (rl + m) lcap) (rl + m) (marks (mkW (upd f n (rl + m) wq.heap.size)) n (rl + m))) := Lib.hid HI1.out.own
                have hmk : mkW (upd f n (rl + m) wq.heap.size) n (rl + m) = [.slice (some ⟨wq.heap.size, 0, none⟩) 1 1] := by unfold mkW; rw [upd_here]
                have HBA : Hid (MBs (wq.alloc (.cells #[.int .i64 (1048576 * (n : Int) + ((rl : Int) + (m : Int)) + 1)] 3)) (upd f n (rl + m) wq.heap.size) (U2 rows n (m + 1))) := Lib.hid ((HB.out.keeps ((Keeps.refl (fun _ => False) wq).alloc _) (fun _ _ _ h => h)).add (n := n) (i := rl + m) (by have hh := Whole.made wq 3 #[.int .i64 (1048576 * (n : Int) + ((rl : Int) + (m : Int)) + 1)]; first | exact hh | (rw [Int.natCast_add]; exact hh)) (fun k j h => U2_next HRr.out h))
                have ca0 : ∀ o, (wq.alloc o).cell? ⟨p, 12, none⟩ = some (.slice (some ⟨gO, 0, none⟩) rows.length capO) := fun o => (World.cell?_alloc_lt wq o _ (by exact HFr.out.lt.1)).trans c0
                have ca1 : ∀ o, (wq.alloc o).cell? ⟨gO, n, none⟩ = some (.slice ra rl rc) := fun o => (World.cell?_alloc_lt wq o _ (by exact HFr.out.lt.2)).trans c1
                go_wp2_with fail
                refine (numB_any n _ _ (by omega) (by omega)).mono ?_
                rintro e w1 ⟨rfl, rfl⟩
                go_wp2_with (at_builtin; (refine wpList_append_cells _ rfl (.tmp 79) (.tmp 84) 24 rfl 0 81 (.slice none 0 0) 1 24 Tryd.underlying24 info_rwB rfl (by decide) _ (rl + m) _ rfl (own0.out.alloc _) (wq.heap.size + 1 + 1) (some ⟨wq.heap.size + 1, 0, none⟩) 1 1 [.slice (some ⟨wq.heap.size, 0, none⟩) 1 1] rfl (by have hh := heap_alloc_new (wq.alloc (.cells #[.int .i64 (1048576 * (n : Int) + ((rl : Int) + (m : Int)) + 1)] 3)) (.cells #[.slice (some ⟨wq.heap.size, 0, none⟩) 1 1] 81); rw [hszA] at hh; exact Lies.row (t := 81) (fr := (0, 0)) hh (Nat.lt_succ_self _)) rfl (by simp [Value.oneCell']) (by unfold maxLen; omega) (by omega) (by simp) ?_); intro A' cap' w1 h1 h2 h3 _ h4; obtain ⟨E1, hI1⟩ := HI1.out.pushed (mkW_length _) (by show w1.ownsRow 0 _ 1 (.slice A' (rl + m + 1) cap') (rl + m + 1) (marks _ n (rl + m) ++ mkW _ n (rl + m)); rw [hmk]; exact h1) h2 h3 h4; have HB2 : Hid (MBs w1 (upd f n (rl + m) wq.heap.size) (U2 rows n (m + 1))) := Lib.hid (HBA.out.keeps (((Keeps.refl (fun b => (Value.slice lA (rl + m) lcap).ownBlock = some b) _).alloc _).grown h2 (fun b hb _ => hb)) (fun b cs hb => row_kindB own0.out hb (by decide))); have HI2 := Lib.hid hI1; have HF1 := Lib.hid (HF.out.keeps hI1.keeps); clear h1 h2 h3 h4 hI1 c0 c1; have d0 := HF1.out.hp; have d1 := HF1.out.hO n _ HRr.out)
                go_roundw
                case rel => exact ⟨m + 1, n + 1, cap', A', _, _, E1, by omega, by go_num, rfl, rfl, HI2, HB2⟩
                case measure => (simp [intOf] <;> omega)
              · obtain rfl : m = 70 := by omega
                clear hm hm0 hm7
                go_wp2_with (at_builtin; (refine wpList_append_cells _ rfl (.tmp 100) (.tmp 102) 60 rfl base 24 (.slice none 0 0) 1 24 Tryd.underlying60 info_rwsB rfl (by decide) _ n _ rfl (HI.out.more.alloc _) (wq.heap.size + 1) (some ⟨wq.heap.size, 0, none⟩) 1 1 [.slice lA (rl + 70) lcap] rfl (Lies.row (t := 24) (fr := (0, 0)) (heap_alloc_new wq _) (by simp)) rfl (by simp [Value.oneCell']) (by unfold maxLen; omega) (by omega) (by have := HI.out.big; simp; omega) ?_); intro A2 cap2 w2 h1 h2 h3 _ h4; have HB3 : Hid (MBs w2 f (U2 rows (n + 1) 0)) := Lib.hid ((HB.out.keeps (((Keeps.refl _ wq).alloc _).grown h2 (fun b hb _ => hb)) (fun b cs hb => row_kindB HI.out.more hb (by decide))).sub (fun k j h => U2_list h)); have HG := Lib.hid (HI.out.leave HRr.out hb0 rfl (pushed_of HI.out.more h1 h2 h3 h4)); clear h1 h2 h3 h4 HI HB)
                go_roundw
                case rel => exact ⟨n + 1, f, _, _, _, _, _, by omega, by go_num, rfl, rfl, HG, HB3⟩
                case measure => (simp [intOf] <;> omega)
        · obtain rfl : n = rows.length := by omega
          clear hlt hb0
          obtain ⟨wq, rfl⟩ : ∃ wq : World, wq = wr := ⟨_, rfl⟩
          obtain ⟨mA, mcap, rfl, _, _⟩ := own_slice HG.out.more
          obtain ⟨oA, ocap, rfl, _, _⟩ := own_slice HG.out.one
          have HLm := Lib.hid (own_lies HG.out.more)
          have HLo := Lib.hid (own_lies HG.out.one)
          go_wp2_with fail
          clear c0
          go_loopw [10] (fun v wr => ∃ n : Nat, n ≤ rows.length ∧ v = .int .i64 n ∧ Hid (Keeps (fun _ => False) wq wr)) (fun v _ => rows.length - (intOf v).toNat)
          case atStart => exact ⟨0, by omega, rfl, Lib.hid (Keeps.refl _ _)⟩
          case round =>
            obtain ⟨n, hn2, rfl, HK⟩ := hrel
            by_cases hlt : n < rows.length
            · obtain ⟨r, hr⟩ : ∃ r, rows[n]? = some r := ⟨_, List.getElem?_eq_getElem hlt⟩
              obtain ⟨h1, ⟨a, c, h2, h3⟩, a', c', h4, h5⟩ := HG.out.did n hlt r hr
              obtain ⟨gm, om, rfl, hgm, hcm⟩ := HLm.out n _ h4
              obtain ⟨go, oo, rfl, hgo, hco⟩ := HLo.out n _ h2
              have hrl := HL.out n r hr
              have c0 := HFr.out.hp
              have c1 := HFr.out.hO n r hr
              have HLT := Lib.hid HG.out.lt
              have hF := HFr.out.lt
              have HX : Hid (∀ i, i < r.len + 70 → Whole wq (f n i) 3 #[.int .i64 (1048576 * (n : Int) + (i : Int) + 1)]) := Lib.hid (fun i hi => HB.out n i ⟨r, hr, .inr (.inl ⟨hlt, hi⟩)⟩)
              obtain ⟨ra, rl, rc⟩ := r
              have H1 := Lib.hid h1; have H3 := Lib.hid h3; have H5 := Lib.hid h5
              have HC : Hid (∀ W, Keeps (fun _ => False) wq W → W.cell? ⟨p, 12, none⟩ = some (.slice (some ⟨gO, 0, none⟩) rows.length capO) ∧ W.cell? ⟨gO, n, none⟩ = some (.slice ra rl rc) ∧ W.cell? ⟨gm, om + n, none⟩ = some (.slice a' (rl + 70) c') ∧ W.cell? ⟨go, oo + n, none⟩ = some (.slice a (rl + 1) c)) := Lib.hid (fun W hW => ⟨(hW.cell hF.1 id).trans c0, (hW.cell hF.2 id).trans c1, (hW.cell hgm id).trans hcm, (hW.cell hgo id).trans hco⟩)
              clear h1 h2 h3 h4 h5 hr c0 c1 hcm hco hgm hgo
              obtain ⟨c0, c1, c2, c3⟩ := HC.out wr HK.out
              go_wp2_with fail
              clear c0 c1 c2 c3
              go_loopw [11] (fun v wr => ∃ i : Nat, i ≤ rl + 70 ∧ v = .int .i64 i ∧ Hid (Keeps (fun _ => False) wq wr)) (fun v _ => rl + 70 - (intOf v).toNat)
              case atStart => exact ⟨0, by omega, rfl, HK⟩
              case round =>
                clear HK
                obtain ⟨i, hi, rfl, HK⟩ := hrel
                obtain ⟨c0, c1, c2, c3⟩ := HC.out wr HK.out
                by_cases hil : i < rl + 70
                · have qx : wr.cell? ⟨f n i, 0, none⟩ = some (.int .i64 (1048576 * (n : Int) + (i : Int) + 1)) := ((HX.out i hil).keeps HK.out id).cellAt 0
                  obtain ⟨b5, hA, hD, d0⟩ := H5.out i _ (mkW_at f n _ i hil)
                  obtain rfl := hA
                  have hltb5 := HLT.out _ hD
                  have qb5 : wr.cell? ⟨b5, i, none⟩ = some (.slice (some ⟨f n i, 0, none⟩) 1 1) := (HK.out.cell hltb5 id).trans d0
                  clear d0 hD hltb5
                  rcases Nat.lt_trichotomy i rl with h | h | h
                  · skip
                    obtain ⟨b1, hA, hD, d0⟩ := H1.out i _ (mkW_at f n _ i h)
                    obtain rfl := hA
                    have hltb1 := HLT.out _ hD
                    have qb1 : wr.cell? ⟨b1, i, none⟩ = some (.slice (some ⟨f n i, 0, none⟩) 1 1) := (HK.out.cell hltb1 id).trans d0
                    clear d0 hD hltb1
                    have hlI : (i : Int) < (rl : Int) := by omega
                    have hne : ¬ ((i : Int) = (rl : Int)) := by omega
                    go_wp2_with fail
                    go_quiet (first | (go_at_call 82; refine Calls.quiet_of_same (numB_same n i _ (by omega) (by omega))))
                    go_wp2_with fail
                    go_quiet (first | (go_at_call 82; refine calls_joinedB (numB_same n i _ (by omega) (by omega))))
                    go_wp2_with fail
                    go_roundw
                    case rel => exact ⟨i + 1, by omega, by go_num, Lib.hid (HK.out.drewN _)⟩
                    case measure => (simp [intOf] <;> omega)
                  · obtain rfl : i = rl := h
                    obtain ⟨b3, hA, hD, d0⟩ := H3.out i _ (mkW_at f n _ i (by omega))
                    obtain rfl := hA
                    have hltb3 := HLT.out _ hD
                    have qb3 : wr.cell? ⟨b3, i, none⟩ = some (.slice (some ⟨f n i, 0, none⟩) 1 1) := (HK.out.cell hltb3 id).trans d0
                    clear d0 hD hltb3
                    go_wp2_with fail
                    go_quiet (first | (go_at_call 82; refine Calls.quiet_of_same (numB_same n i _ (by omega) (by omega))))
                    go_wp2_with fail
                    go_quiet (first | (go_at_call 82; refine calls_joinedB (numB_same n i _ (by omega) (by omega))))
                    go_wp2_with fail
                    go_roundw
                    case rel => exact ⟨i + 1, by omega, by go_num, Lib.hid (HK.out.drewN _)⟩
                    case measure => (simp [intOf] <;> omega)
                  · skip
                    have hne : ¬ ((i : Int) = (rl : Int)) := by omega
                    have hge : ¬ ((i : Int) < (rl : Int)) := by omega
                    go_wp2_with fail
                    go_quiet (first | (go_at_call 82; refine Calls.quiet_of_same (numB_same n i _ (by omega) (by omega))))
                    go_wp2_with fail
                    go_quiet (first | (go_at_call 82; refine calls_joinedB (numB_same n i _ (by omega) (by omega))))
                    go_wp2_with fail
                    go_roundw
                    case rel => exact ⟨i + 1, by omega, by go_num, Lib.hid (HK.out.drewN _)⟩
                    case measure => (simp [intOf] <;> omega)
                · obtain rfl : i = rl + 70 := by omega
                  go_wp2_with fail
                  go_roundw
                  case rel => exact ⟨n + 1, by omega, by go_num, HK⟩
                  case measure => (simp [intOf] <;> omega)
            · obtain rfl : n = rows.length := by omega
              have HK2 := Lib.hid (HG.out.keeps.trans (HK.out.mono (T := blks rows) (fun _ _ h => h.elim)))
              go_wp2_with fail
              go_ret
              exact ⟨rfl, HK2.out⟩
end Go.Proofs.YthmfbcfbcookiaaDoor
