/-
  Chapter 04: apart: lists of numbers that share no memory are told apart: the walk. Conditions: at most 40 lists, of at most 10 ^ 9 numbers.
-/
import Derived.Test.YtbfhbekocgdceaaRcP
import Derived.Test.YtbfhbekocgdceaaRcA
import Derived.IntWalk
namespace Go.Proofs.Ytbfhbekocgdceaa
open Go.RowKit
theorem info_isR : (Try.prog.info? 44).map (fun i => (i.zero, i.size, i.bytes)) = some (some (.slice none 0 0), 1, 24) := by kernel_rfl
/-- The mark i of the list n. -/
def mkR (n i : Nat) : List Value := [.int .i64 (1000003 * (n : Int) + (i : Int))]
theorem mkR_length (n i : Nat) : (mkR n i).length = 1 := rfl
theorem mkR_add (n l m : Nat) : mkR n (l + m) = [.int .i64 (1000003 * (n : Int) + (l : Int) + (m : Int))] := by unfold mkR; rw [Int.natCast_add, Int.add_assoc]
theorem mkR_at (k m i : Nat) (h : i < m) : (marks mkR k m)[i]? = some (.int .i64 (1000003 * (k : Int) + (i : Int))) := by
  have := marks_get mkR mkR_length k m i 0 h (by decide)
  rw [Nat.mul_one, Nat.add_zero] at this
  rw [this]; rfl
set_option maxRecDepth 100000 in
set_option maxHeartbeats 4000000 in
theorem rapart_any (gO capO : Nat) (rows : List Sl) (w : World) (hF : RowFix w gO rows) (hR : SlRows 3 1 rows w) (hn : rows.length ≤ 40) (hl : ∀ (k : Nat) (r : Sl), rows[k]? = some r → r.len ≤ 1000000000) :
    Calls Try.prog 31 #[.slice (some ⟨gO, 0, none⟩) rows.length capO] w fun e w' => e = .returned (.bool true) ∧ Keeps (blks rows) w w' := by
  have HF := Lib.hid hF
  have HAp := Lib.hid hR.apart
  have HM0 : Hid (Marked mkR 3 1 rows w w 0) := Lib.hid (Marked.start hR (Keeps.refl _ _))
  have HL := Lib.hid hl
  clear hl hR hF
  go_enter Try.func31, Try.ntmps31
  go_wp2_with fail
  go_loopw [4] (fun v wr => ∃ n : Nat, n ≤ rows.length ∧ v = .int .i64 n ∧ Hid (Marked mkR 3 1 rows w wr n)) (fun v _ => rows.length - (intOf v).toNat)
  case atStart => exact ⟨0, by omega, rfl, HM0⟩
  case round =>
    clear HM0
    obtain ⟨n, hnr, rfl, HM⟩ := hrel
    have HFr := Lib.hid (HF.out.keeps HM.out.keeps)
    by_cases hlt : n < rows.length
    · obtain ⟨r, hr⟩ : ∃ r, rows[n]? = some r := ⟨_, List.getElem?_eq_getElem hlt⟩
      have c1 := HFr.out.hO n r hr
      have HI0 := Lib.hid (HM.out.enter hr)
      have hrl := HL.out n r hr
      have HRr := Lib.hid hr
      obtain ⟨ra, rl, rc⟩ := r
      clear HM hr
      go_wp2_with fail
      clear c1
      go_loopw [5] (fun v wr => ∃ i : Nat, i ≤ rl ∧ v = .int .i64 i ∧ Hid (MarkedIn mkR 3 1 rows w wr n i ⟨ra, rl, rc⟩)) (fun v _ => rl - (intOf v).toNat)
      case atStart => exact ⟨0, by omega, rfl, HI0⟩
      case round =>
        clear HI0 HFr
        obtain ⟨i, hir, rfl, HI⟩ := hrel
        have HFr := Lib.hid (HF.out.keeps HI.out.keeps)
        have c1 := HFr.out.hO n _ HRr.out
        by_cases hil : i < rl
        · obtain ⟨g, cs, hg, hW, hsz⟩ := HI.out.cell hil
          obtain rfl : ra = some ⟨g, 0, none⟩ := hg
          obtain ⟨u, hu⟩ : ∃ u, wr.cell? ⟨g, i, none⟩ = some u := ⟨_, (hW.cellAt i).trans (Array.getElem?_eq_getElem (by simp only [Nat.mul_one] at hsz; omega))⟩
          have hfr := hW.free i
          clear hW hsz
          have HP := Lib.hid (HI.out.put (u := .int .i64 (1000003 * (n : Int) + (i : Int))) HRr.out HAp.out hil rfl rfl)
          clear HI
          go_wp2_with fail
          go_roundw
          case rel => exact ⟨i + 1, by omega, by go_num, HP⟩
          case measure => (simp [intOf] <;> omega)
        · obtain rfl : i = rl := by omega
          have HM := Lib.hid (HI.out.leave HRr.out)
          clear HI
          go_wp2_with fail
          go_roundw
          case rel => exact ⟨n + 1, by omega, by go_num, HM⟩
          case measure => (simp [intOf] <;> omega)
    · obtain rfl : n = rows.length := by omega
      have HG0 := Lib.hid (Gng.start (eo := 44) (base := wr.heap.size) HM.out rfl)
      have hb0 := HM.out.keeps.size
      clear hlt HM HFr
      go_wp2_with fail
      generalize wr.heap.size = base at *
      go_loopw [3, 6] (fun vm v wq => ∃ (n : Nat) (mv : Value) (mores : List Value) (D : Nat → Prop), n ≤ rows.length ∧ v = .int .i64 n ∧ mv = vm ∧ Hid (Gng mkR 3 44 1 base rows w wq n mv mores D)) (fun _ v _ => rows.length - (intOf v).toNat)
      case atStart => exact ⟨0, _, [], fun _ => False, by omega, rfl, rfl, HG0⟩
      case round =>
        clear HG0
        obtain ⟨n, mv, mores, D, hnr, rfl, rfl, HG⟩ := hrel
        have HFr := Lib.hid (HF.out.keeps HG.out.keeps)
        by_cases hlt : n < rows.length
        · obtain ⟨r, hr⟩ : ∃ r, rows[n]? = some r := ⟨_, List.getElem?_eq_getElem hlt⟩
          have c1 := HFr.out.hO n r hr
          have HI0 := Lib.hid (HG.out.enter HAp.out hr)
          have hrl := HL.out n r hr
          have HRr := Lib.hid hr
          obtain ⟨ra, rl, rc⟩ := r
          clear HG hr HFr
          go_wp2_with fail
          clear c1
          go_loopw [7, 8] (fun vl v wq => ∃ (m lcap : Nat) (lA : Option Addr) (E : Nat → Prop), m ≤ 70 ∧ v = .int .i64 (m : Int) ∧ vl = .slice lA (rl + m) lcap ∧ Hid (GngIn mkR 3 44 1 base rows w wq n m mv vl mores D E ⟨ra, rl, rc⟩)) (fun _ v _ => 70 - (intOf v).toNat)
          case atStart => exact ⟨0, rc, ra, _, by omega, rfl, rfl, HI0⟩
          case round =>
            clear HI0
            obtain ⟨m, lcap, lA, E, hm, rfl, rfl, HI⟩ := hrel
            have HFr := Lib.hid (HF.out.keeps HI.out.keeps)
            have c1 := HFr.out.hO n _ HRr.out
            clear HFr
            obtain ⟨wq, rfl⟩ : ∃ wq : World, wq = wr := ⟨_, rfl⟩
            by_cases hm7 : m < 70
            · go_wp2_with (at_builtin; (refine wpList_append_cells _ rfl (.tmp 50) (.tmp 61) 44 rfl 0 3 (.int .i64 0) 1 8 Try.underlying44 info_cI rfl (by decide) _ (rl + m) _ rfl (HI.out.own.alloc _) (wq.heap.size + 1) (some ⟨wq.heap.size, 0, none⟩) 1 1 (mkR n (rl + m)) rfl (by rw [mkR_add]; exact Lies.row (t := 3) (fr := (0, 0)) (heap_alloc_new wq _) (by simp)) rfl (by simp [mkR, Value.oneCell']) (by unfold maxLen; omega) (by omega) (by simp) ?_); intro A' cap' w1 h1 h2 h3 _ h4; obtain ⟨E1, hi1⟩ := HI.out.pushed mkR_length h1 h2 h3 h4; have HI1 := Lib.hid hi1; clear h1 h2 h3 h4 hi1)
              go_roundw
              case rel => exact ⟨m + 1, cap', A', E1, by omega, by go_num, rfl, HI1⟩
              case measure => (simp [intOf] <;> omega)
            · obtain rfl : m = 70 := by omega
              clear hm hm7
              go_wp2_with (at_builtin; (refine wpList_append_cells _ rfl (.tmp 63) (.tmp 65) 63 rfl base 44 (.slice none 0 0) 1 24 Try.underlying63 info_isR rfl (by decide) _ n _ rfl (HI.out.more.alloc _) (wq.heap.size + 1) (some ⟨wq.heap.size, 0, none⟩) 1 1 [.slice lA (rl + 70) lcap] rfl (Lies.row (t := 44) (fr := (0, 0)) (heap_alloc_new wq _) (by simp)) rfl (by simp [Value.oneCell']) (by unfold maxLen; omega) (by omega) (by have := HI.out.big; simp; omega) ?_); intro A' cap' w1 h1 h2 h3 _ h4; have HG := Lib.hid (HI.out.leave HRr.out hb0 rfl (pushed_of HI.out.more h1 h2 h3 h4)); clear h1 h2 h3 h4)
              go_roundw
              case rel => exact ⟨n + 1, _, _, _, by omega, by go_num, rfl, HG⟩
              case measure => (simp [intOf] <;> omega)
        · obtain rfl : n = rows.length := by omega
          clear hlt hb0
          obtain ⟨wq, rfl⟩ : ∃ wq : World, wq = wr := ⟨_, rfl⟩
          obtain ⟨mA, mcap, rfl, _, _⟩ := own_slice HG.out.more
          have HLm := Lib.hid (own_lies HG.out.more)
          go_wp2_with fail
          go_loopw [9] (fun v wr => ∃ n d : Nat, n ≤ rows.length ∧ v = .int .i64 n ∧ wr = wq.drewN d) (fun v _ => rows.length - (intOf v).toNat)
          case atStart => exact ⟨0, 0, by omega, rfl, rfl⟩
          case round =>
            obtain ⟨n, d, hn2, rfl, rfl⟩ := hrel
            by_cases hlt : n < rows.length
            · obtain ⟨r, hr⟩ : ∃ r, rows[n]? = some r := ⟨_, List.getElem?_eq_getElem hlt⟩
              obtain ⟨h1, a', c', h4, h5⟩ := HG.out.did n hlt r hr
              obtain ⟨gm, om, rfl, _, hcm⟩ := HLm.out n _ h4
              have hrl := HL.out n r hr
              have c1 := HFr.out.hO n r hr
              obtain ⟨ra, rl, rc⟩ := r
              have H1 := Lib.hid h1; have H5 := Lib.hid h5
              clear h1 h4 h5 hr
              have hnI : (n : Int) < (rows.length : Int) := by omega
              go_wp2_with fail
              go_loopw [10] (fun v wr => ∃ i d : Nat, i ≤ rl + 70 ∧ v = .int .i64 i ∧ wr = wq.drewN d) (fun v _ => rl + 70 - (intOf v).toNat)
              case atStart => exact ⟨0, d, by omega, rfl, rfl⟩
              case round =>
                obtain ⟨i, d, hi, rfl, rfl⟩ := hrel
                by_cases hil : i < rl + 70
                · obtain ⟨b5, rfl, _, d5⟩ := H5.out i _ (mkR_at n _ i hil)
                  have hiI : (i : Int) < (rl : Int) + 70 := by omega
                  have hw1 : IntKind.i64.wrap (1000003 * (n : Int)) = 1000003 * (n : Int) := IntWalk.i64_in _ (by omega)
                  have hw2 : IntKind.i64.wrap (1000003 * (n : Int) + (i : Int)) = 1000003 * (n : Int) + (i : Int) := IntWalk.i64_in _ (by omega)
                  by_cases h : i < rl
                  · obtain ⟨b1, rfl, _, d1⟩ := H1.out i _ (mkR_at n _ i h)
                    have hiR : (i : Int) < (rl : Int) := by omega
                    go_wp2_with fail
                    go_quiet (fail)
                    clear hw1 hw2
                    go_wp2_with fail
                    go_roundw
                    case rel => exact ⟨i + 1, d + nq, by omega, by go_num, by first | rfl | trivial | exact World.drewN_drewN _ _ _⟩
                    case measure => (simp [intOf] <;> omega)
                  · have hd : decide (i < rl) = false := by simpa using h
                    go_wp2_with fail
                    go_quiet (fail)
                    clear hw1 hw2
                    go_wp2_with fail
                    go_roundw
                    case rel => exact ⟨i + 1, d + nq, by omega, by go_num, by first | rfl | trivial | exact World.drewN_drewN _ _ _⟩
                    case measure => (simp [intOf] <;> omega)
                · obtain rfl : i = rl + 70 := by omega
                  go_wp2_with fail
                  go_roundw
                  case rel => exact ⟨n + 1, d, by omega, by go_num, rfl⟩
                  case measure => (simp [intOf] <;> omega)
            · obtain rfl : n = rows.length := by omega
              have HK := Lib.hid HG.out.keeps
              go_wp2_with fail
              go_ret
              exact ⟨rfl, HK.out.drewN _⟩
end Go.Proofs.Ytbfhbekocgdceaa
