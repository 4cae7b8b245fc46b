/-
  The law SatSums: the walk. Conditions: the numbers are of their kinds.
-/
import Derived.Test.YtiphappckgmikaaSatSum
namespace Go.Proofs.Ytiphappckgmikaa
open Go.RowKit
theorem info_i8 : (Try.prog.info? 26).map (fun i => (i.zero, i.size, i.bytes)) = some (some (.int .i8 0), 1, 1) := by kernel_rfl
theorem info_i64 : (Try.prog.info? 2).map (fun i => (i.zero, i.size, i.bytes)) = some (some (.int .i64 0), 1, 8) := by kernel_rfl
def inAt (l : List Int) (i : Nat) : Value := .int .i8 (l.getD i 91)
theorem inAt_in (l : List Int) (i : Nat) (h : i < l.length) : inAt l i = .int .i8 l[i] := by unfold inAt; rw [List.getD_eq_getElem?_getD, List.getElem?_eq_getElem h]; rfl
theorem inAt_out (l : List Int) (i : Nat) (h : l.length ≤ i) : inAt l i = .int .i8 91 := by unfold inAt; rw [List.getD_eq_getElem?_getD, List.getElem?_eq_none h]; rfl
def inRow (l : List Int) (k : Nat) : Array Value := fillTo (l.length + 4) (inAt l) (.int .i8 0) k
theorem own_put {w : World} {base : Nat} {e : TypeId} {v : Value} {n : Nat} {xs : List Value} (h : w.ownsRow base e 1 v n xs) {p : Addr} (hp : p.block < base) (u : Value) : (w.setCell p u).ownsRow base e 1 v n xs := ownsRow_setCell_below h hp u
theorem heap_new2 {w : World} {o : Obj} {k : Nat} (h : k = w.heap.size) : (w.alloc o).heap[k]? = some o := by subst h; exact heap_alloc_new w o
theorem put_twice {w : World} {g : Nat} {t : TypeId} {cs : Array Value} (h : Whole w g t cs) (k : Nat) (u v : Value) : Whole ((w.setCell ⟨g, k, none⟩ u).setCell ⟨g, k, none⟩ v) g t (cs.setIfInBounds k v) := by
  have h1 := (h.put k u).put k v
  simpa using h1
theorem take_map_snoc (l : List Int) (k : Nat) (h : k < l.length) : (l.take k).map (Value.int .i64) ++ [.int .i64 l[k]] = (l.take (k + 1)).map (Value.int .i64) := by rw [take_snoc' l k h, List.map_append]; rfl
theorem cell_far {w : World} {p : Addr} {b o : Nat} (h : b ≠ p.block) (u : Value) : (w.setCell p u).cell? ⟨b, o, none⟩ = w.cell? ⟨b, o, none⟩ := World.cell?_of_block (Below.heap_setCell w p u b h)
theorem Whole.grown {w w' : World} {g : Nat} {t : TypeId} {cs : Array Value} {row : Option Nat} (h : Whole w g t cs) (hg : w.grownBy w' row) (hr : ∀ k, row = some k → g < k) : Whole w' g t cs :=
  (hg.block g h.inside (fun e => Nat.lt_irrefl _ (hr g e.symm))).trans h
theorem own_past {w w' : World} {base : Nat} {e : TypeId} {size : Nat} {v : Value} {n : Nat} {xs : List Value} (h : w.ownsRow base e size v n xs) (hb : Below w.heap.size w w') : w'.ownsRow base e size v n xs :=
  h.kept (row := none) ⟨hb.os, hb.tape, hb.output, hb.size, fun k hk _ => hb.block k hk⟩ (by cases v.ownBlock <;> simp)
theorem inRow_lies {w : World} {g B : Nat} {l : List Int} (h : Whole w g 26 (inRow l (l.length + 4))) (hB : g < B) : Lies w B (some ⟨g, 0, none⟩) (l.map (Value.int .i8)) := by
  refine Lies.whole h (fun k u hu => ?_) hB
  rcases Nat.lt_or_ge k l.length with hk | hk
  · rw [Nat.zero_add]
    unfold inRow
    rw [fillTo_get _ _ _ _ _ (by omega), if_pos (by omega), inAt_in l k hk, ← hu]
    simp [hk]
  · rw [List.getElem?_eq_none (by simpa using hk)] at hu; cases hu
theorem inRow_cell {w : World} {g : Nat} {l : List Int} (h : Whole w g 26 (inRow l (l.length + 4))) (k : Nat) (hk : k < l.length + 4) : w.cell? ⟨g, k, none⟩ = some (inAt l k) := by
  rw [h.cellAt]; unfold inRow; rw [fillTo_get _ _ _ _ _ hk, if_pos hk]
/-- What a round of the first loop leaves. -/
theorem round_one {w wr w' : World} {g k q cap : Nat} {A : Option Addr} {l xs : List Int} {o : Obj} (HO : wr.ownsRow (g + 1) 2 1 (.slice A q cap) q ((xs).map (Value.int .i64))) (HW : Whole wr g 26 (inRow l k)) (HB : Below w.heap.size w wr) (hg : w.heap.size ≤ g) (u v : Value) (hv : inAt l k = v)
    (hgr : (((wr.setCell ⟨g, k, none⟩ u).setCell ⟨g, k, none⟩ v).alloc o).grownBy w' (Value.slice A q cap).ownBlock) : Whole w' g 26 (inRow l (k + 1)) ∧ Below w.heap.size w w' := by
  subst hv
  have h1 := put_twice HW k u (inAt l k)
  unfold inRow at h1
  rw [fillTo_step] at h1
  have hlt : ∀ b, (Value.slice A q cap).ownBlock = some b → g < b := fun b hb => (HO.lt b hb).1
  have hB2 : Below w.heap.size w ((wr.setCell ⟨g, k, none⟩ u).setCell ⟨g, k, none⟩ (inAt l k)) := (HB.setCell hg _).setCell hg _
  exact ⟨(h1.alloc o).grown hgr hlt, (hB2.alloc hB2.size o).grown hgr (Nat.le_trans hB2.size (by simp)) (fun b hb => Nat.le_of_lt (Nat.lt_of_le_of_lt hg (hlt b hb)))⟩
set_option maxHeartbeats 1000000 in
set_option maxRecDepth 100000 in
theorem satSums_any (l m n : List Int) (A0 A1 A2 : Option Addr) (c0 c1 c2 : Nat) (w : World) (hl0 : Lies w w.heap.size A0 (l.map (Value.int .i8))) (hl1 : Lies w w.heap.size A1 (m.map (Value.int .i32))) (hl2 : Lies w w.heap.size A2 (n.map (Value.int .i64)))
    (hz0 : ∀ z ∈ l, -128 ≤ z ∧ z ≤ 127) (hz1 : ∀ z ∈ m, -2147483648 ≤ z ∧ z ≤ 2147483647) (hz2 : ∀ z ∈ n, -9223372036854775808 ≤ z ∧ z ≤ 9223372036854775807)
    (hm0 : l.length ≤ 140737488351232) (hm1 : m.length ≤ 140737488351232) (hm2 : n.length ≤ 140737488351232) :
    Calls Try.prog 4 #[.slice A0 l.length c0, .slice A1 m.length c1, .slice A2 n.length c2] w fun e w' => e = .returned (.bool true) ∧ Below w.heap.size w w' := by
  have HZ0 := Lib.hid hz0; have HZ1 := Lib.hid hz1; have HZ2 := Lib.hid hz2
  have HL0 : Hid (∀ w', Below w.heap.size w w' → Lies w' w'.heap.size A0 (l.map (Value.int .i8))) := Lib.hid fun w' hb => hl0.past hb
  have HL0' := Lib.hid hl0
  have HL1 : Hid (∀ w', Below w.heap.size w w' → Lies w' w'.heap.size A1 (m.map (Value.int .i32))) := Lib.hid fun w' hb => hl1.past hb
  have HL2 : Hid (∀ w', Below w.heap.size w w' → Lies w' w'.heap.size A2 (n.map (Value.int .i64))) := Lib.hid fun w' hb => hl2.past hb
  clear hl0 hl1 hl2 hz0 hz1 hz2
  by_cases hlong : 16777216 < l.length + m.length + n.length
  · go_enter Try.func4, Try.ntmps4
    go_wp2_with fail
    refine (works_any _).mono ?_
    rintro e w1 ⟨rfl, hb1⟩
    go_wp2_with fail
    go_ret
    exact ⟨rfl, hb1⟩
  · have hmk : ∀ w : World, (Instr.makeSlice 50 (.int .i64 ((l.length : Int) + 4)) (.int .i64 ((l.length : Int) + 4))).run Try.prog w = .ok (.slice (some ⟨w.heap.size, 0, none⟩) (l.length + 4) (l.length + 4)) (w.alloc (.cells (madeCells #[.int .i8 0] (l.length + 4)) 26)) := fun w => run_make_row' 50 26 (.int .i8 0) 1 Try.underlying50 info_i8 rfl .i64 .i64 (l.length + 4) (by omega) (by omega) w
    go_enter Try.func4, Try.ntmps4
    go_wp2_with fail
    refine (works_any _).mono ?_
    rintro e w1 ⟨rfl, hb1⟩
    have HB1 := Lib.hid hb1
    have hs1 := hb1.size
    clear hb1
    go_wp2_with fail
    clear hmk
    go_loopw [8, 11] (fun va vi wr => ∃ (k q : Nat) (A : Option Addr) (cap : Nat), k ≤ l.length + 4 ∧ Hid (q = min k l.length) ∧ vi = .int .i64 k ∧ va = .slice A q cap ∧ Hid (wr.ownsRow (w1.heap.size + 1) 2 1 (.slice A q cap) q ((l.take k).map (Value.int .i64))) ∧
      Hid (Whole wr w1.heap.size 26 (inRow l k)) ∧ Hid (Below w.heap.size w wr)) (fun _ vi _ => l.length + 4 - (intOf vi).toNat)
    case atStart =>
      refine ⟨0, 0, none, 0, by omega, Lib.hid (by omega), rfl, rfl, Lib.hid (World.ownsRow_nil _ _ _ _), Lib.hid ?_, Lib.hid (HB1.out.alloc HB1.out.size _)⟩
      unfold inRow
      rw [← fillTo_zero]
      exact Whole.made _ _ _
    case round =>
      clear HB1
      obtain ⟨k, q, A, cap, hk, hq, rfl, rfl, HO, HW, HB⟩ := hrel
      have hin := HW.out.inside
      by_cases hlt : k < l.length
      · obtain rfl : q = k := by have := hq.out; omega
        clear hq
        obtain ⟨gl, off, rfl, hgl, hcl⟩ := HL0'.out q (.int .i8 l[q]) (by simp [hlt])
        have hc0 : wr.cell? ⟨gl, off + q, none⟩ = some (.int .i8 l[q]) := (HB.out.cell (p := ⟨gl, off + q, none⟩) hgl).trans hcl
        clear hcl
        have hx := HZ0.out l[q] (List.getElem_mem hlt)
        have HS := Lib.hid (take_map_snoc l q hlt)
        have HI := Lib.hid (inAt_in l q hlt)
        generalize l[q] = x at *
        have hc1 : (wr.setCell ⟨w1.heap.size, q, none⟩ (.int .i8 91)).cell? ⟨gl, off + q, none⟩ = some (.int .i8 x) := (cell_far (by show gl ≠ w1.heap.size; omega) _).trans hc0
        have hc2 : ((wr.setCell ⟨w1.heap.size, q, none⟩ (.int .i8 91)).setCell ⟨w1.heap.size, q, none⟩ (.int .i8 x)).cell? ⟨gl, off + q, none⟩ = some (.int .i8 x) := (cell_far (by show gl ≠ w1.heap.size; omega) _).trans hc1
        have d0 : wr.cell? ⟨w1.heap.size, q, none⟩ = some (.int .i8 0) := (HW.out.cellAt q).trans (fillTo_here _ _ _ q (by omega))
        have f0 := HW.out.free q
        go_wp2_with (at_builtin; go_must (refine wpList_append_lies _ rfl (.tmp 50) (.tmp 56) 52 rfl (w1.heap.size + 1) 2 (.int .i64 0) 8 Try.underlying52 info_i64 rfl _ q _ rfl ((own_put (own_put HO.out (by show w1.heap.size < _; omega) _) (by show w1.heap.size < _; omega) _).alloc _) (wr.heap.size + 1) (some ⟨wr.heap.size, 0, none⟩) 1 1 [.int .i64 x] rfl (Lies.row (t := 2) (fr := (0, 0)) (heap_new2 (by simp)) (by simp)) rfl (by simp [Value.oneCell']) (by unfold maxLen; omega) (by omega) (by simp; omega) ?_); intro A' cap' w' hown' hgrow _ _)
        rw [HS.out] at hown'
        obtain ⟨hw2, hb2⟩ := round_one HO.out HW.out HB.out hs1 _ _ HI.out hgrow
        have HO' := Lib.hid hown'; have HW' := Lib.hid hw2; have HB' := Lib.hid hb2
        clear hown' hgrow hw2 hb2
        go_roundw
        case rel => exact ⟨q + 1, q + 1, A', cap', by omega, Lib.hid (by omega), by go_num, rfl, HO', HW', HB'⟩
        case measure => simp [intOf]; omega
      · obtain rfl : q = l.length := by have := hq.out; omega
        clear hq
        by_cases hlt4 : k < l.length + 4
        · have HT : Hid (l.take k = l.take (k + 1)) := Lib.hid (by rw [List.take_of_length_le (by omega), List.take_of_length_le (by omega)])
          have HI := Lib.hid (inAt_out l k (by omega))
          have d0 : wr.cell? ⟨w1.heap.size, k, none⟩ = some (.int .i8 0) := (HW.out.cellAt k).trans (fillTo_here _ _ _ k (by omega))
          have f0 := HW.out.free k
          go_wp2_with fail
          go_roundw
          case rel =>
            refine ⟨k + 1, l.length, A, cap, by omega, Lib.hid (by omega), by go_num, rfl, Lib.hid (by rw [← HT.out]; exact own_put HO.out (by show w1.heap.size < _; omega) _), Lib.hid ?_, Lib.hid (HB.out.setCell hs1 _)⟩
            have h1 := HW.out.put k (.int .i8 91)
            unfold inRow at h1
            have h2 := fillTo_step (l.length + 4) (inAt l) (.int .i8 0) k
            rw [HI.out] at h2
            rw [h2] at h1
            exact h1
          case measure => simp [intOf]; omega
        · have hkk : k = l.length + 4 := by omega
          have HT : Hid (l.take k = l) := Lib.hid (List.take_of_length_le (by omega))
          rw [HT.out] at HO
          have HW0 : Hid (Whole wr w1.heap.size 26 (inRow l (l.length + 4))) := by rw [← hkk]; exact HW
          clear HT HW hkk
          have HW := HW0; clear HW0
          go_wp2_with fail
          obtain ⟨wo, rfl⟩ : ∃ wo : World, wo = wr := ⟨_, rfl⟩
          go_loopw [9, 12] (fun vb vi wr => ∃ (k : Nat) (A' : Option Addr) (cap' : Nat), k ≤ m.length ∧ vi = .int .i64 k ∧ vb = .slice A' k cap' ∧ Hid (wr.ownsRow wo.heap.size 2 1 (.slice A' k cap') k ((m.take k).map (Value.int .i64))) ∧ Hid (Below wo.heap.size wo wr)) (fun _ vi _ => m.length - (intOf vi).toNat)
          case atStart => exact ⟨0, none, 0, by omega, rfl, rfl, Lib.hid (World.ownsRow_nil _ _ _ _), Lib.hid (Below.refl _ _)⟩
          case round =>
            obtain ⟨k, A', cap', hk, rfl, rfl, HO2, HB2⟩ := hrel
            have hs2 := HB2.out.size
            by_cases hlt : k < m.length
            · obtain ⟨gm, off, rfl, hgm, hcm⟩ := HL1.out wr (belowThen' HB.out HB2.out) k (.int .i32 m[k]) (by simp [hlt])
              have hx := HZ1.out m[k] (List.getElem_mem hlt)
              have HS := Lib.hid (take_map_snoc m k hlt)
              generalize m[k] = x at *
              go_wp2_with (at_builtin; go_must (refine wpList_append_lies _ rfl (.tmp 64) (.tmp 70) 52 rfl wo.heap.size 2 (.int .i64 0) 8 Try.underlying52 info_i64 rfl _ k _ rfl (HO2.out.alloc _) (wr.heap.size + 1) (some ⟨wr.heap.size, 0, none⟩) 1 1 [.int .i64 x] rfl (Lies.row (t := 2) (fr := (0, 0)) (heap_new2 rfl) (by simp)) rfl (by simp [Value.oneCell']) (by unfold maxLen; omega) (by omega) (by simp; omega) ?_); intro A'' cap'' w' hown' hgrow _ _)
              rw [HS.out] at hown'
              have HO' := Lib.hid hown'
              have HB' : Hid (Below wo.heap.size wo w') := Lib.hid ((HB2.out.alloc hs2 _).grown hgrow (Nat.le_trans hs2 (by simp)) (fun b hb => (HO2.out.lt b hb).1))
              clear hown' hgrow
              go_roundw
              case rel => exact ⟨k + 1, A'', cap'', by omega, by go_num, rfl, HO', HB'⟩
              case measure => simp [intOf]; omega
            · obtain rfl : k = m.length := by omega
              have HT : Hid (m.take m.length = m) := Lib.hid List.take_length
              rw [HT.out] at HO2
              clear HT
              have HO3 := Lib.hid (own_past HO.out HB2.out)
              have HW3 := Lib.hid (HW.out.past HB2.out)
              have HB3 := Lib.hid (belowThen' HB.out HB2.out)
              clear HO HW HB HB2
              have hin3 := HW3.out.inside
              have HC := Lib.hid (sum_int8 l _ _ (l.length + 4) wr (inRow_lies HW3.out (Nat.lt_succ_self _)) HZ0.out (by omega))
              go_wp2_with fail
              refine HC.out.mono ?_
              rintro e w' ⟨rfl, rfl⟩
              clear HC
              go_wp2_with fail
              obtain ⟨wp, rfl⟩ : ∃ wp : World, wp = wr := ⟨_, rfl⟩
              go_loopw [14] (fun vi wr => ∃ k d : Nat, k ≤ l.length + 4 ∧ vi = .int .i64 k ∧ wr = wp.drewN d) (fun vi _ => l.length + 4 - (intOf vi).toNat)
              case atStart => exact ⟨0, 0, by omega, rfl, rfl⟩
              case round =>
                obtain ⟨k, d, hk, rfl, rfl⟩ := hrel
                by_cases hlt4 : k < l.length + 4
                · have hci := inRow_cell HW3.out k hlt4
                  by_cases hlt : k < l.length
                  · obtain ⟨gl, off, rfl, _, hcl⟩ := HL0.out wp HB3.out k (.int .i8 l[k]) (by simp [hlt])
                    rw [inAt_in l k hlt] at hci
                    generalize l[k] = x at *
                    have ht : ((x : Int) != x) = false := by simp
                    have g1 : decide (k < l.length) = true := by simpa using hlt
                    have g2 : decide (l.length ≤ k) = false := by simpa using hlt
                    go_wp2_with fail
                    go_quiet (fail)
                    go_wp2
                    go_roundw
                    case rel => exact ⟨k + 1, _, by omega, by go_num, rfl⟩
                    case measure => simp [intOf]; omega
                  · rw [inAt_out l k (by omega)] at hci
                    have g1 : decide (k < l.length) = false := by simpa using hlt
                    have g2 : decide (l.length ≤ k) = true := by simp; omega
                    go_wp2_with fail
                    go_quiet (fail)
                    go_wp2
                    go_roundw
                    case rel => exact ⟨k + 1, _, by omega, by go_num, rfl⟩
                    case measure => simp [intOf]; omega
                · have La : Hid (∀ w', Below wp.heap.size wp w' → Lies w' w'.heap.size A (l.map (Value.int .i64))) := Lib.hid fun w' hb => (own_lies HO3.out).past hb
                  have Lb : Hid (∀ w', Below wp.heap.size wp w' → Lies w' w'.heap.size A' (m.map (Value.int .i64))) := Lib.hid fun w' hb => (own_lies HO2.out).past hb
                  have Lm : Hid (∀ w', Below wp.heap.size wp w' → Lies w' w'.heap.size A1 (m.map (Value.int .i32))) := Lib.hid fun w' hb => HL1.out w' (belowThen' HB3.out hb)
                  have Ln : Hid (∀ w', Below wp.heap.size wp w' → Lies w' w'.heap.size A2 (n.map (Value.int .i64))) := Lib.hid fun w' hb => HL2.out w' (belowThen' HB3.out hb)
                  have HP : Hid (Below wp.heap.size wp (wp.drewN d)) := Lib.hid (belowN (Below.refl _ _) _)
                  clear HO3 HO2 HL1 HL2 HL0 HL0' HW3
                  have s8 := sumF_bd (lo := -128) (hi := 127) l (by omega) (by omega)
                  have s32 := sumF_bd (lo := -2147483648) (hi := 2147483647) m (by omega) (by omega)
                  have s64 := sumF_bd (lo := -9223372036854775808) (hi := 9223372036854775807) n (by omega) (by omega)
                  have R8 := Lib.hid (fun W (h : Lies W W.heap.size A (l.map (Value.int .i64))) => refSum_any l (-128) 127 endsOf_8 A cap W h HZ0.out (by omega))
                  have R32 := Lib.hid (fun W (h : Lies W W.heap.size A' (m.map (Value.int .i64))) => refSum_any m (-2147483648) 2147483647 endsOf_32 A' cap' W h HZ1.out (by omega))
                  have R64 := Lib.hid (fun W (h : Lies W W.heap.size A2 (n.map (Value.int .i64))) => refSum_any n (-9223372036854775808) 9223372036854775807 endsOf_64 A2 c2 W h HZ2.out (by omega))
                  have P32 := Lib.hid (fun W (h : Lies W W.heap.size A1 (m.map (Value.int .i32))) => sum_int32 m A1 _ c1 W h HZ1.out (by omega))
                  have P64 := Lib.hid (fun W (h : Lies W W.heap.size A2 (n.map (Value.int .i64))) => sum_int64 n A2 _ c2 W h HZ2.out (by omega))
                  generalize sumF (-128) 127 l = x8 at *
                  generalize sumF (-2147483648) 2147483647 m = x32 at *
                  generalize sumF (-9223372036854775808) 9223372036854775807 n = x64 at *
                  obtain ⟨s80, s81⟩ := s8
                  obtain ⟨s320, s321⟩ := s32
                  obtain ⟨s640, s641⟩ := s64
                  have t8 : ((x8 : Int) == x8) = true := by simp
                  have t32 : ((x32 : Int) == x32) = true := by simp
                  have t64 : ((x64 : Int) == x64) = true := by simp
                  generalize wp.drewN d = wq at *
                  go_wp2_with fail
                  refine (of_8 _).mono ?_
                  rintro e v1 ⟨rfl, hb⟩
                  have Q1 := Lib.hid (belowThen' HP.out hb); clear hb HP
                  go_wp2_with fail
                  refine (R8.out _ (La.out _ Q1.out)).mono ?_
                  rintro e v2 ⟨rfl, hb⟩
                  have Q2 := Lib.hid (belowThen' Q1.out hb); clear hb Q1
                  go_wp2_with fail
                  refine (P32.out _ (Lm.out _ Q2.out)).mono ?_
                  rintro e v3 ⟨rfl, rfl⟩
                  go_wp2_with fail
                  refine (of_32 _).mono ?_
                  rintro e v4 ⟨rfl, hb⟩
                  have Q4 := Lib.hid (belowThen' Q2.out hb); clear hb Q2
                  go_wp2_with fail
                  refine (R32.out _ (Lb.out _ Q4.out)).mono ?_
                  rintro e v5 ⟨rfl, hb⟩
                  have Q5 := Lib.hid (belowThen' Q4.out hb); clear hb Q4
                  go_wp2_with fail
                  refine (P64.out _ (Ln.out _ Q5.out)).mono ?_
                  rintro e v6 ⟨rfl, rfl⟩
                  go_wp2_with fail
                  refine (of_64 _).mono ?_
                  rintro e v7 ⟨rfl, hb⟩
                  have Q7 := Lib.hid (belowThen' Q5.out hb); clear hb Q5
                  go_wp2_with fail
                  refine (R64.out _ (Ln.out _ Q7.out)).mono ?_
                  rintro e v8 ⟨rfl, hb⟩
                  have Q8 := Lib.hid (belowThen' Q7.out hb); clear hb Q7
                  go_wp2_with fail
                  go_ret
                  exact ⟨rfl, belowThen' HB3.out Q8.out⟩
end Go.Proofs.Ytiphappckgmikaa
