/-
  The walk of the law SumsTable: it returns true for all i, j. Conditions: none.
-/
import Derived.Test.YtcdolkifahlakaaSumsC
import Derived.Test.YtcdolkifahlakaaArrEq
import Derived.Test.YtcdolkifahlakaaLater
namespace Go.Proofs.Ytcdolkifahlakaa
open Go.RowKit Crc

theorem tab_same (w : World) (d : Nat) : (Op.equalIn (d + 2) 32 (.agg (tabTo 256)) (.agg (tabTo 256))).run Try.prog w = .ok true w := by
  obtain ⟨i, hi, hs⟩ := Option.map_eq_some_iff.1 (show (Try.prog.info? 23).map (·.size) = some 1 by kernel_rfl)
  exact run_equalIn_array_same w d _ Try.underlying32 Try.underlying23 hi hs (fun j hj => ⟨_, _, tabTo_get 256 j hj⟩)
theorem tab_eql (w : World) : (binOp .eql 32 (.agg (tabTo 256)) (.agg (tabTo 256))).run Try.prog w = .ok (.bool true) w := by
  rw [run_eql_struct, tab_same]; rfl
theorem tab_neq (w : World) : (binOp .neq 32 (.agg (tabTo 256)) (.agg (tabTo 256))).run Try.prog w = .ok (.bool false) w := by
  rw [run_neq_struct, tab_same]; rfl

/-- The table's numbers. -/
def tn (k : Nat) : Int := wn (shn 8 (BitVec.ofNat 32 k))
theorem tn_bd (k : Nat) : 0 ≤ tn k ∧ tn k ≤ 4294967295 := wn_bd _
theorem tabTo_tn (k : Nat) (h : k < 256) : (tabTo 256)[k]? = some (.int .u32 (tn k)) := by
  rw [tabTo_get 256 k h]; unfold tabAt; rw [if_pos h]; rfl
set_option maxHeartbeats 1000000 in
set_option maxRecDepth 100000 in
theorem sumsTable_any (i j : Byte) (w : World) :
    Calls Try.prog 4 #[.int .u8 (i.toNat : Int), .int .u8 (j.toNat : Int)] w fun e w' => e = .returned (.bool true) ∧ Below w.heap.size w w' := by
  have hz := zero_tab
  have hsz : (Try.prog.info? 32).map (·.size) = some (tabTo 256).size := by rw [tabTo_size]; exact size_tab
  have S := Lib.hid hsz; clear hsz
  have hq := tab_neq
  have he := tab_eql
  go_enter Try.func4, Try.ntmps4
  go_wp2_with fail
  refine (table_any _).mono ?_
  rintro e w1 ⟨rfl, hb1⟩
  go_wp2_with (first
    | (refine wpList_store_whole rfl 32 _ _ rfl rfl w1.heap.size rfl (tabTo 256) rfl 32 (tabTo 0) (Whole.made w1 _ _) S.out (by rw [tabTo_size, tabTo_size]) (tabTo_one 256) ?_; rw [World.setRow_alloc_new]))
  have hT : Whole (w1.alloc (.cells (tabTo 256) 32)) w1.heap.size 32 (tabTo 256) := Whole.made w1 _ _
  have hB : Below w.heap.size w (w1.alloc (.cells (tabTo 256) 32)) := hb1.alloc hb1.size _
  have hgt : w.heap.size ≤ w1.heap.size := hb1.size
  clear hb1
  generalize w1.alloc (.cells (tabTo 256) 32) = w2 at *
  generalize w1.heap.size = gt at *
  clear w1
  refine (table_any _).mono ?_
  rintro e w3 ⟨rfl, hb3⟩
  go_wp2_with (first
    | (refine wpList_store_whole rfl 32 _ _ rfl rfl w3.heap.size rfl (tabTo 256) rfl 32 (tabTo 0) (Whole.made w3 _ _) S.out (by rw [tabTo_size, tabTo_size]) (tabTo_one 256) ?_; rw [World.setRow_alloc_new]))
  have hT4 : Whole (w3.alloc (.cells (tabTo 256) 32)) gt 32 (tabTo 256) := (hT.past hb3).alloc _
  have hU4 : Whole (w3.alloc (.cells (tabTo 256) 32)) w3.heap.size 32 (tabTo 256) := Whole.made w3 _ _
  have hB4 : Below w.heap.size w (w3.alloc (.cells (tabTo 256) 32)) := (belowThen' hB hb3).alloc (belowThen' hB hb3).size _
  have hgu : w.heap.size ≤ w3.heap.size := (belowThen' hB hb3).size
  have hne : gt < w3.heap.size := (hT.past hb3).inside
  clear hb3 hB hT
  generalize w3.alloc (.cells (tabTo 256) 32) = w4 at *
  generalize w3.heap.size = gu at *
  clear w3
  refine (refTable_any _).mono ?_
  rintro e w5 ⟨rfl, hb5⟩
  have hT6 : Whole (w5.alloc (.cells (tabTo 256) 32)) gt 32 (tabTo 256) := (hT4.past hb5).alloc _
  have hU6 : Whole (w5.alloc (.cells (tabTo 256) 32)) gu 32 (tabTo 256) := (hU4.past hb5).alloc _
  have hV6 : Whole (w5.alloc (.cells (tabTo 256) 32)) w5.heap.size 32 (tabTo 256) := Whole.made w5 _ _
  have hB6 : Below w.heap.size w (w5.alloc (.cells (tabTo 256) 32)) := (belowThen' hB4 hb5).alloc (belowThen' hB4 hb5).size _
  have hgv : w.heap.size ≤ w5.heap.size := (belowThen' hB4 hb5).size
  have hne2 : gu < w5.heap.size := (hU4.past hb5).inside
  have hc := (hT6.cellAt i.toNat).trans (tabTo_tn i.toNat i.isLt)
  have hf := hT6.free i.toNat
  have hti := tn_bd i.toNat
  obtain ⟨hti0, hti1⟩ := hti
  have hbi := i.isLt
  have hbj := j.isLt
  go_wp2_with (first
    | (refine wpList_store_whole rfl 32 _ _ rfl rfl w5.heap.size rfl (tabTo 256) rfl 32 (tabTo 0) (Whole.made w5 _ _) S.out (by rw [tabTo_size, tabTo_size]) (tabTo_one 256) ?_; rw [World.setRow_alloc_new])
    | (refine wpList_load_whole (by rfl) 32 _ rfl gt rfl 32 (tabTo 256) _ hT6 Try.underlying32 rfl S.out ?_)
    | (refine wpList_load_whole (by rfl) 32 _ rfl gu rfl 32 (tabTo 256) _ hU6 Try.underlying32 rfl S.out ?_)
    | (refine wpList_load_whole (by rfl) 32 _ rfl w5.heap.size rfl 32 (tabTo 256) _ hV6 Try.underlying32 rfl S.out ?_)
    )
  have hT7 := hT6.put i.toNat (.int .u32 ((tn i.toNat + 1) % 4294967296))
  have hU7 := hU6.putFar (p := ⟨gt, i.toNat, none⟩) (by show gu ≠ gt; omega) (.int .u32 ((tn i.toNat + 1) % 4294967296))
  have hV7 := hV6.putFar (p := ⟨gt, i.toNat, none⟩) (by show w5.heap.size ≠ gt; omega) (.int .u32 ((tn i.toNat + 1) % 4294967296))
  have hB7 := hB6.setCell (p := ⟨gt, i.toNat, none⟩) hgt (.int .u32 ((tn i.toNat + 1) % 4294967296))
  clear hT4 hB4 hU4 hb5 hT6 hU6 hV6 hB6 hc hf
  generalize (w5.alloc (.cells (tabTo 256) 32)).setCell ⟨gt, i.toNat, none⟩ (.int .u32 ((tn i.toNat + 1) % 4294967296)) = w7 at *
  generalize w5.heap.size = gv at *
  have hU8 : ∀ w', (∃ r : Later w7, w' = r.w) → Whole w' gu 32 (tabTo 256) := by rintro w' ⟨r, rfl⟩; exact hU7.past r.below
  have hV8 : ∀ w', (∃ r : Later w7, w' = r.w) → Whole w' gv 32 (tabTo 256) := by rintro w' ⟨r, rfl⟩; exact hV7.past r.below
  have hcu : ∀ r : Later w7, r.w.cell? ⟨gu, j.toNat, none⟩ = some (.int .u32 (tn j.toNat)) := fun r => ((hU7.past r.below).cellAt _).trans (tabTo_tn _ j.isLt)
  haveI := later_some w7
  by_cases hij : i = j
  · subst hij
    have hct : ∀ r : Later w7, r.w.cell? ⟨gt, i.toNat, none⟩ = some (.int .u32 ((tn i.toNat + 1) % 4294967296)) := fun r => by
      rw [(hT7.past r.below).cellAt, Array.getElem?_setIfInBounds, if_pos rfl, if_pos (by rw [tabTo_size]; exact i.isLt)]
    have hn : ((tn i.toNat + 1) % 4294967296 != tn i.toNat) = true := by rw [bne_iff_ne]; omega
    have hx1 : (0 : Int) ≤ (i.toNat : Int) := by omega
    have hx2 : (i.toNat : Int) < 256 := by omega
    refine region_later (by kernel_rfl) (by kernel_rfl) ?_
    repeat (first
      | (refine quiet_load_whole (by rfl) 32 _ rfl gu rfl 32 (tabTo 256) _ hU8 Try.underlying32 rfl S.out ?_)
      | (refine quiet_load_whole (by rfl) 32 _ rfl gv rfl 32 (tabTo 256) _ hV8 Try.underlying32 rfl S.out ?_)
      | (quiet_step ((first | exact later_calls (table_any _) | exact later_calls (works_any _)))))
    refine wpQuiet_nil ?_
    rintro w' ⟨r, rfl⟩
    have hb := r.below
    go_wp2
    go_ret
    exact ⟨rfl, belowThen' hB7 hb⟩
  · have hct : ∀ r : Later w7, r.w.cell? ⟨gt, j.toNat, none⟩ = some (.int .u32 (tn j.toNat)) := fun r => by
      rw [(hT7.past r.below).cellAt, Array.getElem?_setIfInBounds, if_neg (fun e => hij (BitVec.eq_of_toNat_eq e))]
      exact tabTo_tn _ j.isLt
    have hn : (tn j.toNat != tn j.toNat) = false := by simp
    have hm : ((i.toNat : Int) == (j.toNat : Int)) = false := by
      rw [beq_eq_false_iff_ne]; intro e; exact hij (BitVec.eq_of_toNat_eq (by omega))
    have hx1 : (0 : Int) ≤ (j.toNat : Int) := by omega
    have hx2 : (j.toNat : Int) < 256 := by omega
    refine region_later (by kernel_rfl) (by kernel_rfl) ?_
    repeat (first
      | (refine quiet_load_whole (by rfl) 32 _ rfl gu rfl 32 (tabTo 256) _ hU8 Try.underlying32 rfl S.out ?_)
      | (refine quiet_load_whole (by rfl) 32 _ rfl gv rfl 32 (tabTo 256) _ hV8 Try.underlying32 rfl S.out ?_)
      | (quiet_step ((first | exact later_calls (table_any _) | exact later_calls (works_any _)))))
    refine wpQuiet_nil ?_
    rintro w' ⟨r, rfl⟩
    have hb := r.below
    go_wp2
    go_ret
    exact ⟨rfl, belowThen' hB7 hb⟩
end Go.Proofs.Ytcdolkifahlakaa
