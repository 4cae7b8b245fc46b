/-
  The writer of chapter 19: a byte put behind others; the rows of another writer stay. Conditions: lengths within 2 ^ 47.
-/
import Derived.Test.YtcmbdnjcfneinaaGreatDoorWrMa
import Derived.Shelf.Bytes.GrowSlice
import Derived.Shelf.Bytes.TryGrowAt
import Derived.RegionTactic
import Derived.Deep.RegionWith
import Derived.BigGuard
namespace Go.Proofs.YtcmbdnjcfneinaaGreatDoor
open Go.RowKit
set_option maxRecDepth 10000 in
set_option maxHeartbeats 2000000 in
theorem grow1_any (b g l cap : Nat) (lr : Int) (cur : Array Value) (w : World) (hbk : LibA.Three w b 0 85 (fun _ => none) (.slice (some ⟨g, 0, none⟩) l cap) (.int .i64 0) (.int .i8 lr)) (hgb : g ≠ b) (hl : 0 < l)
    (hg : w.heap[g]? = some (.cells cur 5 (0, 0))) (hlc : l ≤ cap) (hcm : cap ≤ maxLen) (hcs : cur.size = cap) (h1 : ∀ v ∈ cur.toList.take l, v.oneCell' = true) (hroom : cap - l < 1) (hlim : l + 1 ≤ 140737488355328) :
    Calls Tryz.prog 92 #[.pointer (some ⟨b, 0, none⟩), .int .i64 1] w fun e w' => e = .returned (.int .i64 l) ∧ ∃ cap2 cells w2, w2.heap[w.heap.size]? = some (.cells cells 5 (0, 0)) ∧
      cells.size = cap2 ∧ cells.toList.take l = cur.toList.take l ∧ l + 1 ≤ cap2 ∧ cap2 ≤ maxLen ∧ Below w.heap.size w w2 ∧
      w' = ((w2.setCell ⟨b, 0, none⟩ (.slice (some ⟨w.heap.size, 0, none⟩) l cap2)).setCell ⟨b, 1, none⟩ (.int .i64 0)).setCell ⟨b, 0, none⟩ (.slice (some ⟨w.heap.size, 0, none⟩) (l + 1) cap2) := by
  have hlen : (cur.toList.take l).length = l := by rw [List.length_take, Array.length_toList]; omega
  have hIs : LibA.IsBuffer 85 (fun _ => none) 5 0 b 0 (cur.toList.take l) w := ⟨Nat.zero_le _, _, _, hbk, ⟨by rw [hlen, Nat.mul_one], .inr ⟨g, cap, cur, by rw [hlen], Nat.zero_le _, hg, by omega, hcm, by omega, by rw [hlen, Nat.mul_one]⟩⟩, by simp [Value.ownBlock]; exact hgb⟩
  have hnil : ∀ W, (binOp .eql 32 (.slice (some ⟨g, 0, none⟩) l cap) (.slice none 0 0)).run Tryz.prog W = .ok (.bool false) W := fun W => Lib.run_eql_slice_some_nil W _ _ _ Tryz.underlying32
  have hLn := Any.Buffer_Len_at Tryz.layNm181 85 (fun _ => none) 0 b 0 (cur.toList.take l) w hIs
  rw [hlen] at hLn
  have HL := Lib.hid hLn
  have HB := Lib.hid hbk
  have HG := Lib.hid hg
  clear hLn hIs hbk hg hlen
  have hcm' := hcm
  unfold maxLen at hcm'
  go_enter Tryz.func92, Tryz.ntmps92
  go_wp2_with fail
  refine HL.out.mono ?_
  rintro e W0 ⟨rfl, k, hW0⟩
  have hbk0 : LibA.Three W0 b 0 85 (fun _ => none) (.slice (some ⟨g, 0, none⟩) l cap) (.int .i64 0) (.int .i8 lr) := by rw [hW0]; exact HB.out
  have hg0 : W0.heap[g]? = some (.cells cur 5 (0, 0)) := by rw [hW0]; exact HG.out
  have c0 : W0.cell? ⟨b, 0, none⟩ = some (.slice (some ⟨g, 0, none⟩) l cap) := hbk0.c0
  have c1 : W0.cell? ⟨b, 1, none⟩ = some (.int .i64 0) := hbk0.c1
  have f0 : W0.frozen? ⟨b, 0, none⟩ = false := hbk0.f 0
  have f1 : W0.frozen? ⟨b, 1, none⟩ = false := hbk0.f 1
  have HW0 := Lib.hid hW0
  have HB0 := Lib.hid hbk0
  have HG0 := Lib.hid hg0
  clear hW0 hbk0 hg0 HL HB HG
  go_wp2_with fail
  refine (Any.Buffer_tryGrow_none_at Tryz.layNm251 b 0 _ l cap 1 _ c0 hlc hcm hroom).mono ?_
  rintro e w' ⟨rfl, rfl⟩
  have hwn : IntKind.i64.wrap (1 : Int) = 1 := by decide
  have hbW := HB0.out.lt
  have hc2 : cap ≤ 140737488355328 := by omega
  have HBW := Lib.hid hbW
  go_wp2_with fail
  have h1' : ∀ v ∈ cur.toList.take l, v.oneCell' = true := h1
  have mixed : Tryz.prog.follows Departure.mixedOrders = true := by kernel_rfl
  go_region_with_o (
      go_at_call 125
      refine (Any.bytes_growSlice_row Tryz.layNm290 g l cap 1 cur _ ?_ hcs hlc (Nat.le_refl 1) hlim hc2 h1').mono ?_
      exact HG0.out
      rintro e w2 ⟨cap2, cells, rfl, hN, hcsz, htk, hcap2, hcm2, hbel⟩
      have hbk2 : LibA.Three w2 b 0 85 (fun _ => none) (.slice (some ⟨g, 0, none⟩) l cap) (.int .i64 0) (.int .i8 lr) := HB0.out.of_heap (hbel.block b hbW)
      have d0 : w2.cell? ⟨b, 0, none⟩ = some (.slice (some ⟨g, 0, none⟩) l cap) := hbk2.c0
      have d1 : w2.cell? ⟨b, 1, none⟩ = some (.int .i64 0) := hbk2.c1
      have e0 : w2.frozen? ⟨b, 0, none⟩ = false := hbk2.f 0
      have e1 : w2.frozen? ⟨b, 1, none⟩ = false := hbk2.f 1)
  all_goals (
    go_wp2_with fail
    go_ret
    have hsz : w'.heap.size = w.heap.size := by rw [HW0.out]; rfl
    have hb : Below w.heap.size w w2 := by
      have h2 := hbel
      rw [HW0.out] at h2
      exact ⟨h2.os, h2.tape, h2.output, h2.size, h2.block⟩
    refine ⟨rfl, cap2, cells, w2, ?_, hcsz, htk, hcap2, hcm2, hb, by rw [hsz]⟩
    rw [← hsz]
    exact hN)
end Go.Proofs.YtcmbdnjcfneinaaGreatDoor
/-
  The writer of chapter 19: a byte, a number put behind others; the rows of another writer stay. Conditions: lengths within 2 ^ 47.
-/
namespace Go.Proofs.YtcmbdnjcfneinaaGreatDoor
open Go.RowKit
/-- The block j is no part of the writer b. -/
def Off (b j : Nat) (w : World) : Prop := j ≠ b ∧ ∀ v, w.cell? ⟨b, 0, none⟩ = some v → v.ownBlock ≠ some j
theorem finishJ {b g1 cap1 : Nat} {lr1 : Int} {l : List Byte} {cur1 : Array Value} {w wr W1 : World} (c : Byte) (h : WrAt b l w wr)
    (hB1 : LibA.Three W1 b 0 85 (fun _ => none) (.slice (some ⟨g1, 0, none⟩) (l.length + 1) cap1) (.int .i64 0) (.int .i8 lr1)) (hbg : b ≤ g1) (hgb : g1 ≠ b) (hg1 : W1.heap[g1]? = some (.cells cur1 5 (0, 0)))
    (hcm : cap1 ≤ maxLen) (hcs : cur1.size = cap1) (hn : l.length + 1 ≤ cap1) (htk : cur1.toList.take l.length = bytesV l) (hbel : Below b wr W1) (hk : Lib.OthersKept 5 (some b) wr W1)
    (hj : ∀ j, j < wr.heap.size → Off b j wr → j ≠ b ∧ j ≠ g1 ∧ W1.heap[j]? = wr.heap[j]?) :
    WrAt b (l ++ [c]) w (W1.setCell ⟨g1, l.length, none⟩ (.int .u8 c.toNat)) ∧ ∀ j, j < wr.heap.size → Off b j wr → (W1.setCell ⟨g1, l.length, none⟩ (.int .u8 c.toNat)).heap[j]? = wr.heap[j]? ∧ Off b j (W1.setCell ⟨g1, l.length, none⟩ (.int .u8 c.toNat)) := by
  obtain ⟨r1, r2⟩ := LibA.poke_end (v := .int .u8 c.toNat) (Nat.le_refl b) hB1 hbg hg1 hcm hcs hgb hn
  rw [htk] at r1
  refine ⟨h.wrote (by unfold WrBuf; rw [bytesV_append]; exact r1) (hbel.trans r2) (hk.setRowCell hg1 _ _), fun j hjl ho => ?_⟩
  obtain ⟨h1, h2, h3⟩ := hj j hjl ho
  refine ⟨(Below.heap_setCell _ _ _ _ h2).trans h3, h1, fun v hv => ?_⟩
  have e : (W1.setCell ⟨g1, l.length, none⟩ (.int .u8 c.toNat)).cell? ⟨b, 0, none⟩ = W1.cell? ⟨b, 0, none⟩ := World.cell?_of_block (Below.heap_setCell _ _ _ _ (Ne.symm hgb))
  have h0 : W1.cell? ⟨b, 0, none⟩ = some (.slice (some ⟨g1, 0, none⟩) (l.length + 1) cap1) := hB1.c0
  rw [e, h0] at hv
  injection hv with hv
  rw [← hv]
  intro e2
  injection e2 with e2
  exact h2 e2.symm
set_option maxRecDepth 10000 in
set_option maxHeartbeats 2000000 in
theorem byteJ_any (b : Nat) (l : List Byte) (hl0 : l ≠ []) (c : Byte) (w wr : World) (h : WrAt b l w wr) (hlim : l.length + 1 ≤ 140737488355328) :
    Calls Tryz.prog 39 #[.pointer (some ⟨b, 0, none⟩), .int .u8 c.toNat] wr fun e w' => e = .returned .nilIface ∧ WrAt b (l ++ [c]) w w' ∧ ∀ j, j < wr.heap.size → Off b j wr → w'.heap[j]? = wr.heap[j]? ∧ Off b j w' := by
  have hbs : (bytesV l).length = l.length := bytesV_length l
  obtain ⟨hB, lr, hc⟩ := h.buf.cases
  rcases hc with ⟨hnil, _⟩ | ⟨g, cap, cur, hbk, hBg, hg, hnc, hcm, hcs, htk, hgb⟩
  · exact absurd (List.eq_nil_of_length_eq_zero (by rw [← hbs, hnil]; rfl)) hl0
  rw [hbs] at hbk hnc htk
  have hl1 : 0 < l.length := List.length_pos_iff.2 hl0
  have c2 : wr.cell? ⟨b, 2, none⟩ = some (.int .i8 lr) := hbk.c2
  have f2 : wr.frozen? ⟨b, 2, none⟩ = false := hbk.f 2
  have hbk0 := hbk.set2 (.int .i8 0)
  have hg0 : (wr.setCell ⟨b, 0 + 2, none⟩ (.int .i8 0)).heap[g]? = some (.cells cur 5 (0, 0)) := (Below.heap_setCell _ _ _ _ hgb).trans hg
  have HP : Hid (∀ j, j < wr.heap.size → Off b j wr → j ≠ b ∧ j ≠ g) := Lib.hid fun j hj ho => ⟨ho.1, fun e => ho.2 _ hbk.c0 (by rw [e]; rfl)⟩
  have HK0 : Hid (Lib.OthersKept 5 (some b) wr (wr.setCell ⟨b, 0 + 2, none⟩ (.int .i8 0))) := Lib.hid ((Lib.OthersKept.refl _ _ wr).setCell ⟨b, 0 + 2, none⟩ rfl _)
  have HBel : Hid (Below b wr (wr.setCell ⟨b, 0 + 2, none⟩ (.int .i8 0))) := Lib.hid ((Below.refl b wr).setCell (p := ⟨b, 0 + 2, none⟩) (Nat.le_refl b) _)
  have HW := Lib.hid h
  have HT := Lib.hid htk
  have HBS := Lib.hid hbs
  have hcm' := hcm
  unfold maxLen at hcm'
  by_cases hr : 1 ≤ cap - l.length
  · have HTG := Lib.hid (Any.Buffer_tryGrow_room_at Tryz.layNm251 b 0 (some ⟨g, 0, none⟩) l.length cap 1 _ hbk0.c0 (hbk0.f 0) hnc hcm hr)
    have HB0 := Lib.hid hbk0
    have HG0 := Lib.hid hg0
    clear h hbk hg htk hbk0 hg0 hbs
    go_enter Tryz.func39, Tryz.ntmps39
    go_wp2_with fail
    refine HTG.out.mono ?_
    rintro e W1 ⟨rfl, hW1⟩
    have HB1 := Lib.hid (HB0.out.set0 (.slice (some ⟨g, 0, none⟩) (l.length + 1) cap))
    have hg1 : W1.heap[g]? = some (.cells cur 5 (0, 0)) := by rw [hW1]; exact (Below.heap_setCell _ _ _ _ hgb).trans HG0.out
    rw [← hW1] at HB1
    have d0 : W1.cell? ⟨b, 0, none⟩ = some (.slice (some ⟨g, 0, none⟩) (l.length + 1) cap) := HB1.out.c0
    have hlt : l.length < cur.size := by omega
    have dg : W1.cell? ⟨g, l.length, none⟩ = some cur[l.length] := by rw [Lib.cell_of_heap hg1, Array.getElem?_eq_getElem hlt]
    have fg : W1.frozen? ⟨g, l.length, none⟩ = false := Lib.frozen_of_heap hg1 _
    have HG1 := Lib.hid hg1
    have HE := Lib.hid hW1
    clear hg1 hW1 c2 f2 HTG
    go_wp2_with fail
    go_ret
    refine ⟨rfl, finishJ c HW.out HB1.out hBg hgb HG1.out hcm hcs (by omega) HT.out ?_ ?_ ?_⟩
    · rw [HE.out]
      exact HBel.out.setCell (p := ⟨b, 0, none⟩) (Nat.le_refl b) _
    · rw [HE.out]
      exact HK0.out.setCell ⟨b, 0, none⟩ rfl _
    · intro j hj ho
      obtain ⟨h1, h2⟩ := HP.out j hj ho
      refine ⟨h1, h2, ?_⟩
      rw [HE.out, Below.heap_setCell _ _ _ _ h1, Below.heap_setCell _ _ _ _ h1]
  · have HTG := Lib.hid (Any.Buffer_tryGrow_none_at Tryz.layNm251 b 0 (some ⟨g, 0, none⟩) l.length cap 1 _ hbk0.c0 hnc hcm (by omega))
    have HGR := Lib.hid (grow1_any b g l.length cap 0 cur _ hbk0 hgb hl1 hg0 hnc hcm hcs (by rw [htk]; exact bytes_one l) (by omega) hlim)
    have HB0 := Lib.hid hbk0
    clear h hbk hg htk hbk0 hg0 hbs
    go_enter Tryz.func39, Tryz.ntmps39
    go_wp2_with fail
    refine HTG.out.mono ?_
    rintro e W0 ⟨rfl, rfl⟩
    go_wp2_with fail
    refine HGR.out.mono ?_
    rintro e W1 ⟨rfl, cap2, cells, w2, hN, hcsz, htk2, hcap2, hcm2, hbel, hW1⟩
    have hsz : (wr.setCell ⟨b, 0 + 2, none⟩ (.int .i8 0)).heap.size = wr.heap.size := by simp
    have hbl : b < wr.heap.size := HW.out.size
    have HB2 := HB0.out.of_heap (w' := w2) (hbel.block b (by omega))
    have HB1 := Lib.hid (((HB2.set0 (.slice (some ⟨wr.heap.size, 0, none⟩) l.length cap2)).set1 (.int .i64 0)).set0 (.slice (some ⟨wr.heap.size, 0, none⟩) (l.length + 1) cap2))
    rw [hsz] at hW1 hN hbel
    have hNb : wr.heap.size ≠ b := by omega
    have hg1 : W1.heap[wr.heap.size]? = some (.cells cells 5 (0, 0)) := by
      rw [hW1, Below.heap_setCell _ _ _ _ hNb, Below.heap_setCell _ _ _ _ hNb, Below.heap_setCell _ _ _ _ hNb]
      exact hN
    rw [← hW1] at HB1
    have d0 : W1.cell? ⟨b, 0, none⟩ = some (.slice (some ⟨wr.heap.size, 0, none⟩) (l.length + 1) cap2) := HB1.out.c0
    have hlt : l.length < cells.size := by omega
    have dg : W1.cell? ⟨wr.heap.size, l.length, none⟩ = some cells[l.length] := by rw [Lib.cell_of_heap hg1, Array.getElem?_eq_getElem hlt]
    have fg : W1.frozen? ⟨wr.heap.size, l.length, none⟩ = false := Lib.frozen_of_heap hg1 _
    have hcm2' := hcm2
    unfold maxLen at hcm2'
    have HG1 := Lib.hid hg1
    have HE := Lib.hid hW1
    have HBL := Lib.hid hbel
    have HT2 := Lib.hid htk2
    clear hg1 hW1 c2 f2 HTG HGR hbel htk2 hN HB2
    go_wp2_with fail
    go_ret
    refine ⟨rfl, finishJ c HW.out HB1.out (by omega) hNb HG1.out hcm2 hcsz (by omega) (HT2.out.trans HT.out) ?_ ?_ ?_⟩
    · rw [HE.out]
      exact (((HBel.out.trans (HBL.out.mono (by omega))).setCell (p := ⟨b, 0, none⟩) (Nat.le_refl b) _).setCell (p := ⟨b, 1, none⟩) (Nat.le_refl b) _).setCell (p := ⟨b, 0, none⟩) (Nat.le_refl b) _
    · rw [HE.out]
      exact (((HK0.out.below (by rw [hsz]; exact HBL.out)).setCell ⟨b, 0, none⟩ rfl _).setCell ⟨b, 1, none⟩ rfl _).setCell ⟨b, 0, none⟩ rfl _
    · intro j hj ho
      obtain ⟨h1, h2⟩ := HP.out j hj ho
      refine ⟨h1, by omega, ?_⟩
      rw [HE.out, Below.heap_setCell _ _ _ _ h1, Below.heap_setCell _ _ _ _ h1, Below.heap_setCell _ _ _ _ h1]
      exact (HBL.out.block j hj).trans (Below.heap_setCell _ _ _ _ h1)
end Go.Proofs.YtcmbdnjcfneinaaGreatDoor
