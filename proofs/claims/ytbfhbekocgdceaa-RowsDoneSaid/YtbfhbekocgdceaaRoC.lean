/-
  Chapter 04: the document's Back; RowsOrders: the law's function is true at every list and every numbers: the walk. Conditions: the lists within what memory holds.
-/
import Derived.Test.YtbfhbekocgdceaaRoB
import Derived.Test.YtbfhbekocgdceaaRcL
namespace Go.Proofs.Ytbfhbekocgdceaa
open Go.RowKit
set_option maxHeartbeats 4000000 in
theorem refBack_any (o : List Int) (C : Option Addr) (cc : Nat) (w : World) (hx : Lies w w.heap.size C (o.map (Value.int .i64))) (hol : o.length ≤ 1000000000) :
    Calls Try.prog 36 #[.slice C o.length cc] w fun e w' => ∃ A' c', e = .returned (.tuple #[.slice A' (backL o).length c', .bool (isO o)]) ∧ Made w w' A' c' (backL o) := by
  have HX := Lib.hid hx
  have HIS := Lib.hid (refIs_any o C cc w hx hol)
  clear hx
  go_enter Try.func36, Try.ntmps36
  go_wp2_with fail
  refine HIS.out.mono ?_
  rintro e w2 ⟨rfl, k2⟩
  have K2 := Lib.hid k2
  clear k2 HIS
  cases hio : isO o
  · have HF : Hid (backL o = [] ∧ isO o = false) := Lib.hid ⟨by unfold backL; rw [hio]; rfl, hio⟩
    clear hio
    go_wp2_with fail
    go_ret2
    exact ⟨none, 0, by rw [HF.out.1, HF.out.2]; rfl, by rw [HF.out.1]; exact ⟨World.ownsRow_nil _ _ _ _, K2.out⟩⟩
  have HF : Hid (backL o = (List.range o.length).map (fun j : Nat => findZ o (j : Int)) ∧ isO o = true) := Lib.hid ⟨by unfold backL backTo; rw [hio, List.take_length]; rfl, hio⟩
  clear hio
  have HO0 : Hid (w2.ownsRow w.heap.size 3 1 (.slice none 0 0) 0 (([] : List Int).map (Value.int .i64))) := Lib.hid (World.ownsRow_nil _ _ _ _)
  have HK0 : Hid (Keeps (fun b => w.heap.size ≤ b) w w2) := Lib.hid (K2.out.mono (fun _ _ h => h.elim))
  go_wp2_with fail
  go_loopw [4, 5] (fun vo vi wr => ∃ (i : Nat) (oA : Option Addr) (oc : Nat), i ≤ o.length ∧ vi = .int .i64 i ∧ vo = .slice oA i oc ∧ Hid (wr.ownsRow w.heap.size 3 1 (.slice oA i oc) i (((List.range i).map (fun j : Nat => findZ o (j : Int))).map (Value.int .i64))) ∧ Hid (Keeps (fun b => w.heap.size ≤ b) w wr)) (fun _ vi _ => o.length - (intOf vi).toNat)
  case atStart => exact ⟨0, none, 0, by omega, rfl, rfl, HO0, HK0⟩
  case round =>
    clear HO0 HK0
    obtain ⟨i, oA, oc, hi, rfl, rfl, HO, HK⟩ := hrel
    obtain ⟨wr, rfl⟩ : ∃ x, x = wr := ⟨_, rfl⟩
    by_cases hlt : i < o.length
    · have HFD := Lib.hid (refFind_any o (i : Int) C cc w.heap.size wr (HX.out.keep (fun b o h => HK.out.cell h (by omega))) hol)
      have HC : Hid ((List.range (i + 1)).map (fun j : Nat => findZ o (j : Int)) = (List.range i).map (fun j : Nat => findZ o (j : Int)) ++ [findZ o (i : Int)]) := Lib.hid (by rw [List.range_succ, List.map_append]; rfl)
      have hsz := HK.out.size
      go_wp2_with fail
      refine HFD.out.mono ?_
      rintro e w' ⟨rfl, rfl⟩
      clear HFD
      generalize findZ o (i : Int) = x at *
      go_wp2_with (at_builtin; (refine wpList_append_cells _ rfl (.tmp 15) (.tmp 19) 44 rfl w.heap.size 3 (.int .i64 0) 1 8 Try.underlying44 info_cI rfl (by decide) (.slice oA i oc) i _ rfl (HO.out.alloc _) (wr.heap.size + 1) (some ⟨wr.heap.size, 0, none⟩) 1 1 [.int .i64 x] rfl (Lies.row (t := 3) (fr := (0, 0)) (heap_alloc_new wr _) (by simp)) rfl (by simp [Value.oneCell']) (by unfold maxLen; omega) (by omega) (by simp; omega) ?_); intro A2 c2 w4 h1 h2 _ _ _; have O2 : Hid (w4.ownsRow w.heap.size 3 1 (.slice A2 (i + 1) c2) (i + 1) (((List.range (i + 1)).map (fun j : Nat => findZ o (j : Int))).map (Value.int .i64))) := Lib.hid (by rw [HC.out, List.map_append]; exact h1); have K4 : Hid (Keeps (fun b => w.heap.size ≤ b) w w4) := Lib.hid ((HK.out.alloc _).grown h2 (fun b hb _ => (HO.out.lt b hb).1)); clear h1 h2 hsz)
      go_roundw
      case rel => exact ⟨i + 1, A2, c2, by omega, by go_num, rfl, O2, K4⟩
      case measure => simp [intOf]; omega
    · obtain rfl : i = o.length := by omega
      have HN : Hid ((backL o).length = o.length) := Lib.hid (by rw [HF.out.1]; simp)
      have HKF := Lib.hid (HK.out.mono (T := fun _ => False) (fun b hb e => absurd e (by omega)))
      go_wp2_with fail
      go_ret2
      exact ⟨oA, oc, by rw [HN.out, HF.out.2]; rfl, ⟨by rw [HN.out, HF.out.1]; exact HO.out, HKF.out⟩⟩
end Go.Proofs.Ytbfhbekocgdceaa
