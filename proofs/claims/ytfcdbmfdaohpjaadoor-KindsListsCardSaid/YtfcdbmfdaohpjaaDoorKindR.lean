/-
  Kinds: the document's tables, their costs, its names looked for: the walks. Conditions: none.
-/
import Derived.Test.YtfcdbmfdaohpjaaDoorKindH
import Derived.Deep.QuietTactic
import Derived.BigQuiet
namespace Go.Proofs.YtfcdbmfdaohpjaaDoor
open Go.RowKit
/-- A sign of the document's: three cells. -/
def Sg.rcells (s : Sg) (b : Nat) : List Value := [.string s.name, .slice (some ⟨b, 0, none⟩) s.args.length s.args.length, .int .i8 s.tell]
def rsgCells : List Sg → Nat → List Value
  | [], _ => []
  | s :: l, b => s.rcells b ++ rsgCells l (b + 1)
theorem rsgCells_get : ∀ (l : List Sg) (b i : Nat) (s : Sg), l[i]? = some s → ∀ j, j < 3 → (rsgCells l b)[3 * i + j]? = (s.rcells (b + i))[j]?
  | [], _, _, _, h, _, _ => by simp at h
  | x :: l, b, 0, s, h, j, hj => by
    simp at h
    subst h
    rw [rsgCells, List.getElem?_append_left (by simp [Sg.rcells]; omega)]
    simp
  | x :: l, b, i + 1, s, h, j, hj => by
    have h' : l[i]? = some s := by simpa using h
    rw [rsgCells, List.getElem?_append_right (by simp [Sg.rcells]; omega)]
    have e : 3 * (i + 1) + j - (x.rcells b).length = 3 * i + j := by simp [Sg.rcells]; omega
    rw [e, rsgCells_get l (b + 1) i s h' j hj]
    congr 2
    omega
def RSgAt (w : World) (g b : Nat) (l : List Sg) : Prop := Whole w g 57 (rsgCells l b).toArray ∧ ∀ i s, l[i]? = some s → Whole w (b + i) 52 s.kinds
theorem RSgAt.past {w w' : World} {g b : Nat} {l : List Sg} (h : RSgAt w g b l) (hb : Below w.heap.size w w') : RSgAt w' g b l := ⟨h.1.past hb, fun i s hs => (h.2 i s hs).past hb⟩
theorem RSgAt.cells_at {w : World} {g b : Nat} {l : List Sg} (h : Whole w g 57 (rsgCells l b).toArray) (k : Nat) (s : Sg) (hs : l[k]? = some s) :
    w.cell? ⟨g, k * 3, none⟩ = some (.string s.name) ∧ w.cell? ⟨g, k * 3 + 1, none⟩ = some (.slice (some ⟨b + k, 0, none⟩) s.args.length s.args.length) ∧ w.cell? ⟨g, k * 3 + 2, none⟩ = some (.int .i8 s.tell) := by
  have hc : ∀ j, j < 3 → w.cell? ⟨g, k * 3 + j, none⟩ = (s.rcells (b + k))[j]? := fun j hj => by
    rw [h.cellAt, Nat.mul_comm, ← rsgCells_get l b k s hs j hj]; simp
  exact ⟨hc 0 (by omega), hc 1 (by omega), hc 2 (by omega)⟩
def rsgObjs (l : List Sg) (b : Nat) : List Obj := l.map (fun s => .cells s.kinds 52) ++ [.cells (rsgCells l b).toArray 57]
theorem rsg_made (l : List Sg) (w : World) : RSgAt (allocs w (rsgObjs l w.heap.size)) (w.heap.size + l.length) w.heap.size l ∧ Below w.heap.size w (allocs w (rsgObjs l w.heap.size)) := by
  refine ⟨⟨allocs_get _ _ _ _ ?_, fun i s hs => allocs_get _ _ _ _ ?_⟩, allocs_below _ _⟩
  · unfold rsgObjs
    rw [List.getElem?_append_right (by simp)]
    simp
  · unfold rsgObjs
    have hi : i < l.length := by
      rcases Nat.lt_or_ge i l.length with h | h
      · exact h
      · rw [List.getElem?_eq_none h] at hs; cases hs
    rw [List.getElem?_append_left (by simpa using hi)]
    simp [hs]
set_option maxHeartbeats 2000000 in
set_option maxRecDepth 100000 in
theorem rfields_any (w : World) : Calls Tryd.prog 11 #[] w fun e w' => e = .returned (.slice (some ⟨w.heap.size + 13, 0, none⟩) 13 13) ∧ RSgAt w' (w.heap.size + 13) w.heap.size fields ∧ Below w.heap.size w w' := by
  go_enter Tryd.func11, Tryd.ntmps11
  go_wp2_with fail
  go_ret
  exact ⟨rfl, rsg_made fields w⟩
set_option maxHeartbeats 2000000 in
set_option maxRecDepth 100000 in
theorem rfuncs_any (w : World) : Calls Tryd.prog 23 #[] w fun e w' => e = .returned (.slice (some ⟨w.heap.size + 9, 0, none⟩) 9 9) ∧ RSgAt w' (w.heap.size + 9) w.heap.size funcs ∧ Below w.heap.size w w' := by
  go_enter Tryd.func23, Tryd.ntmps23
  go_wp2_with fail
  go_ret
  exact ⟨rfl, rsg_made funcs w⟩
set_option maxHeartbeats 2000000 in
set_option maxRecDepth 100000 in
theorem reffects_any (w : World) : Calls Tryd.prog 24 #[] w fun e w' => e = .returned (.slice (some ⟨w.heap.size + 9, 0, none⟩) 9 9) ∧ RSgAt w' (w.heap.size + 9) w.heap.size effects ∧ Below w.heap.size w w' := by
  go_enter Tryd.func24, Tryd.ntmps24
  go_wp2_with fail
  go_ret
  exact ⟨rfl, rsg_made effects w⟩
theorem rlist_any (q : Nat) (hq : q < 3) (w : World) : Calls Tryd.prog 6 #[.int .i64 q] w fun e w' => e = .returned (.slice (some ⟨w.heap.size + (tbl q).length, 0, none⟩) (tbl q).length (tbl q).length) ∧ RSgAt w' (w.heap.size + (tbl q).length) w.heap.size (tbl q) ∧ Below w.heap.size w w' := by
  rcases three hq with rfl | rfl | rfl
  · go_enter Tryd.func6, Tryd.ntmps6
    go_wp2_with fail
    refine (rfields_any _).mono ?_
    rintro e w1 ⟨rfl, hs, hb⟩
    have HS := Lib.hid hs; have HB := Lib.hid hb; clear hs hb
    go_wp2_with fail
    go_ret
    exact ⟨rfl, HS.out, HB.out⟩
  · go_enter Tryd.func6, Tryd.ntmps6
    go_wp2_with fail
    refine (rfuncs_any _).mono ?_
    rintro e w1 ⟨rfl, hs, hb⟩
    have HS := Lib.hid hs; have HB := Lib.hid hb; clear hs hb
    go_wp2_with fail
    go_ret
    exact ⟨rfl, HS.out, HB.out⟩
  · go_enter Tryd.func6, Tryd.ntmps6
    go_wp2_with fail
    refine (reffects_any _).mono ?_
    rintro e w1 ⟨rfl, hs, hb⟩
    have HS := Lib.hid hs; have HB := Lib.hid hb; clear hs hb
    go_wp2_with fail
    go_ret
    exact ⟨rfl, HS.out, HB.out⟩
end Go.Proofs.YtfcdbmfdaohpjaaDoor
