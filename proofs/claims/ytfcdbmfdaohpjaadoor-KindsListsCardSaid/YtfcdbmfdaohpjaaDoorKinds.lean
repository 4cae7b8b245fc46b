/-
  The tables of kinds: the walks of the functions that make them. Conditions: none.
-/
import Derived.Test.YtfcdbmfdaohpjaaDoorMem
import Derived.Test.YtfcdbmfdaohpjaaDoorKeep
import Derived.Test.YtfcdbmfdaohpjaaDoorProg
import Derived.WalkLawsBesides
import Derived.Outline
import Derived.LoopN
namespace Go.Proofs.YtfcdbmfdaohpjaaDoor
open Go.RowKit
/-- A sign: its name, what it takes, what it tells, what reckons its gas. -/
structure Sg where
  name : ByteArray
  args : List Int
  tell : Int
  gas : Nat
/-- Its four cells, its list of kinds in block b. -/
def Sg.cells (s : Sg) (b : Nat) : List Value := [.string s.name, .slice (some ⟨b, 0, none⟩) s.args.length s.args.length, .int .i8 s.tell, .func (.func s.gas) #[] #[]]
def Sg.kinds (s : Sg) : Array Value := (s.args.map (Value.int .i8)).toArray
/-- The cells of a list of signs, their lists of kinds in the blocks from b on. -/
def sgCells : List Sg → Nat → List Value
  | [], _ => []
  | s :: l, b => s.cells b ++ sgCells l (b + 1)
theorem sgCells_length : ∀ (l : List Sg) (b : Nat), (sgCells l b).length = 4 * l.length
  | [], _ => rfl
  | s :: l, b => by rw [sgCells, List.length_append, sgCells_length l (b + 1)]; simp [Sg.cells]; omega
theorem sgCells_get : ∀ (l : List Sg) (b i : Nat) (s : Sg), l[i]? = some s → ∀ j, j < 4 → (sgCells l b)[4 * i + j]? = (s.cells (b + i))[j]?
  | [], _, _, _, h, _, _ => by simp at h
  | x :: l, b, 0, s, h, j, hj => by
    simp at h
    subst h
    rw [sgCells, List.getElem?_append_left (by simp [Sg.cells]; omega)]
    simp
  | x :: l, b, i + 1, s, h, j, hj => by
    have h' : l[i]? = some s := by simpa using h
    rw [sgCells, List.getElem?_append_right (by simp [Sg.cells]; omega)]
    have e : 4 * (i + 1) + j - (x.cells b).length = 4 * i + j := by simp [Sg.cells]; omega
    rw [e, sgCells_get l (b + 1) i s h' j hj]
    congr 2
    omega
/-- A list of signs lies at block g, its lists of kinds from block b on. -/
def SgAt (w : World) (g b : Nat) (l : List Sg) : Prop := Whole w g 55 (sgCells l b).toArray ∧ ∀ i s, l[i]? = some s → Whole w (b + i) 52 s.kinds
theorem SgAt.past {w w' : World} {g b : Nat} {l : List Sg} (h : SgAt w g b l) (hb : Below w.heap.size w w') : SgAt w' g b l := ⟨h.1.past hb, fun i s hs => (h.2 i s hs).past hb⟩
/-- Blocks laid one behind the other. -/
def allocs (w : World) (l : List Obj) : World := l.foldl World.alloc w
theorem allocs_below : ∀ (l : List Obj) (w : World), Below w.heap.size w (allocs w l)
  | [], _ => Below.refl _ _
  | o :: l, w => belowThen' ((Below.refl _ w).alloc (Nat.le_refl _) o) (allocs_below l (w.alloc o))
theorem allocs_get : ∀ (l : List Obj) (w : World) (i : Nat) (o : Obj), l[i]? = some o → (allocs w l).heap[w.heap.size + i]? = some o
  | [], _, _, _, h => by simp at h
  | x :: l, w, 0, o, h => by
    simp at h
    subst h
    exact ((allocs_below l (w.alloc x)).block w.heap.size (by simp)).trans (heap_alloc_new w x)
  | x :: l, w, i + 1, o, h => by
    have := allocs_get l (w.alloc x) i o (by simpa using h)
    rw [← this]
    congr 1
    simp
    omega
def sgObjs (l : List Sg) (b : Nat) : List Obj := l.map (fun s => .cells s.kinds 52) ++ [.cells (sgCells l b).toArray 55]
theorem sg_made (l : List Sg) (w : World) : SgAt (allocs w (sgObjs l w.heap.size)) (w.heap.size + l.length) w.heap.size l ∧ Below w.heap.size w (allocs w (sgObjs l w.heap.size)) := by
  refine ⟨⟨allocs_get _ _ _ _ ?_, fun i s hs => allocs_get _ _ _ _ ?_⟩, allocs_below _ _⟩
  · unfold sgObjs
    rw [List.getElem?_append_right (by simp)]
    simp
  · unfold sgObjs
    have hi : i < l.length := by
      rcases Nat.lt_or_ge i l.length with h | h
      · exact h
      · rw [List.getElem?_eq_none h] at hs; cases hs
    rw [List.getElem?_append_left (by simpa using hi)]
    simp [hs]
def fields : List Sg := [⟨⟨#[112, 111, 119, 101, 114]⟩, [3], 1, 27⟩, ⟨⟨#[104, 101, 97, 108, 116, 104]⟩, [3], 1, 27⟩, ⟨⟨#[100, 97, 109, 97, 103, 101]⟩, [3], 1, 27⟩, ⟨⟨#[109, 97, 114, 107, 115]⟩, [3], 1, 27⟩, ⟨⟨#[111, 119, 110, 101, 114]⟩, [3], 4, 27⟩, ⟨⟨#[112, 108, 97, 99, 101]⟩, [3], 5, 27⟩, ⟨⟨#[108, 105, 102, 101]⟩, [4], 1, 27⟩, ⟨⟨#[101, 110, 101, 114, 103, 121]⟩, [4], 1, 27⟩, ⟨⟨#[111, 117, 116]⟩, [4], 2, 27⟩, ⟨⟨#[115, 105, 122, 101]⟩, [5], 1, 27⟩, ⟨⟨#[99, 97, 114, 100, 115]⟩, [5], 6, 28⟩, ⟨⟨#[104, 111, 108, 100, 101, 114]⟩, [5], 4, 27⟩, ⟨⟨#[99, 111, 117, 110, 116]⟩, [6], 1, 27⟩]
def funcs : List Sg := [⟨⟨#[110, 101, 120, 116]⟩, [4], 4, 27⟩, ⟨⟨#[122, 111, 110, 101]⟩, [4, -1], 5, 27⟩, ⟨⟨#[114, 97, 110, 100, 111, 109]⟩, [1], 1, 27⟩, ⟨⟨#[116, 111, 112]⟩, [5], 3, 27⟩, ⟨⟨#[104, 97, 115]⟩, [6, 3], 2, 28⟩, ⟨⟨#[105, 115]⟩, [3, -2], 2, 27⟩, ⟨⟨#[97, 98, 115]⟩, [1], 1, 27⟩, ⟨⟨#[109, 105, 110]⟩, [1, 1], 1, 27⟩, ⟨⟨#[109, 97, 120]⟩, [1, 1], 1, 27⟩]
def effects : List Sg := [⟨⟨#[109, 111, 118, 101]⟩, [3, 5], 0, 27⟩, ⟨⟨#[112, 117, 116]⟩, [3, 5], 0, 27⟩, ⟨⟨#[100, 114, 97, 119]⟩, [4], 0, 27⟩, ⟨⟨#[104, 105, 116]⟩, [3, 1], 0, 27⟩, ⟨⟨#[104, 97, 114, 109]⟩, [4, 1], 0, 27⟩, ⟨⟨#[103, 97, 105, 110]⟩, [4, 1], 0, 27⟩, ⟨⟨#[109, 97, 114, 107]⟩, [3, 1], 0, 27⟩, ⟨⟨#[103, 114, 111, 119]⟩, [3, 1], 0, 27⟩, ⟨⟨#[115, 104, 117, 102, 102, 108, 101]⟩, [5], 0, 28⟩]
set_option maxHeartbeats 2000000 in
set_option maxRecDepth 100000 in
theorem fields_any (w : World) : Calls Tryd.prog 9 #[] w fun e w' => e = .returned (.slice (some ⟨w.heap.size + 13, 0, none⟩) 13 13) ∧ SgAt w' (w.heap.size + 13) w.heap.size fields ∧ Below w.heap.size w w' := by
  go_enter Tryd.func9, Tryd.ntmps9
  go_wp2_with fail
  go_ret
  exact ⟨rfl, sg_made fields w⟩
set_option maxHeartbeats 2000000 in
set_option maxRecDepth 100000 in
theorem funcs_any (w : World) : Calls Tryd.prog 21 #[] w fun e w' => e = .returned (.slice (some ⟨w.heap.size + 9, 0, none⟩) 9 9) ∧ SgAt w' (w.heap.size + 9) w.heap.size funcs ∧ Below w.heap.size w w' := by
  go_enter Tryd.func21, Tryd.ntmps21
  go_wp2_with fail
  go_ret
  exact ⟨rfl, sg_made funcs w⟩
set_option maxHeartbeats 2000000 in
set_option maxRecDepth 100000 in
theorem effects_any (w : World) : Calls Tryd.prog 22 #[] w fun e w' => e = .returned (.slice (some ⟨w.heap.size + 9, 0, none⟩) 9 9) ∧ SgAt w' (w.heap.size + 9) w.heap.size effects ∧ Below w.heap.size w w' := by
  go_enter Tryd.func22, Tryd.ntmps22
  go_wp2_with fail
  go_ret
  exact ⟨rfl, sg_made effects w⟩
end Go.Proofs.YtfcdbmfdaohpjaaDoor
