/-
  The marked copies of a list of numbers, and are the marks there: the walks. Conditions: a length within 2 ^ 40.
-/
import Derived.Test.YthmfbcfbcookiaaDoorMem
import Derived.Test.YthmfbcfbcookiaaDoorProg
import Derived.WalkKit
import Derived.Deep.OwnRows
import Derived.LoopN
import Derived.Test.YthmfbcfbcookiaaDoorKeep
namespace Go.Proofs.YthmfbcfbcookiaaDoor
open Go.RowKit
theorem info_int : (Tryd.prog.info? 3).map (fun i => (i.zero, i.size, i.bytes)) = some (some (.int .i64 0), 1, 8) := by kernel_rfl
theorem num_any (n i : Int) (w : World) (hn : 0 ≤ n ∧ n ≤ 1000000) (hi : 0 ≤ i ∧ i ≤ 1000000000000) : Calls Tryd.prog 82 #[.int .i64 n, .int .i64 i] w fun e w' => e = .returned (.int .i64 (1048576 * n + i + 1)) ∧ w = w' := by
  go_enter Tryd.func82, Tryd.ntmps82
  go_wp2_with fail
  go_ret
  exact ⟨rfl, rfl⟩
theorem num_same (n i : Int) (w : World) (hn : 0 ≤ n ∧ n ≤ 1000000) (hi : 0 ≤ i ∧ i ≤ 1000000000000) : Calls Tryd.prog 82 #[.int .i64 n, .int .i64 i] w fun e w' => e = .returned (.int .i64 (1048576 * n + i + 1)) ∧ w' = w := (num_any n i w hn hi).mono fun _ _ h => ⟨h.1, h.2.symm⟩
/-- A list with marks behind it. -/
def wideL (xs : List Int) : List Int := xs ++ (List.range 64).map (fun i => 1048576 * 9 + ((xs.length + i : Nat) : Int) + 1)
theorem wideL_length (xs : List Int) : (wideL xs).length = xs.length + 64 := by simp [wideL]
theorem wideL_low (xs : List Int) (i : Nat) (h : i < xs.length) : (ints (wideL xs))[i]? = some (.int .i64 xs[i]) := by
  rw [ints_get, wideL, List.getElem?_append_left h, List.getElem?_eq_getElem h]; rfl
theorem wideL_high (xs : List Int) (i : Nat) (h : ¬ i < xs.length) (h2 : i < xs.length + 64) : (ints (wideL xs))[i]? = some (.int .i64 (1048576 * 9 + (i : Int) + 1)) := by
  rw [ints_get, wideL, List.getElem?_append_right (by omega), List.getElem?_map, List.getElem?_range (by omega)]
  simp only [Option.map_some]
  rw [show xs.length + (i - xs.length) = i by omega]
/-- The first i cells are those of the other. -/
def Filled (full : Array Value) (cs : Array Value) (i : Nat) : Prop := cs.size = full.size ∧ ∀ j, j < i → cs[j]? = full[j]?
theorem Filled.zero {full cs : Array Value} (h : cs.size = full.size) : Filled full cs 0 := ⟨h, fun _ hj => absurd hj (Nat.not_lt_zero _)⟩
theorem Filled.step {full cs : Array Value} {i : Nat} {v : Value} (h : Filled full cs i) (hv : full[i]? = some v) : Filled full (cs.setIfInBounds i v) (i + 1) := by
  have hi : i < full.size := (Array.getElem?_eq_some_iff.1 hv).1
  refine ⟨by rw [Array.size_setIfInBounds]; exact h.1, fun j hj => ?_⟩
  rw [Array.getElem?_setIfInBounds]
  by_cases e : i = j
  · subst e; rw [if_pos rfl, if_pos (by rw [h.1]; exact hi), hv]
  · rw [if_neg e]; exact h.2 j (by omega)
theorem Filled.full {full cs : Array Value} {i : Nat} (h : Filled full cs i) (hi : full.size ≤ i) : cs = full := by
  apply Array.ext_getElem?
  intro j
  by_cases hj : j < i
  · exact h.2 j hj
  · rw [Array.getElem?_eq_none (by have := h.1; omega), Array.getElem?_eq_none (by omega)]
end Go.Proofs.YthmfbcfbcookiaaDoor
/-
  Do the marks stand behind a list of numbers: the walk. Conditions: a length within 10 ^ 9.
-/
namespace Go.Proofs.YthmfbcfbcookiaaDoor
open Go.RowKit
end Go.Proofs.YthmfbcfbcookiaaDoor
