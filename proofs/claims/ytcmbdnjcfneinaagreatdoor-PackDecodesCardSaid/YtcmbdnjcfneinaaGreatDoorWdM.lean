/-
  The marked copies of a list of numbers, and are the marks there: the walks. Conditions: a length within 2 ^ 40.
-/
import Derived.Test.YtcmbdnjcfneinaaGreatDoorMemM
import Derived.Test.YtcmbdnjcfneinaaGreatDoorProg
import Derived.WalkKit
import Derived.Deep.OwnRows
import Derived.LoopN
namespace Go.Proofs.YtcmbdnjcfneinaaGreatDoor
open Go.RowKit
theorem info_int : (Tryz.prog.info? 3).map (fun i => (i.zero, i.size, i.bytes)) = some (some (.int .i64 0), 1, 8) := by kernel_rfl
theorem num_any (n i : Int) (w : World) (hn : 0 ≤ n ∧ n ≤ 1000000) (hi : 0 ≤ i ∧ i ≤ 1000000000000) : Calls Tryz.prog 86 #[.int .i64 n, .int .i64 i] w fun e w' => e = .returned (.int .i64 (1048576 * n + i + 1)) ∧ w = w' := by
  go_enter Tryz.func86, Tryz.ntmps86
  go_wp2_with fail
  go_ret
  exact ⟨rfl, rfl⟩
theorem num_same (n i : Int) (w : World) (hn : 0 ≤ n ∧ n ≤ 1000000) (hi : 0 ≤ i ∧ i ≤ 1000000000000) : Calls Tryz.prog 86 #[.int .i64 n, .int .i64 i] w fun e w' => e = .returned (.int .i64 (1048576 * n + i + 1)) ∧ w' = w := (num_any n i w hn hi).mono fun _ _ h => ⟨h.1, h.2.symm⟩
/-- A list with marks behind it. -/
def wideL (xs : List Int) : List Int := xs ++ (List.range 64).map (fun i => 1048576 * 9 + ((xs.length + i : Nat) : Int) + 1)
theorem wideL_length (xs : List Int) : (wideL xs).length = xs.length + 64 := by simp [wideL]
theorem wideL_low (xs : List Int) (i : Nat) (h : i < xs.length) : (ints (wideL xs))[i]? = some (.int .i64 xs[i]) := by
  rw [ints_get, wideL, List.getElem?_append_left h, List.getElem?_eq_getElem h]; rfl
theorem wideL_high (xs : List Int) (i : Nat) (h : ¬ i < xs.length) (h2 : i < xs.length + 64) : (ints (wideL xs))[i]? = some (.int .i64 (1048576 * 9 + (i : Int) + 1)) := by
  rw [ints_get, wideL, List.getElem?_append_right (by omega), List.getElem?_map, List.getElem?_range (by omega)]
  simp only [Option.map_some]
  rw [show xs.length + (i - xs.length) = i by omega]
/-- The first i cells are those of the other. -/
def Filled (full : Array Value) (cs : Array Value) (i : Nat) : Prop := cs.size = full.size ∧ ∀ j, j < i → cs[j]? = full[j]?
theorem Filled.zero {full cs : Array Value} (h : cs.size = full.size) : Filled full cs 0 := ⟨h, fun _ hj => absurd hj (Nat.not_lt_zero _)⟩
theorem Filled.step {full cs : Array Value} {i : Nat} {v : Value} (h : Filled full cs i) (hv : full[i]? = some v) : Filled full (cs.setIfInBounds i v) (i + 1) := by
  have hi : i < full.size := (Array.getElem?_eq_some_iff.1 hv).1
  refine ⟨by rw [Array.size_setIfInBounds]; exact h.1, fun j hj => ?_⟩
  rw [Array.getElem?_setIfInBounds]
  by_cases e : i = j
  · subst e; rw [if_pos rfl, if_pos (by rw [h.1]; exact hi), hv]
  · rw [if_neg e]; exact h.2 j (by omega)
theorem Filled.full {full cs : Array Value} {i : Nat} (h : Filled full cs i) (hi : full.size ≤ i) : cs = full := by
  apply Array.ext_getElem?
  intro j
  by_cases hj : j < i
  · exact h.2 j hj
  · rw [Array.getElem?_eq_none (by have := h.1; omega), Array.getElem?_eq_none (by omega)]
set_option maxHeartbeats 1000000 in
theorem wideInts_any (xs : List Int) (A : Option Addr) (cap : Nat) (w : World) (hx : Lies w w.heap.size A (xs.map (Value.int .i64))) (hl : xs.length ≤ 1000000000) :
    Calls Tryz.prog 122 #[.slice A xs.length cap] w fun e w' => e = .returned (.slice (some ⟨w.heap.size, 0, none⟩) xs.length (xs.length + 64)) ∧ Whole w' w.heap.size 3 (ints (wideL xs)) ∧ Keeps (fun _ => False) w w' := by
  have HX := Lib.hid hx; clear hx
  have hmk : ∀ w : World, (Instr.makeSlice 37 (.int .i64 ((xs.length : Int) + 64)) (.int .i64 ((xs.length : Int) + 64))).run Tryz.prog w = .ok (.slice (some ⟨w.heap.size, 0, none⟩) (xs.length + 64) (xs.length + 64)) (w.alloc (.cells (madeCells #[.int .i64 0] (xs.length + 64)) 3)) := fun w => run_make_row' 37 3 (.int .i64 0) 8 Tryz.underlying37 info_int rfl .i64 .i64 (xs.length + 64) (by omega) (by omega) w
  go_enter Tryz.func122, Tryz.ntmps122
  go_wp2_with fail
  clear hmk
  have HW0 : Hid (Whole (w.alloc (.cells (madeCells #[.int .i64 0] (xs.length + 64)) 3)) w.heap.size 3 (madeCells #[.int .i64 0] (xs.length + 64))) := Lib.hid (Whole.made w _ _)
  have HK0 : Hid (Keeps (fun b => b = w.heap.size) w (w.alloc (.cells (madeCells #[.int .i64 0] (xs.length + 64)) 3))) := Lib.hid ((Keeps.refl _ w).alloc _)
  have hms : (madeCells #[.int .i64 0] (xs.length + 64)).size = (ints (wideL xs)).size := by rw [size_madeCells, ints_size, wideL_length]
  go_loopw [4] (fun vi wr => ∃ (i : Nat) (cs : Array Value), i ≤ xs.length + 64 ∧ vi = .int .i64 i ∧ Hid (Filled (ints (wideL xs)) cs i) ∧ Hid (Whole wr w.heap.size 3 cs) ∧ Hid (Keeps (fun b => b = w.heap.size) w wr)) (fun vi _ => xs.length + 64 - (intOf vi).toNat)
  case atStart => exact ⟨0, _, by omega, rfl, Lib.hid (Filled.zero hms), HW0, HK0⟩
  case round =>
    clear HW0 HK0 hms
    obtain ⟨i, cs, hi, rfl, HF, HW, HK⟩ := hrel
    by_cases hlt : i < xs.length
    · obtain ⟨g, off, rfl, hg, hc⟩ := HX.out i (.int .i64 xs[i]) (by simp [hlt])
      have hc0 : wr.cell? ⟨g, off + i, none⟩ = some (.int .i64 xs[i]) := (HK.out.cell hg (by omega)).trans hc
      have hv := wideL_low xs i hlt
      obtain ⟨u, hu⟩ : ∃ u, wr.cell? ⟨w.heap.size, i, none⟩ = some u := ⟨_, (HW.out.cellAt i).trans (Array.getElem?_eq_getElem (by rw [HF.out.1, ints_size, wideL_length]; omega))⟩
      have hf := HW.out.free i
      have HF' := Lib.hid (HF.out.step hv)
      clear hc hv HF
      generalize xs[i] = x at *
      have HW' := Lib.hid (HW.out.put i (.int .i64 x))
      have HK' := Lib.hid (HK.out.setCell (p := ⟨w.heap.size, i, none⟩) (fun _ => rfl) (.int .i64 x))
      clear HW HK
      go_wp2_with fail
      go_roundw
      case rel => exact ⟨i + 1, _, by omega, by go_num, HF', HW', HK'⟩
      case measure => simp [intOf]; omega
    · by_cases hlt2 : i < xs.length + 64
      · obtain ⟨u, hu⟩ : ∃ u, wr.cell? ⟨w.heap.size, i, none⟩ = some u := ⟨_, (HW.out.cellAt i).trans (Array.getElem?_eq_getElem (by rw [HF.out.1, ints_size, wideL_length]; omega))⟩
        have hf := HW.out.free i
        have HF' := Lib.hid (HF.out.step (wideL_high xs i hlt hlt2))
        have HW' := Lib.hid (HW.out.put i (.int .i64 (1048576 * 9 + (i : Int) + 1)))
        have HK' := Lib.hid (HK.out.setCell (p := ⟨w.heap.size, i, none⟩) (fun _ => rfl) (.int .i64 (1048576 * 9 + (i : Int) + 1)))
        clear HF HW HK
        go_wp2_with fail
        refine (num_any 9 i _ (by omega) (by omega)).mono ?_
        rintro e w1 ⟨rfl, rfl⟩
        go_wp2_with fail
        go_roundw
        case rel => exact ⟨i + 1, _, by omega, by go_num, HF', HW', HK'⟩
        case measure => simp [intOf]; omega
      · obtain rfl : i = xs.length + 64 := by omega
        have hfull := HF.out.full (by rw [ints_size, wideL_length]; omega)
        subst hfull
        go_wp2_with fail
        go_ret
        exact ⟨rfl, HW.out, HK.out.mono (fun b hb e => absurd e (by omega))⟩
end Go.Proofs.YtcmbdnjcfneinaaGreatDoor
/-
  Do the marks stand behind a list of numbers: the walk. Conditions: a length within 10 ^ 9.
-/
namespace Go.Proofs.YtcmbdnjcfneinaaGreatDoor
open Go.RowKit
set_option maxHeartbeats 1000000 in
theorem spareInts_any (g n : Nat) (cs : Array Value) (w : World) (hW : Whole w g 3 cs) (hl : n ≤ 1000000000) (hm : ∀ i, n ≤ i → i < n + 64 → cs[i]? = some (.int .i64 (1048576 * 9 + (i : Int) + 1))) :
    Calls Tryz.prog 131 #[.slice (some ⟨g, 0, none⟩) n (n + 64)] w fun e w' => e = .returned (.bool true) ∧ ∃ d, w' = w.drewN d := by
  have HW := Lib.hid hW; have HM := Lib.hid hm
  clear hW hm
  go_enter Tryz.func131, Tryz.ntmps131
  go_wp2_with fail
  go_loopw [4] (fun vi wr => ∃ i d : Nat, n ≤ i ∧ i ≤ n + 64 ∧ vi = .int .i64 i ∧ wr = w.drewN d) (fun vi _ => n + 64 - (intOf vi).toNat)
  case atStart => exact ⟨n, 0, by omega, by omega, rfl, rfl⟩
  case round =>
    obtain ⟨i, d, hn, hi, rfl, rfl⟩ := hrel
    by_cases hlt : i < n + 64
    · have hc : (w.drewN d).cell? ⟨g, i, none⟩ = some (.int .i64 (1048576 * 9 + (i : Int) + 1)) := (HW.out.cellAt i).trans (HM.out i hn hlt)
      have he : ((1048576 * 9 + (i : Int) + 1) == (1048576 * 9 + (i : Int) + 1)) = true := by simp
      go_wp2_with fail
      refine (num_any 9 i _ (by omega) (by omega)).mono ?_
      rintro e w1 ⟨rfl, rfl⟩
      go_wp2_with fail
      go_roundw
      case rel => exact ⟨i + 1, d, by omega, by omega, by go_num, rfl⟩
      case measure => simp [intOf]; omega
    · obtain rfl : i = n + 64 := by omega
      go_wp2_with fail
      go_ret
      exact ⟨rfl, d, rfl⟩
end Go.Proofs.YtcmbdnjcfneinaaGreatDoor
/-
  Lists of structs, laid out cell by cell. Conditions: none.
-/
namespace Go.Proofs.YtcmbdnjcfneinaaGreatDoor
open Go.RowKit
/-- The cells of a list, element by element. -/
def flat {α : Type} (f : α → List Value) (l : List α) : List Value := l.flatMap f
theorem flat_length {α : Type} {f : α → List Value} {k : Nat} (hf : ∀ a, (f a).length = k) (l : List α) : (flat f l).length = l.length * k := by
  induction l with
  | nil => simp [flat]
  | cons a l ih => rw [flat, List.flatMap_cons, List.length_append, hf]; unfold flat at ih; rw [ih, List.length_cons, Nat.succ_mul, Nat.add_comm]
theorem flat_get {α : Type} {f : α → List Value} {k : Nat} (hf : ∀ a, (f a).length = k) (l : List α) (i : Nat) (a : α) (hi : l[i]? = some a) (j : Nat) (hj : j < k) : (flat f l)[i * k + j]? = (f a)[j]? := by
  induction l generalizing i with
  | nil => simp at hi
  | cons b l ih =>
    rw [flat, List.flatMap_cons]
    cases i with
    | zero =>
      simp only [List.getElem?_cons_zero, Option.some.injEq] at hi
      subst hi
      rw [List.getElem?_append_left (by rw [hf]; omega), Nat.zero_mul, Nat.zero_add]
    | succ i =>
      simp only [List.getElem?_cons_succ] at hi
      rw [List.getElem?_append_right (by rw [hf, Nat.succ_mul]; omega), hf, show (i + 1) * k + j - k = i * k + j by rw [Nat.succ_mul]; omega]
      exact ih i hi
theorem make_rows {P : Program} (t e : TypeId) (z : Value) (size bytes : Nat) (ht : P.underlying t = some (.slice e)) (hinfo : (P.info? e).map (fun i => (i.zero, i.size, i.bytes)) = some (some z, size, bytes))
    (n : Nat) (hbytes : bytes * n ≤ 281474976710656) (h63 : n ≤ 9223372036854775807) (w : World) :
    (Instr.makeSlice t (.int .i64 (n : Int)) (.int .i64 (n : Int))).run P w = .ok (.slice (some ⟨w.heap.size, 0, none⟩) n n) (w.alloc (.cells (madeCells z.cells (n * size)) e)) := by
  obtain ⟨i, hi, hzz⟩ := Option.map_eq_some_iff.1 hinfo
  simp only [Prod.mk.injEq] at hzz
  obtain ⟨hz, hs, hb⟩ := hzz
  have hb' : (i.bytes : Int) * (n : Int) ≤ 281474976710656 := by
    have h : ((i.bytes * n : Nat) : Int) ≤ 281474976710656 := by rw [hb]; omega
    rwa [Int.natCast_mul] at h
  have hr := run_make (P := P) w t e i z ht hi hz .i64 .i64 n n (by omega) (Int.le_refl _) hb' (by omega)
  simpa [hs] using hr
/-- Elements of k cells each, where a slice says. -/
def FLies {α : Type} (f : α → List Value) (k : Nat) (w : World) (B : Nat) (A : Option Addr) (xs : List α) : Prop := ∀ i c, xs[i]? = some c → ∃ g off, A = some ⟨g, off, none⟩ ∧ g < B ∧ ∀ j, j < k → w.cell? ⟨g, off + i * k + j, none⟩ = (f c)[j]?
section
variable {α : Type} {f : α → List Value} {k : Nat} {w w' : World} {B : Nat} {A : Option Addr} {xs : List α}
theorem FLies.keeps {S : Nat → Prop} (h : FLies f k w B A xs) (hk : Keeps S w w') (hS : ∀ b, b < B → ¬ S b) (hB : B ≤ w.heap.size := by omega) : FLies f k w' B A xs := fun i c hi => by
  obtain ⟨g, off, e, hg, hc⟩ := h i c hi
  exact ⟨g, off, e, hg, fun j hj => (hk.cell (by omega) (hS g hg)).trans (hc j hj)⟩
theorem FLies.more {B' : Nat} (h : FLies f k w B A xs) (hB : B ≤ B') : FLies f k w B' A xs := fun i c hi => by
  obtain ⟨g, off, e, hg, hc⟩ := h i c hi
  exact ⟨g, off, e, by omega, hc⟩
theorem FLies.drewN (h : FLies f k w B A xs) (n : Nat) : FLies f k (w.drewN n) B A xs := h
theorem FLies.nil : FLies f k w B A ([] : List α) := fun i c h => by simp at h
/-- Out of a block that is known whole: the first ones of the list that fills it. -/
theorem FLies.whole (hf : ∀ a, (f a).length = k) {g : Nat} {t : TypeId} {ys : List α} (h : Whole w g t (flat f ys).toArray) (hp : ∀ (i : Nat) (c : α), xs[i]? = some c → ys[i]? = some c) (hB : g < B) : FLies f k w B (some ⟨g, 0, none⟩) xs := fun i c hi =>
  ⟨g, 0, rfl, hB, fun j hj => by rw [Nat.zero_add, h.cellAt, List.getElem?_toArray]; exact flat_get hf ys i c (hp i c hi) j hj⟩
end
end Go.Proofs.YtcmbdnjcfneinaaGreatDoor
/-
  The marked copies of a list of lists of numbers: the walk. Conditions: lengths within 10 ^ 9.
-/
namespace Go.Proofs.YtcmbdnjcfneinaaGreatDoor
open Go.RowKit
theorem info_row : (Tryz.prog.info? 37).map (fun i => (i.zero, i.size, i.bytes)) = some (some (.slice none 0 0), 1, 24) := by kernel_rfl
/-- Rows of numbers, where a slice says. -/
def RowsLie (w : World) (B : Nat) (A : Option Addr) (rows : List (List Int)) : Prop := ∀ i r, rows[i]? = some r → ∃ g off Ai ci, A = some ⟨g, off, none⟩ ∧ g < B ∧ w.cell? ⟨g, off + i, none⟩ = some (.slice Ai r.length ci) ∧ Lies w B Ai (r.map (Value.int .i64))
section
variable {w w' : World} {B : Nat} {A : Option Addr} {rows : List (List Int)}
theorem Lies.keeps {xs : List Value} {S : Nat → Prop} (h : Lies w B A xs) (hk : Keeps S w w') (hS : ∀ b, b < B → ¬ S b) (hB : B ≤ w.heap.size := by omega) : Lies w' B A xs := h.keep fun _ _ hb => hk.cell (by omega) (hS _ hb)
theorem RowsLie.keeps {S : Nat → Prop} (h : RowsLie w B A rows) (hk : Keeps S w w') (hS : ∀ b, b < B → ¬ S b) (hB : B ≤ w.heap.size := by omega) : RowsLie w' B A rows := fun i r hi => by
  obtain ⟨g, off, Ai, ci, e, hg, hc, hl⟩ := h i r hi
  exact ⟨g, off, Ai, ci, e, hg, (hk.cell (by omega) (hS g hg)).trans hc, hl.keeps hk hS hB⟩
theorem RowsLie.more {B' : Nat} (h : RowsLie w B A rows) (hB : B ≤ B') : RowsLie w B' A rows := fun i r hi => by
  obtain ⟨g, off, Ai, ci, e, hg, hc, hl⟩ := h i r hi
  exact ⟨g, off, Ai, ci, e, by omega, hc, hl.more hB⟩
theorem RowsLie.drewN (h : RowsLie w B A rows) (n : Nat) : RowsLie (w.drewN n) B A rows := h
theorem RowsLie.nil : RowsLie w B A [] := fun i c h => by simp at h
end
/-- What lies behind: each row with its marks, then the rows of one mark. -/
def wideR (rows : List (List Int)) : List (Nat × List Int) := rows.map (fun r => (r.length, wideL r)) ++ (List.range 64).map (fun i => (1, [1048576 * 9 + ((rows.length + i : Nat) : Int) + 1]))
theorem wideR_length (xs : List (List Int)) : (wideR xs).length = xs.length + 64 := by simp [wideR]
theorem wideR_low (xs : List (List Int)) (i : Nat) (r : List Int) (h : xs[i]? = some r) : (wideR xs)[i]? = some (r.length, wideL r) := by
  have hl : i < xs.length := (List.getElem?_eq_some_iff.1 h).1
  rw [wideR, List.getElem?_append_left (by simpa using hl), List.getElem?_map, h]; rfl
theorem wideR_high (xs : List (List Int)) (i : Nat) (h : ¬ i < xs.length) (h2 : i < xs.length + 64) : (wideR xs)[i]? = some (1, [1048576 * 9 + (i : Int) + 1]) := by
  rw [wideR, List.getElem?_append_right (by simpa using h), List.getElem?_map, List.length_map, List.getElem?_range (by omega)]
  simp only [Option.map_some]
  rw [show xs.length + (i - xs.length) = i by omega]
/-- The first i rows of a list of rows in a block of its own, each in a block of its own. -/
structure RowsUpto (g : Nat) (its : List (Nat × List Int)) (wr : World) (cs : Array Value) (bs : Nat → Nat) (i : Nat) : Prop where
  size : cs.size = its.length
  whole : Whole wr g 37 cs
  row : ∀ j it, j < i → its[j]? = some it → cs[j]? = some (.slice (some ⟨bs j, 0, none⟩) it.1 it.2.length) ∧ Whole wr (bs j) 3 (ints it.2) ∧ g < bs j
  rise : ∀ j k, j < k → k < i → bs j < bs k
theorem RowsUpto.nextOf {g : Nat} {its : List (Nat × List Int)} {wr wr' : World} {cs : Array Value} {bs : Nat → Nat} {i b : Nat} {it : Nat × List Int} (h : RowsUpto g its wr cs bs i) (hit : its[i]? = some it) (hb : wr.heap.size ≤ b) (hw : Whole wr' b 3 (ints it.2))
    (hg' : Whole wr' g 37 (cs.setIfInBounds i (.slice (some ⟨b, 0, none⟩) it.1 it.2.length))) (hk : ∀ k c, k ≠ g → Whole wr k 3 c → Whole wr' k 3 c) :
    RowsUpto g its wr' (cs.setIfInBounds i (.slice (some ⟨b, 0, none⟩) it.1 it.2.length)) (fun j => if j = i then b else bs j) (i + 1) := by
  have hg := h.whole.inside
  have hil : i < its.length := (List.getElem?_eq_some_iff.1 hit).1
  refine ⟨by rw [Array.size_setIfInBounds]; exact h.size, hg', fun j jt hj hjt => ?_, fun j k hjk hk' => ?_⟩
  · rw [Array.getElem?_setIfInBounds]
    by_cases e : i = j
    · subst e
      rw [if_pos rfl, if_pos (by rw [h.size]; exact hil), if_pos rfl]
      obtain rfl : it = jt := by rw [hit] at hjt; exact Option.some.inj hjt
      exact ⟨rfl, hw, by omega⟩
    · rw [if_neg e, if_neg (fun h => e h.symm)]
      obtain ⟨h1, h2, h3⟩ := h.row j jt (by omega) hjt
      exact ⟨h1, hk _ _ (by omega) h2, h3⟩
  · show (if j = i then b else bs j) < (if k = i then b else bs k)
    rw [if_neg (by omega)]
    by_cases e : k = i
    · rw [if_pos e]
      have hj : j < its.length := by omega
      have := (h.row j its[j] (by omega) (List.getElem?_eq_getElem hj)).2.1.inside
      omega
    · rw [if_neg e]; exact h.rise j k hjk (by omega)
theorem RowsUpto.next {g : Nat} {its : List (Nat × List Int)} {wr wr' : World} {cs : Array Value} {bs : Nat → Nat} {i b : Nat} {it : Nat × List Int} (h : RowsUpto g its wr cs bs i) (hit : its[i]? = some it) (hk : Keeps (fun _ => False) wr wr') (hb : wr.heap.size ≤ b) (hw : Whole wr' b 3 (ints it.2)) :
    RowsUpto g its (wr'.setCell ⟨g, i, none⟩ (.slice (some ⟨b, 0, none⟩) it.1 it.2.length)) (cs.setIfInBounds i (.slice (some ⟨b, 0, none⟩) it.1 it.2.length)) (fun j => if j = i then b else bs j) (i + 1) := by
  have hg := h.whole.inside
  exact h.nextOf hit hb (hw.putFar (by show b ≠ g; omega) _) ((h.whole.keeps hk id).put i _) fun k c hkg hc => (hc.keeps hk id).putFar hkg _
theorem RowsUpto.nextNew {g : Nat} {its : List (Nat × List Int)} {wr : World} {cs : Array Value} {bs : Nat → Nat} {i : Nat} {x : Int} (h : RowsUpto g its wr cs bs i) (hit : its[i]? = some (1, [x])) :
    RowsUpto g its ((wr.setCell ⟨g, i, none⟩ (.slice (some ⟨wr.heap.size, 0, none⟩) 1 1)).alloc (.cells #[.int .i64 x] 3)) (cs.setIfInBounds i (.slice (some ⟨wr.heap.size, 0, none⟩) 1 1)) (fun j => if j = i then wr.heap.size else bs j) (i + 1) := by
  have hn := Whole.made (wr.setCell ⟨g, i, none⟩ (.slice (some ⟨wr.heap.size, 0, none⟩) 1 1)) 3 #[.int .i64 x]
  rw [show (wr.setCell ⟨g, i, none⟩ (.slice (some ⟨wr.heap.size, 0, none⟩) 1 1)).heap.size = wr.heap.size by simp [World.setCell]] at hn
  exact h.nextOf hit (Nat.le_refl _) hn ((h.whole.put i _).alloc _) fun k c hkg hc => (hc.putFar hkg _).alloc _
end Go.Proofs.YtcmbdnjcfneinaaGreatDoor
