/-
  slices.Grow of nil and slices.Concat, of integers: the walks. Conditions: lengths within 10 ^ 9.
-/
import Derived.Test.YtbfhbekocgdceaaSlice
import Derived.Test.YtbfhbekocgdceaaAppendN
import Derived.Test.YtbfhbekocgdceaaKeep
import Derived.Test.YtbfhbekocgdceaaProg
import Derived.WalkLawsBesides
import Derived.Outline
import Derived.LoopN
import Derived.Deep.QuietTactic
import Derived.BigQuiet
import Derived.Lib.AppendZerosOnto
namespace Go.Proofs.Ytbfhbekocgdceaa
open Go.RowKit
/-- Slices of a list, each read as cells. -/
def PartsLie (w : World) (B : Nat) (A : Option Addr) (s : Nat) (parts : List (Nat × List Value)) : Prop := ∀ (i : Nat) (p : Nat × List Value), parts[i]? = some p → ∃ (g off : Nat) (Ai : Option Addr) (ci : Nat), A = some ⟨g, off, none⟩ ∧ g < B ∧ w.cell? ⟨g, off + i, none⟩ = some (.slice Ai p.1 ci) ∧ p.2.length = p.1 * s ∧ Lies w B Ai p.2
theorem PartsLie.keeps {S : Nat → Prop} {w w' : World} {B s : Nat} {A : Option Addr} {parts : List (Nat × List Value)} (h : PartsLie w B A s parts) (hk : Keeps S w w') (hS : ∀ b, b < B → ¬ S b) (hB : B ≤ w.heap.size) : PartsLie w' B A s parts := fun i p hi => by
  obtain ⟨g, off, Ai, ci, e, hg, hc, hl, hp⟩ := h i p hi
  exact ⟨g, off, Ai, ci, e, hg, (hk.cell (by omega) (hS g hg)).trans hc, hl, hp.keep fun b o hb => hk.cell (by omega) (hS b hb)⟩
def sizes (parts : List (Nat × List Value)) : Nat := (parts.map Prod.fst).sum
def cellsOfParts (parts : List (Nat × List Value)) : List Value := parts.flatMap Prod.snd
theorem sizes_take {parts : List (Nat × List Value)} {i : Nat} {p : Nat × List Value} (h : parts[i]? = some p) : sizes (parts.take (i + 1)) = sizes (parts.take i) + p.1 ∧ cellsOfParts (parts.take (i + 1)) = cellsOfParts (parts.take i) ++ p.2 := by
  have hl := (List.getElem?_eq_some_iff.1 h).1
  rw [List.take_add_one, h]
  simp [sizes, cellsOfParts]
theorem sizes_append (a b : List (Nat × List Value)) : sizes (a ++ b) = sizes a + sizes b := by simp [sizes]
theorem sizes_le (parts : List (Nat × List Value)) (i : Nat) : sizes (parts.take i) ≤ sizes parts := by
  have h : sizes parts = sizes (parts.take i) + sizes (parts.drop i) := by rw [← sizes_append, List.take_append_drop]
  omega
theorem cells_one_i64 (l : List Int) : ∀ u ∈ l.map (Value.int .i64), u.oneCell' = true := fun u hu => by
  obtain ⟨z, _, rfl⟩ := List.mem_map.1 hu; rfl
theorem info_cI : (Try.prog.info? 3).map (fun i => (i.zero, i.size, i.bytes)) = some (some (.int .i64 0), 1, 8) := by kernel_rfl
set_option maxRecDepth 100000 in
set_option maxHeartbeats 1000000 in
theorem growI_any (n : Nat) (w : World) (hn : n ≤ 1000000000) :
    Calls Try.prog 82 #[.slice none 0 0, .int .i64 n] w fun e w' => ∃ A c, e = .returned (.slice A 0 c) ∧ w'.ownsRow w.heap.size 3 1 (.slice A 0 c) 0 [] ∧ Keeps (fun _ => False) w w' := by
  by_cases h0 : n = 0
  · subst h0
    go_enter Try.func82, Try.ntmps82
    go_wp2_with fail
    go_ret
    exact ⟨none, 0, rfl, World.ownsRow_nil _ _ _ _, Keeps.refl _ _⟩
  · obtain ⟨i, hi, hzz⟩ := Option.map_eq_some_iff.1 info_cI
    simp only [Prod.mk.injEq] at hzz
    obtain ⟨hz, hs, hb⟩ := hzz
    have hr : ∀ ty, (Builtin.append_ #[44, 3] ty #[.slice none 0 0, .int .i64 (n : Int)]).run Try.prog w = .ok (.slice (some ⟨w.heap.size, 0, none⟩) n (grownCap w n 0 3)) (w.drew.alloc (.cells (#[] ++ Builtin.zeroCells (Value.cells (.int .i64 0)) n ++ Builtin.zeroCells (Value.cells (.int .i64 0)) (grownCap w n 0 3 - n)) 3)) := fun ty => by
      have h := Lib.run_append_grow_zeros (P := Try.prog) w 44 3 ty 3 i (.int .i64 0) .i64 .i64 Try.underlying44 Try.underlying3 hi hz none 0 0 [] (run_firstCells_none w.drew i.size 0 0 0) n (by omega) (by omega) (by omega) (by omega) (by rw [hb]; omega) (by rw [hb]; exact growslice_fits (by omega) (by omega))
      simpa using h
    have hG1 := grownCap_ge w n 0 3
    have hG2 := grownCap_le_maxLen w n 0 3 (by simp only [maxLen]; omega)
    have HG := Lib.hid hG1
    have HG2 := Lib.hid hG2
    generalize grownCap w n 0 3 = G at *
    have hlt : ¬ ((n : Int) < 0) := by omega
    have hgt : (0 : Int) < (n : Int) := by omega
    clear hG2
    go_enter Try.func82, Try.ntmps82
    go_wp2_with (first
      | (at_builtin; refine Lib.wpList_append_run _ rfl _ _ _ _ rfl _ _ rfl rfl _ _ (hr _) ?_)
      | (refine wpList_slice_head rfl 44 3 _ _ rfl Try.underlying44 (by kernel_rfl) (some ⟨w.heap.size, 0, none⟩) n G 0 rfl rfl (by omega) ?_))
    go_ret
    refine ⟨_, _, rfl, ⟨by simp, .inr ⟨w.heap.size, G, _, rfl, Nat.le_refl _, heap_alloc_new _ _, Nat.zero_le _, HG2.out, ?_, by simp⟩⟩, (Keeps.refl _ w).drew.alloc _⟩
    have := HG.out
    simp only [Array.size_append, size_zeroCells]
    simp
    omega
set_option maxRecDepth 100000 in
set_option maxHeartbeats 1000000 in
theorem concatI_any (parts : List (Nat × List Value)) (A : Option Addr) (B cap : Nat) (w : World) (hx : PartsLie w B A 1 parts) (hB : B ≤ w.heap.size) (hl : parts.length ≤ 1000) (hs : sizes parts ≤ 1000000000) (h1 : ∀ p ∈ parts, ∀ u ∈ p.2, u.oneCell' = true) :
    Calls Try.prog 69 #[.slice A parts.length cap] w fun e w' => ∃ A' c', e = .returned (.slice A' (sizes parts) c') ∧ w'.ownsRow w.heap.size 3 1 (.slice A' (sizes parts) c') (sizes parts) (cellsOfParts parts) ∧ Keeps (fun _ => False) w w' := by
  have HX := Lib.hid hx
  have H1 := Lib.hid h1
  clear hx h1
  go_enter Try.func69, Try.ntmps69
  go_wp2_with fail
  go_loopw [3, 11] (fun vn vi wr => ∃ i : Nat, i ≤ parts.length ∧ vi = .int .i64 i ∧ vn = .int .i64 (sizes (parts.take i) : Nat) ∧ wr = w) (fun _ vi _ => parts.length - (intOf vi).toNat)
  case atStart => exact ⟨0, by omega, rfl, rfl, rfl⟩
  case round =>
    obtain ⟨i, hi, rfl, rfl, rfl⟩ := hrel
    by_cases hlt : i < parts.length
    · have hp := List.getElem?_eq_getElem hlt
      obtain ⟨g, off, Ai, ci, rfl, hg, hc, _, _⟩ := HX.out i _ hp
      have hst := (sizes_take hp).1
      have hsl := sizes_le parts (i + 1)
      have HST := Lib.hid hst
      rw [hst] at hsl
      clear hst
      generalize sizes (parts.take i) = n at *
      generalize parts[i] = p at *
      have hnn : ¬ (((n : Int) + (p.1 : Int)) < 0) := by omega
      go_wp2_with fail
      exact ⟨⟨i + 1, by omega, by first | rfl | go_num, by rw [HST.out]; first | rfl | go_num, by first | rfl | trivial⟩, by simp [intOf]; omega⟩
    · obtain rfl : i = parts.length := by omega
      rw [List.take_length] at *
      have HSZ : Hid (∃ x, x = sizes parts) := Lib.hid ⟨_, rfl⟩
      go_wp2_with fail
      refine (growI_any (sizes parts) wr hs).mono ?_
      rintro e w1 ⟨A1, c1, rfl, ho, k1⟩
      have O1 := Lib.hid ho
      have K1 := Lib.hid k1
      clear ho k1
      go_wp2_with fail
      go_loopw [6, 27] (fun vs vi wq => ∃ (i : Nat) (A' : Option Addr) (c' : Nat), i ≤ parts.length ∧ vi = .int .i64 i ∧ vs = .slice A' (sizes (parts.take i)) c' ∧ Hid (wq.ownsRow wr.heap.size 3 1 (.slice A' (sizes (parts.take i)) c') (sizes (parts.take i)) (cellsOfParts (parts.take i))) ∧ Hid (Keeps (fun _ => False) wr wq)) (fun _ vi _ => parts.length - (intOf vi).toNat)
      case atStart => exact ⟨0, A1, c1, by omega, rfl, rfl, O1, K1⟩
      case round =>
        clear O1 K1
        obtain ⟨wq, rfl⟩ : ∃ x, x = wr := ⟨_, rfl⟩
        obtain ⟨i, A', c', hi, rfl, rfl, HO, HK⟩ := hrel
        by_cases hlt : i < parts.length
        · have hp := List.getElem?_eq_getElem hlt
          obtain ⟨g, off, Ai, ci, hA, hg, hc, hlen, hlie⟩ := HX.out i _ hp
          subst hA
          obtain ⟨hst, hct⟩ := sizes_take hp
          have hsl := sizes_le parts (i + 1)
          have hone := H1.out _ (List.getElem_mem hlt)
          have HST := Lib.hid hst
          have HCT := Lib.hid hct
          rw [hst] at hsl
          have hcq := (HK.out.cell (o := off + i) (by omega) id).trans hc
          have HL := Lib.hid (hlie.keep (fun b o hb => HK.out.cell (by omega) id))
          clear hst hct hc hlie
          generalize sizes (parts.take i) = n at *
          generalize cellsOfParts (parts.take i) = cn at *
          generalize parts[i] = p at *
          go_wp2_with (first
            | (at_builtin
               refine wpList_append_cells _ rfl _ _ 44 rfl _ 3 (.int .i64 0) 1 8 Try.underlying44 info_cI rfl (by decide) (.slice A' n c') n cn rfl HO.out B Ai p.1 ci p.2 rfl HL.out hlen hone (by simp only [maxLen]; omega) (by omega) HK.out.size ?_
               intro A2 c2 w2 hown hg2 _ _ _))
          refine ⟨⟨i + 1, A2, c2, by omega, by first | rfl | go_num, by rw [HST.out], Lib.hid (by rw [HST.out, HCT.out]; exact hown), Lib.hid (HK.out.grown hg2 (fun k hk h0 => absurd (HO.out.lt k hk).1 (by omega)))⟩, by simp [intOf]; omega⟩
        · obtain rfl : i = parts.length := by omega
          rw [List.take_length] at HO
          rw [List.take_length]
          go_wp2_with fail
          go_ret
          exact ⟨A', c', rfl, HO.out, HK.out⟩
end Go.Proofs.Ytbfhbekocgdceaa
