/-
  The marked copies of lists of texts, of effects: what they are; and are the marks there: the walks. Conditions: lengths within 10 ^ 9.
-/
import Derived.Test.YtcmbdnjcfneinaaGreatDoorWvA
import Derived.Test.YtcmbdnjcfneinaaGreatDoorWvMa
import Derived.Test.YtcmbdnjcfneinaaGreatDoorPkM
namespace Go.Proofs.YtcmbdnjcfneinaaGreatDoor
open Go.RowKit
theorem info_strW : (Tryz.prog.info? 9).map (fun i => (i.zero, i.size, i.bytes)) = some (some (.string ⟨#[]⟩), 1, 16) := by kernel_rfl
/-- A text's cell. -/
def ElT (_ : World) (_ : Nat) (v : List Value) (x : List Oct) : Prop := v = [.string (strB x)]
theorem elT_k : ElK ElT := ⟨fun _ _ _ _ _ _ h _ _ => h, fun _ _ _ _ _ h _ => h⟩
def markTx (i : Nat) : List Value := [.string (markT i)]
abbrev TxUp (g : Nat) (l : List (List Oct)) (w : World) (cs : Array Value) (i : Nat) : Prop := WUp ElT markTx 1 9 g l w cs i
set_option maxHeartbeats 1000000 in
theorem wideTexts_any (xs : List (List Oct)) (A : Option Addr) (cap : Nat) (w : World) (hx : Lies w w.heap.size A (textsV xs)) (hl : xs.length ≤ 1000000000) (hp : Pow w) :
    Calls Tryz.prog 25 #[.slice A xs.length cap] w fun e w' => e = .returned (.slice (some ⟨w.heap.size, 0, none⟩) xs.length (xs.length + 64)) ∧ Keeps (fun _ => False) w w' ∧ ∃ cs, TxUp w.heap.size xs w' cs (xs.length + 64) := by
  have HX := Lib.hid hx
  have HP := Lib.hid hp
  clear hx hp
  have hmk : ∀ w : World, (Instr.makeSlice 23 (.int .i64 ((xs.length : Int) + 64)) (.int .i64 ((xs.length : Int) + 64))).run Tryz.prog w = .ok (.slice (some ⟨w.heap.size, 0, none⟩) (xs.length + 64) (xs.length + 64)) (w.alloc (.cells (madeCells #[.string ⟨#[]⟩] (xs.length + 64)) 9)) := fun w => run_make_row' 23 9 (.string ⟨#[]⟩) 16 Tryz.underlying23 info_strW rfl .i64 .i64 (xs.length + 64) (by omega) (by omega) w
  go_enter Tryz.func25, Tryz.ntmps25
  go_wp2_with fail
  clear hmk
  have HK0 : Hid (Keeps (fun b => b = w.heap.size) w (w.alloc (.cells (madeCells #[.string ⟨#[]⟩] (xs.length + 64)) 9))) := Lib.hid ((Keeps.refl _ w).alloc _)
  have HU0 : Hid (TxUp w.heap.size xs (w.alloc (.cells (madeCells #[.string ⟨#[]⟩] (xs.length + 64)) 9)) (madeCells #[.string ⟨#[]⟩] (xs.length + 64)) 0) := Lib.hid (WUp.start (Whole.made w _ _) (by rw [size_madeCells, Nat.mul_one]))
  generalize madeCells #[.string ⟨#[]⟩] (xs.length + 64) = c0 at *
  go_loopw [4] (fun vi wr => ∃ (i : Nat) (cs : Array Value), i ≤ xs.length + 64 ∧ vi = .int .i64 i ∧ Hid (TxUp w.heap.size xs wr cs i) ∧ Hid (Keeps (fun b => b = w.heap.size) w wr)) (fun vi _ => xs.length + 64 - (intOf vi).toNat)
  case atStart => exact ⟨0, _, by omega, rfl, HU0, HK0⟩
  case round =>
    clear HK0 HU0
    obtain ⟨i, cs, hi, rfl, HU, HK⟩ := hrel
    have hin : w.heap.size < wr.heap.size := HU.out.whole.inside
    by_cases hlt : i < xs.length
    · have hxi : xs[i]? = some xs[i] := List.getElem?_eq_getElem hlt
      obtain ⟨g, off, rfl, hg, hc⟩ := HX.out i (.string (strB xs[i])) (by simp [textsV, hlt])
      have hc0 : wr.cell? ⟨g, off + i, none⟩ = some (.string (strB xs[i])) := (HK.out.cell hg (by omega)).trans hc
      obtain ⟨⟨u, hu⟩, hf⟩ := HU.out.cells (by omega) 0 (by omega)
      rw [Nat.mul_one, Nat.add_zero] at hu hf
      have HN := Lib.hid (HU.out.next elT_k (by omega) [.string (strB xs[i])] rfl (fun x hx => by rw [hxi] at hx; injection hx with hx; subst hx; rfl) (fun h => absurd hlt (by omega)))
      rw [Nat.mul_one] at HN
      clear hc hxi
      generalize strB xs[i] = x at *
      have HK' := Lib.hid (HK.out.setCell (p := ⟨w.heap.size, i, none⟩) (fun _ => rfl) (.string x))
      clear HU HK
      go_wp2_with fail
      go_roundw
      case rel => exact ⟨i + 1, _, by omega, by go_num, HN, HK'⟩
      case measure => simp [intOf]; omega
    · by_cases hlt2 : i < xs.length + 64
      · obtain ⟨⟨u, hu⟩, hf⟩ := HU.out.cells hlt2 0 (by omega)
        rw [Nat.mul_one, Nat.add_zero] at hu hf
        have HPr : Hid (Pow wr) := Lib.hid (HP.out.below (HK.out.below (Nat.le_refl _) (fun k h => by omega)))
        go_wp2_with fail
        refine (text_any i wr (by omega) HPr.out).mono ?_
        rintro e w1 ⟨rfl, k1⟩
        have HU1 := Lib.hid (HU.out.keeps elT_k k1 (fun _ _ => id))
        have HN := Lib.hid (HU1.out.next elT_k hlt2 [.string (markT i)] rfl (fun x hx => by rw [List.getElem?_eq_none (by omega)] at hx; cases hx) (fun _ => rfl))
        rw [Nat.mul_one] at HN
        have HK' := Lib.hid ((HK.out.trans (k1.mono fun _ _ h => h.elim)).setCell (p := ⟨w.heap.size, i, none⟩) (fun _ => rfl) (.string (markT i)))
        have hu1 := (k1.cell (o := i) hin id).trans hu
        obtain ⟨_, hf1⟩ := HU1.out.cells hlt2 0 (by omega)
        rw [Nat.mul_one, Nat.add_zero] at hf1
        clear HU HK k1 hu hf HPr HU1
        generalize markT i = m at *
        go_wp2_with fail
        go_roundw
        case rel => exact ⟨i + 1, _, by omega, by go_num, HN, HK'⟩
        case measure => simp [intOf]; omega
      · obtain rfl : i = xs.length + 64 := by omega
        go_wp2_with fail
        go_ret
        exact ⟨rfl, HK.out.mono (fun b hb e => absurd e (by omega)), cs, HU.out⟩
set_option maxHeartbeats 1000000 in
theorem spareTexts_any (g : Nat) (xs : List (List Oct)) (cs : Array Value) (w : World) (hU : TxUp g xs w cs (xs.length + 64)) (hl : xs.length ≤ 1000000000) (hp : Pow w) :
    Calls Tryz.prog 49 #[.slice (some ⟨g, 0, none⟩) xs.length (xs.length + 64)] w fun e w' => e = .returned (.bool true) ∧ Keeps (fun _ => False) w w' := by
  have HU := Lib.hid hU
  have HP := Lib.hid hp
  clear hU hp
  go_enter Tryz.func49, Tryz.ntmps49
  go_wp2_with fail
  go_loopw [4] (fun vi wr => ∃ i : Nat, xs.length ≤ i ∧ i ≤ xs.length + 64 ∧ vi = .int .i64 i ∧ Hid (Keeps (fun _ => False) w wr)) (fun vi _ => xs.length + 64 - (intOf vi).toNat)
  case atStart => exact ⟨xs.length, by omega, by omega, rfl, Lib.hid (Keeps.refl _ w)⟩
  case round =>
    obtain ⟨i, hn, hi, rfl, HK⟩ := hrel
    by_cases hlt : i < xs.length + 64
    · have hc : wr.cell? ⟨g, i, none⟩ = some (.string (markT i)) := by
        have h1 := HU.out.marks i hlt hn 0 (by omega)
        rw [Nat.mul_one, Nat.add_zero] at h1
        exact ((HK.out.cell HU.out.whole.inside id).trans (HU.out.whole.cellAt i)).trans h1
      have HPr : Hid (Pow wr) := Lib.hid (HP.out.past HK.out)
      go_wp2_with fail
      refine (text_any i wr (by omega) HPr.out).mono ?_
      rintro e w1 ⟨rfl, k1⟩
      have HK' := Lib.hid (HK.out.trans k1)
      clear HK k1 HPr
      generalize markT i = m at *
      go_wp2_with fail
      go_roundw
      case rel => exact ⟨i + 1, by omega, by omega, by go_num, HK'⟩
      case measure => simp [intOf]; omega
    · obtain rfl : i = xs.length + 64 := by omega
      go_wp2_with fail
      go_ret
      exact ⟨rfl, HK.out⟩
end Go.Proofs.YtcmbdnjcfneinaaGreatDoor
