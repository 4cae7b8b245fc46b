/-
  Chapter 04: Order, the program's and the document's, of numbers: the walks. Conditions: lengths within 10 ^ 9.
-/
import Derived.Test.YtbfhbekocgdceaaRoA
namespace Go.Proofs.Ytbfhbekocgdceaa
open Go.RowKit
theorem make_empty {P : Program} (t e : TypeId) (z : Value) (size bytes : Nat) (ht : P.underlying t = some (.slice e)) (hinfo : (P.info? e).map (fun i => (i.zero, i.size, i.bytes)) = some (some z, size, bytes))
    (n : Nat) (hbytes : bytes * n ≤ 281474976710656) (h63 : n ≤ 9223372036854775807) (w : World) :
    (Instr.makeSlice t (.int .i64 0) (.int .i64 (n : Int))).run P w = .ok (.slice (some ⟨w.heap.size, 0, none⟩) 0 n) (w.alloc (.cells (madeCells z.cells (n * size)) e)) := by
  obtain ⟨i, hi, hzz⟩ := Option.map_eq_some_iff.1 hinfo
  simp only [Prod.mk.injEq] at hzz
  obtain ⟨hz, hs, hb⟩ := hzz
  have hb' : (i.bytes : Int) * (n : Int) ≤ 281474976710656 := by
    have h : ((i.bytes * n : Nat) : Int) ≤ 281474976710656 := by rw [hb]; omega
    rwa [Int.natCast_mul] at h
  have hr := run_make (P := P) w t e i z ht hi hz .i64 .i64 0 n (by omega) (by omega) hb' (by omega)
  simpa [hs] using hr
theorem size_madeCells_n (cs : Array Value) (n : Nat) : (madeCells cs n).size = n := size_madeCells ..
theorem own_made {w : World} {g base n s : Nat} {e : TypeId} {cs : Array Value} (h : Whole w g e cs) (hb : base ≤ g) (hm : n ≤ maxLen) (hs : cs.size = n * s) : w.ownsRow base e s (.slice (some ⟨g, 0, none⟩) 0 n) 0 [] :=
  ⟨by simp, .inr ⟨g, n, cs, rfl, hb, h, Nat.zero_le _, hm, hs, by simp⟩⟩
def orderI (l o : List Int) : List Int := if l.length = o.length ∧ isO o = true then o.map (fun k => l.getD k.toNat 0) else []
def ordB {α : Type} (l : List α) (o : List Int) : Bool := decide (l.length = o.length) && isO o
set_option maxRecDepth 100000 in
set_option maxHeartbeats 4000000 in
theorem rorderI_any (l : List Int) (o : List Int) (A C : Option Addr) (ca cc : Nat) (w : World) (hl : Lies w w.heap.size A (l.map (Value.int .i64))) (hx : Lies w w.heap.size C (o.map (Value.int .i64))) (_hll : l.length ≤ 1000000000) (hol : o.length ≤ 1000000000) :
    Calls Try.prog 33 #[.slice A l.length ca, .slice C o.length cc] w fun e w' => ∃ A' c', e = .returned (.tuple #[.slice A' (orderI l o).length c', .bool (ordB l o)]) ∧ Made w w' A' c' (orderI l o) := by
  have HL := Lib.hid hl
  have HX := Lib.hid hx
  have HIS := Lib.hid (is_any o C cc w hx hol)
  have hmk : ∀ w : World, (Instr.makeSlice 44 (.int .i64 0) (.int .i64 (o.length : Int))).run Try.prog w = .ok (.slice (some ⟨w.heap.size, 0, none⟩) 0 o.length) (w.alloc (.cells (madeCells #[.int .i64 0] o.length) 3)) := fun w => by simpa [Value.cells] using make_empty 44 3 (.int .i64 0) 1 8 Try.underlying44 info_cI o.length (by omega) (by omega) w
  clear hl hx
  by_cases hlen : l.length = o.length
  · go_enter Try.func33, Try.ntmps33
    go_wp2_with fail
    refine HIS.out.mono ?_
    rintro e w2 ⟨rfl, k2⟩
    have K2 := Lib.hid k2
    clear k2 HIS
    cases hio : isO o
    · have HF : Hid (orderI l o = [] ∧ ordB l o = false) := Lib.hid (by unfold orderI ordB; rw [hio]; simp)
      clear hio
      go_wp2_with fail
      go_ret2
      exact ⟨none, 0, by rw [HF.out.1, HF.out.2]; rfl, by rw [HF.out.1]; exact ⟨World.ownsRow_nil _ _ _ _, K2.out⟩⟩
    have HRG := Lib.hid (isO_range hio)
    have HF : Hid (orderI l o = o.map (fun k => l.getD k.toNat 0) ∧ ordB l o = true) := Lib.hid (by unfold orderI ordB; rw [hio]; simp [hlen])
    clear hio
    have hsz2 : w.heap.size ≤ w2.heap.size := K2.out.size
    have HO0 : Hid ((w2.alloc (.cells (madeCells #[.int .i64 0] o.length) 3)).ownsRow w.heap.size 3 1 (.slice (some ⟨w2.heap.size, 0, none⟩) 0 o.length) 0 (([] : List Int).map (Value.int .i64))) := Lib.hid (own_made (Whole.made w2 _ _) hsz2 (by unfold maxLen; omega) (by rw [size_madeCells_n]; simp))
    have HK0 : Hid (Keeps (fun b => w.heap.size ≤ b) w (w2.alloc (.cells (madeCells #[.int .i64 0] o.length) 3))) := Lib.hid ((K2.out.mono (fun _ _ h => h.elim)).alloc _)
    go_wp2_with fail
    generalize w2.alloc (.cells (madeCells #[.int .i64 0] o.length) 3) = w3 at *
    have HLEN := Lib.hid hlen
    clear hlen hmk
    go_loopw [6, 24] (fun vo vi wr => ∃ (i : Nat) (oA : Option Addr) (oc : Nat), i ≤ o.length ∧ vi = .int .i64 i ∧ vo = .slice oA i oc ∧ Hid (wr.ownsRow w.heap.size 3 1 (.slice oA i oc) i (((o.take i).map (fun k => l.getD k.toNat 0)).map (Value.int .i64))) ∧ Hid (Keeps (fun b => w.heap.size ≤ b) w wr)) (fun _ vi _ => o.length - (intOf vi).toNat)
    case atStart => exact ⟨0, _, _, by omega, rfl, rfl, HO0, HK0⟩
    case round =>
      clear HO0 HK0
      obtain ⟨i, oA, oc, hi, rfl, rfl, HO, HK⟩ := hrel
      obtain ⟨wr, rfl⟩ : ∃ x, x = wr := ⟨_, rfl⟩
      by_cases hlt : i < o.length
      · obtain ⟨g, off, rfl, hg, hc0⟩ := HX.out i _ (map_get o i hlt)
        have hc : wr.cell? ⟨g, off + i, none⟩ = some (.int .i64 o[i]) := (HK.out.cell hg (by omega)).trans hc0
        have hrg := HRG.out i hlt
        obtain ⟨q, hq⟩ : ∃ q : Nat, o[i] = (q : Int) := ⟨o[i].toNat, by omega⟩
        have hqn : q < l.length := by have := HLEN.out; omega
        obtain ⟨gl, ol, rfl, hgl, hl0⟩ := HL.out q _ (map_get l q hqn)
        have hb0 : wr.cell? ⟨gl, ol + q, none⟩ = some (.int .i64 l[q]) := (HK.out.cell hgl (by omega)).trans hl0
        have HC : Hid (((o.take (i + 1)).map (fun k => l.getD k.toNat 0)) = ((o.take i).map (fun k => l.getD k.toNat 0)) ++ [l[q]]) := Lib.hid (by
          rw [List.take_succ_eq_append_getElem hlt, List.map_append, hq]
          simp [List.getD_eq_getElem?_getD, List.getElem?_eq_getElem hqn])
        have hsz := HK.out.size
        have hqI : (q : Int) < (o.length : Int) := by have := HLEN.out; omega
        rw [hq] at hc
        clear hc0 hq hrg hl0
        generalize l[q] = x at *
        go_wp2_with (at_builtin; (refine wpList_append_cells _ rfl (.tmp 28) (.tmp 33) 44 rfl w.heap.size 3 (.int .i64 0) 1 8 Try.underlying44 info_cI rfl (by decide) (.slice oA i oc) i _ rfl (HO.out.alloc _) (wr.heap.size + 1) (some ⟨wr.heap.size, 0, none⟩) 1 1 [.int .i64 x] rfl (Lies.row (t := 3) (fr := (0, 0)) (heap_alloc_new wr _) (by simp)) rfl (by simp [Value.oneCell']) (by unfold maxLen; omega) (by omega) (by simp; omega) ?_); intro A2 c2 w4 h1 h2 _ _ _; have O2 : Hid (w4.ownsRow w.heap.size 3 1 (.slice A2 (i + 1) c2) (i + 1) (((o.take (i + 1)).map (fun k => l.getD k.toNat 0)).map (Value.int .i64))) := Lib.hid (by rw [HC.out]; rw [List.map_append]; exact h1); have K4 : Hid (Keeps (fun b => w.heap.size ≤ b) w w4) := Lib.hid ((HK.out.alloc _).grown h2 (fun b hb _ => (HO.out.lt b hb).1)); clear h1 h2 hc hb0 hsz)
        go_roundw
        case rel => exact ⟨i + 1, A2, c2, by omega, by go_num, rfl, O2, K4⟩
        case measure => simp [intOf]; omega
      · obtain rfl : i = o.length := by omega
        rw [List.take_length] at HO
        have HN : Hid ((orderI l o).length = o.length) := Lib.hid (by rw [HF.out.1]; simp)
        have HKF := Lib.hid (HK.out.mono (T := fun _ => False) (fun b hb e => absurd e (by omega)))
        go_wp2_with fail
        go_ret2
        exact ⟨oA, oc, by rw [HN.out, HF.out.2]; rfl, ⟨by rw [HN.out, HF.out.1]; exact HO.out, HKF.out⟩⟩
  · have HF : Hid (orderI l o = [] ∧ ordB l o = false) := Lib.hid (by unfold orderI ordB; rw [decide_eq_false hlen, if_neg (fun h => hlen h.1)]; exact ⟨rfl, rfl⟩)
    go_enter Try.func33, Try.ntmps33
    go_wp2_with fail
    go_ret2
    exact ⟨none, 0, by rw [HF.out.1, HF.out.2]; rfl, by rw [HF.out.1]; exact ⟨World.ownsRow_nil _ _ _ _, Keeps.refl _ _⟩⟩
set_option maxRecDepth 100000 in
set_option maxHeartbeats 4000000 in
theorem refOrderI_any (l : List Int) (o : List Int) (A C : Option Addr) (ca cc : Nat) (w : World) (hl : Lies w w.heap.size A (l.map (Value.int .i64))) (hx : Lies w w.heap.size C (o.map (Value.int .i64))) (_hll : l.length ≤ 1000000000) (hol : o.length ≤ 1000000000) :
    Calls Try.prog 35 #[.slice A l.length ca, .slice C o.length cc] w fun e w' => ∃ A' c', e = .returned (.tuple #[.slice A' (orderI l o).length c', .bool (ordB l o)]) ∧ Made w w' A' c' (orderI l o) := by
  have HL := Lib.hid hl
  have HX := Lib.hid hx
  have HIS := Lib.hid (refIs_any o C cc w hx hol)
  clear hl hx
  by_cases hlen : l.length = o.length
  · go_enter Try.func35, Try.ntmps35
    go_wp2_with fail
    refine HIS.out.mono ?_
    rintro e w2 ⟨rfl, k2⟩
    have K2 := Lib.hid k2
    clear k2 HIS
    cases hio : isO o
    · have HF : Hid (orderI l o = [] ∧ ordB l o = false) := Lib.hid (by unfold orderI ordB; rw [hio]; simp)
      clear hio
      go_wp2_with fail
      go_ret2
      exact ⟨none, 0, by rw [HF.out.1, HF.out.2]; rfl, by rw [HF.out.1]; exact ⟨World.ownsRow_nil _ _ _ _, K2.out⟩⟩
    have HRG := Lib.hid (isO_range hio)
    have HF : Hid (orderI l o = o.map (fun k => l.getD k.toNat 0) ∧ ordB l o = true) := Lib.hid (by unfold orderI ordB; rw [hio]; simp [hlen])
    clear hio
    have HO0 : Hid (w2.ownsRow w.heap.size 3 1 (.slice none 0 0) 0 (([] : List Int).map (Value.int .i64))) := Lib.hid (World.ownsRow_nil _ _ _ _)
    have HK0 : Hid (Keeps (fun b => w.heap.size ≤ b) w w2) := Lib.hid (K2.out.mono (fun _ _ h => h.elim))
    go_wp2_with fail
    have HLEN := Lib.hid hlen
    clear hlen
    go_loopw [6, 7] (fun vo vi wr => ∃ (i : Nat) (oA : Option Addr) (oc : Nat), i ≤ o.length ∧ vi = .int .i64 i ∧ vo = .slice oA i oc ∧ Hid (wr.ownsRow w.heap.size 3 1 (.slice oA i oc) i (((o.take i).map (fun k => l.getD k.toNat 0)).map (Value.int .i64))) ∧ Hid (Keeps (fun b => w.heap.size ≤ b) w wr)) (fun _ vi _ => o.length - (intOf vi).toNat)
    case atStart => exact ⟨0, none, 0, by omega, rfl, rfl, HO0, HK0⟩
    case round =>
      clear HO0 HK0
      obtain ⟨i, oA, oc, hi, rfl, rfl, HO, HK⟩ := hrel
      obtain ⟨wr, rfl⟩ : ∃ x, x = wr := ⟨_, rfl⟩
      by_cases hlt : i < o.length
      · obtain ⟨g, off, rfl, hg, hc0⟩ := HX.out i _ (map_get o i hlt)
        have hc : wr.cell? ⟨g, off + i, none⟩ = some (.int .i64 o[i]) := (HK.out.cell hg (by omega)).trans hc0
        have hrg := HRG.out i hlt
        obtain ⟨q, hq⟩ : ∃ q : Nat, o[i] = (q : Int) := ⟨o[i].toNat, by omega⟩
        have hqn : q < l.length := by have := HLEN.out; omega
        obtain ⟨gl, ol, rfl, hgl, hl0⟩ := HL.out q _ (map_get l q hqn)
        have hb0 : wr.cell? ⟨gl, ol + q, none⟩ = some (.int .i64 l[q]) := (HK.out.cell hgl (by omega)).trans hl0
        have HC : Hid (((o.take (i + 1)).map (fun k => l.getD k.toNat 0)) = ((o.take i).map (fun k => l.getD k.toNat 0)) ++ [l[q]]) := Lib.hid (by
          rw [List.take_succ_eq_append_getElem hlt, List.map_append, hq]
          simp [List.getD_eq_getElem?_getD, List.getElem?_eq_getElem hqn])
        have hsz := HK.out.size
        have hqI : (q : Int) < (o.length : Int) := by have := HLEN.out; omega
        rw [hq] at hc
        clear hc0 hq hrg hl0
        generalize l[q] = x at *
        go_wp2_with (at_builtin; (refine wpList_append_cells _ rfl (.tmp 24) (.tmp 32) 44 rfl w.heap.size 3 (.int .i64 0) 1 8 Try.underlying44 info_cI rfl (by decide) (.slice oA i oc) i _ rfl (HO.out.alloc _) (wr.heap.size + 1) (some ⟨wr.heap.size, 0, none⟩) 1 1 [.int .i64 x] rfl (Lies.row (t := 3) (fr := (0, 0)) (heap_alloc_new wr _) (by simp)) rfl (by simp [Value.oneCell']) (by unfold maxLen; omega) (by omega) (by simp; omega) ?_); intro A2 c2 w4 h1 h2 _ _ _; have O2 : Hid (w4.ownsRow w.heap.size 3 1 (.slice A2 (i + 1) c2) (i + 1) (((o.take (i + 1)).map (fun k => l.getD k.toNat 0)).map (Value.int .i64))) := Lib.hid (by rw [HC.out]; rw [List.map_append]; exact h1); have K4 : Hid (Keeps (fun b => w.heap.size ≤ b) w w4) := Lib.hid ((HK.out.alloc _).grown h2 (fun b hb _ => (HO.out.lt b hb).1)); clear h1 h2 hc hb0 hsz)
        go_roundw
        case rel => exact ⟨i + 1, A2, c2, by omega, by go_num, rfl, O2, K4⟩
        case measure => simp [intOf]; omega
      · obtain rfl : i = o.length := by omega
        rw [List.take_length] at HO
        have HN : Hid ((orderI l o).length = o.length) := Lib.hid (by rw [HF.out.1]; simp)
        have HKF := Lib.hid (HK.out.mono (T := fun _ => False) (fun b hb e => absurd e (by omega)))
        go_wp2_with fail
        go_ret2
        exact ⟨oA, oc, by rw [HN.out, HF.out.2]; rfl, ⟨by rw [HN.out, HF.out.1]; exact HO.out, HKF.out⟩⟩
  · have HF : Hid (orderI l o = [] ∧ ordB l o = false) := Lib.hid (by unfold orderI ordB; rw [decide_eq_false hlen, if_neg (fun h => hlen h.1)]; exact ⟨rfl, rfl⟩)
    go_enter Try.func35, Try.ntmps35
    go_wp2_with fail
    go_ret2
    exact ⟨none, 0, by rw [HF.out.1, HF.out.2]; rfl, by rw [HF.out.1]; exact ⟨World.ownsRow_nil _ _ _ _, Keeps.refl _ _⟩⟩
end Go.Proofs.Ytbfhbekocgdceaa
