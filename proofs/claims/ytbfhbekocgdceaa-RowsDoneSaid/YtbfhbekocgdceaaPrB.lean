/-
  Chapter 04: Order, of pairs: the walk; orders lead back: plain laws. Conditions: lengths within 10 ^ 9.
-/
import Derived.Test.YtbfhbekocgdceaaPrA
namespace Go.Proofs.Ytbfhbekocgdceaa
open Go.RowKit
def orderP (l : List (Int × ByteArray)) (o : List Int) : List (Int × ByteArray) := if l.length = o.length ∧ isO o = true then o.map (fun k => l.getD k.toNat (0, ⟨#[]⟩)) else []
set_option maxRecDepth 100000 in
set_option maxHeartbeats 4000000 in
theorem rorderP_any (l : List (Int × ByteArray)) (o : List Int) (A C : Option Addr) (ca cc : Nat) (w : World) (hl : PrLies w w.heap.size A l) (hx : Lies w w.heap.size C (o.map (Value.int .i64))) (_hll : l.length ≤ 1000000000) (hol : o.length ≤ 1000000000) :
    Calls Try.prog 56 #[.slice A l.length ca, .slice C o.length cc] w fun e w' => ∃ A' c', e = .returned (.tuple #[.slice A' (orderP l o).length c', .bool (ordB l o)]) ∧ MadeP w w' A' c' (orderP l o) := by
  have HL := Lib.hid hl
  have HX := Lib.hid hx
  have HIS := Lib.hid (is_any o C cc w hx hol)
  have hmk : ∀ w : World, (Instr.makeSlice 43 (.int .i64 0) (.int .i64 (o.length : Int))).run Try.prog w = .ok (.slice (some ⟨w.heap.size, 0, none⟩) 0 o.length) (w.alloc (.cells (madeCells #[.int .i8 0, .string ⟨#[]⟩] (o.length * 2)) 49)) := fun w => by simpa [Value.cells] using make_empty 43 49 (.agg #[.int .i8 0, .string ⟨#[]⟩]) 2 24 Try.underlying43 info_cP o.length (by omega) (by omega) w
  clear hl hx
  by_cases hlen : l.length = o.length
  · go_enter Try.func56, Try.ntmps56
    go_wp2_with fail
    refine HIS.out.mono ?_
    rintro e w2 ⟨rfl, k2⟩
    have K2 := Lib.hid k2
    clear k2 HIS
    cases hio : isO o
    · have HF : Hid (orderP l o = [] ∧ ordB l o = false) := Lib.hid (by unfold orderP ordB; rw [hio]; simp)
      clear hio
      go_wp2_with fail
      go_ret2
      exact ⟨none, 0, by rw [HF.out.1, HF.out.2]; rfl, by rw [HF.out.1]; exact ⟨World.ownsRow_nil _ _ _ _, K2.out⟩⟩
    have HRG := Lib.hid (isO_range hio)
    have HF : Hid (orderP l o = o.map (fun k => l.getD k.toNat (0, ⟨#[]⟩)) ∧ ordB l o = true) := Lib.hid (by unfold orderP ordB; rw [hio]; simp [hlen])
    clear hio
    have hsz2 : w.heap.size ≤ w2.heap.size := K2.out.size
    have HO0 : Hid ((w2.alloc (.cells (madeCells #[.int .i8 0, .string ⟨#[]⟩] (o.length * 2)) 49)).ownsRow w.heap.size 49 2 (.slice (some ⟨w2.heap.size, 0, none⟩) 0 o.length) 0 (flat prC ([] : List (Int × ByteArray)))) := Lib.hid (own_made (Whole.made w2 _ _) hsz2 (by unfold maxLen; omega) (by rw [size_madeCells_n]))
    have HK0 : Hid (Keeps (fun b => w.heap.size ≤ b) w (w2.alloc (.cells (madeCells #[.int .i8 0, .string ⟨#[]⟩] (o.length * 2)) 49))) := Lib.hid ((K2.out.mono (fun _ _ h => h.elim)).alloc _)
    go_wp2_with fail
    generalize w2.alloc (.cells (madeCells #[.int .i8 0, .string ⟨#[]⟩] (o.length * 2)) 49) = w3 at *
    have HLEN := Lib.hid hlen
    clear hlen hmk
    go_loopw [6, 24] (fun vo vi wr => ∃ (i : Nat) (oA : Option Addr) (oc : Nat), i ≤ o.length ∧ vi = .int .i64 i ∧ vo = .slice oA i oc ∧ Hid (wr.ownsRow w.heap.size 49 2 (.slice oA i oc) i (flat prC ((o.take i).map (fun k => l.getD k.toNat (0, ⟨#[]⟩))))) ∧ Hid (Keeps (fun b => w.heap.size ≤ b) w wr)) (fun _ vi _ => o.length - (intOf vi).toNat)
    case atStart => exact ⟨0, _, _, by omega, rfl, rfl, HO0, HK0⟩
    case round =>
      clear HO0 HK0
      obtain ⟨i, oA, oc, hi, rfl, rfl, HO, HK⟩ := hrel
      obtain ⟨wr, rfl⟩ : ∃ x, x = wr := ⟨_, rfl⟩
      by_cases hlt : i < o.length
      · obtain ⟨g, off, rfl, hg, hc0⟩ := HX.out i _ (map_get o i hlt)
        have hc : wr.cell? ⟨g, off + i, none⟩ = some (.int .i64 o[i]) := (HK.out.cell hg (by omega)).trans hc0
        have hrg := HRG.out i hlt
        obtain ⟨q, hq⟩ : ∃ q : Nat, o[i] = (q : Int) := ⟨o[i].toNat, by omega⟩
        have hqn : q < l.length := by have := HLEN.out; omega
        obtain ⟨gl, ol, rfl, hgl, hl0, hl1⟩ := HL.out q l[q] (List.getElem?_eq_getElem hqn)
        have hb0 : wr.cell? ⟨gl, ol + q * 2, none⟩ = some (.int .i8 l[q].1) := (HK.out.cell hgl (by omega)).trans hl0
        have hb1 : wr.cell? ⟨gl, ol + q * 2 + 1, none⟩ = some (.string l[q].2) := (HK.out.cell hgl (by omega)).trans hl1
        have HC : Hid (((o.take (i + 1)).map (fun k => l.getD k.toNat (0, ⟨#[]⟩))) = ((o.take i).map (fun k => l.getD k.toNat (0, ⟨#[]⟩))) ++ [l[q]]) := Lib.hid (by
          rw [List.take_succ_eq_append_getElem hlt, List.map_append, hq]
          simp [List.getD_eq_getElem?_getD, List.getElem?_eq_getElem hqn])
        have hsz := HK.out.size
        have hqI : (q : Int) < (o.length : Int) := by have := HLEN.out; omega
        rw [hq] at hc
        clear hc0 hq hrg hl0 hl1
        generalize l[q] = x at *
        go_wp2_with (at_builtin; (refine wpList_append_cells _ rfl (.tmp 28) (.tmp 33) 43 rfl w.heap.size 49 (.agg #[.int .i8 0, .string ⟨#[]⟩]) 2 24 Try.underlying43 info_cP rfl (by decide) (.slice oA i oc) i _ rfl (HO.out.alloc _) (wr.heap.size + 1) (some ⟨wr.heap.size, 0, none⟩) 1 1 [.int .i8 x.1, .string x.2] rfl (Lies.row (t := 49) (fr := (0, 0)) (heap_alloc_new wr _) (by simp)) rfl (by simp [Value.oneCell']) (by unfold maxLen; omega) (by omega) (by simp; omega) ?_); intro A2 c2 w4 h1 h2 _ _ _; have O2 : Hid (w4.ownsRow w.heap.size 49 2 (.slice A2 (i + 1) c2) (i + 1) (flat prC ((o.take (i + 1)).map (fun k => l.getD k.toNat (0, ⟨#[]⟩))))) := Lib.hid (by rw [HC.out]; rw [flat_snoc]; exact h1); have K4 : Hid (Keeps (fun b => w.heap.size ≤ b) w w4) := Lib.hid ((HK.out.alloc _).grown h2 (fun b hb _ => (HO.out.lt b hb).1)); clear h1 h2 hc hb0 hb1 hsz)
        go_roundw
        case rel => exact ⟨i + 1, A2, c2, by omega, by go_num, rfl, O2, K4⟩
        case measure => simp [intOf]; omega
      · obtain rfl : i = o.length := by omega
        rw [List.take_length] at HO
        have HN : Hid ((orderP l o).length = o.length) := Lib.hid (by rw [HF.out.1]; simp)
        have HKF := Lib.hid (HK.out.mono (T := fun _ => False) (fun b hb e => absurd e (by omega)))
        go_wp2_with fail
        go_ret2
        exact ⟨oA, oc, by rw [HN.out, HF.out.2]; rfl, ⟨by rw [HN.out, HF.out.1]; exact HO.out, HKF.out⟩⟩
  · have HF : Hid (orderP l o = [] ∧ ordB l o = false) := Lib.hid (by unfold orderP ordB; rw [decide_eq_false hlen, if_neg (fun h => hlen h.1)]; exact ⟨rfl, rfl⟩)
    go_enter Try.func56, Try.ntmps56
    go_wp2_with fail
    go_ret2
    exact ⟨none, 0, by rw [HF.out.1, HF.out.2]; rfl, by rw [HF.out.1]; exact ⟨World.ownsRow_nil _ _ _ _, Keeps.refl _ _⟩⟩
theorem pigeon : ∀ (n : Nat) (l : List Nat), l.Nodup → (∀ x ∈ l, x < n) → l.length ≤ n
  | 0, l, _, h => by
    cases l with
    | nil => simp
    | cons a l => exact absurd (h a (List.mem_cons_self)) (Nat.not_lt_zero _)
  | n + 1, l, hd, h => by
    by_cases hm : n ∈ l
    · have h1 := pigeon n (l.erase n) (hd.erase n) (fun x hx => by
        have h2 := h x (List.mem_of_mem_erase hx)
        have h3 : x ≠ n := fun e => by
          subst e
          exact (List.Nodup.not_mem_erase hd) hx
        omega)
      rw [List.length_erase_of_mem hm] at h1
      omega
    · have h1 := pigeon n l hd (fun x hx => by
        have h2 := h x hx
        have h3 : x ≠ n := fun e => hm (e ▸ hx)
        omega)
      omega
theorem findZ_some {xs : List Int} {x : Int} {k : Nat} (h : findZ xs x = k) : ∃ hk : k < xs.length, xs[k] = x := by
  unfold findZ at h
  split at h
  · rename_i i hi
    rw [List.findIdx?_eq_some_iff_getElem] at hi
    obtain ⟨h1, h2, _⟩ := hi
    obtain rfl : i = k := by omega
    exact ⟨h1, by simpa using h2⟩
  · omega
theorem findZ_mem {xs : List Int} {x : Int} (h : x ∈ xs) : 0 ≤ findZ xs x := by
  unfold findZ
  split
  · omega
  · rename_i hn
    rw [List.findIdx?_eq_none_iff] at hn
    have := hn x h
    simp at this
theorem isO_ne {o : List Int} (h : isO o = true) (i j : Nat) (hi : i < j) (hj : j < o.length) : o[i]'(by omega) ≠ o[j] := fun e => by
  have := okTo_down (i := j + 1) (by omega) h
  simp only [okTo, Bool.and_eq_true, decide_eq_true_eq, List.getD_eq_getElem?_getD, List.getElem?_eq_getElem hj, Option.getD_some] at this
  have h2 := this.2.2
  have h3 : o[j] ∈ o.take j := by
    rw [← e]
    exact List.mem_take_iff_getElem.2 ⟨i, by omega, rfl⟩
  have := findZ_mem h3
  omega
theorem isO_of {b : List Int} (h1 : ∀ (i : Nat) (hi : i < b.length), 0 ≤ b[i] ∧ b[i] < b.length) (h2 : ∀ (i j : Nat) (hi : i < j) (hj : j < b.length), b[i]'(by omega) ≠ b[j]) : isO b = true := by
  have h3 : ∀ i, i ≤ b.length → okTo b i = true := by
    intro i
    induction i with
    | zero => intro _; rfl
    | succ i ih =>
      intro hi
      refine okTo_step (by omega) (ih (by omega)) (h1 i (by omega)) ?_
      have := findZ_none (xs := b.take i) (x := b[i]'(by omega)) (fun j hj => by
        rw [List.length_take] at hj
        rw [List.getElem_take]
        exact h2 j i (by omega) (by omega))
      omega
  exact h3 _ (Nat.le_refl _)
theorem isO_onto {o : List Int} (h : isO o = true) (j : Nat) (hj : j < o.length) : (j : Int) ∈ o := by
  by_cases hm : (j : Int) ∈ o
  · exact hm
  · exfalso
    have h1 : (j :: o.map Int.toNat).Nodup := by
      rw [List.nodup_cons]
      refine ⟨fun h2 => ?_, ?_⟩
      · obtain ⟨x, hx, e⟩ := List.mem_map.1 h2
        obtain ⟨i, hi, rfl⟩ := List.mem_iff_getElem.1 hx
        have := isO_range h i hi
        exact hm (by rw [show (j : Int) = o[i] by omega]; exact hx)
      · rw [List.nodup_iff_pairwise_ne, List.pairwise_iff_getElem]
        intro a b ha hb hab
        rw [List.length_map] at ha hb
        rw [List.getElem_map, List.getElem_map]
        have r1 := isO_range h a ha
        have r2 := isO_range h b hb
        have r3 := isO_ne h a b hab hb
        omega
    have h2 := pigeon o.length _ h1 (fun x hx => by
      rcases List.mem_cons.1 hx with rfl | hx
      · exact hj
      · obtain ⟨y, hy, rfl⟩ := List.mem_map.1 hx
        obtain ⟨i, hi, rfl⟩ := List.mem_iff_getElem.1 hy
        have := isO_range h i hi
        omega)
    simp at h2
    omega
theorem backL_at {o : List Int} (h : isO o = true) (j : Nat) (hj : j < o.length) : ∃ (k : Nat) (hk : k < o.length), (backL o)[j]? = some (k : Int) ∧ o[k] = (j : Int) := by
  have h1 := findZ_mem (isO_onto h j hj)
  have h2 := findZ_lt o (j : Int)
  obtain ⟨k, hk⟩ : ∃ k : Nat, findZ o (j : Int) = k := ⟨(findZ o (j : Int)).toNat, by omega⟩
  obtain ⟨h3, h4⟩ := findZ_some hk
  refine ⟨k, h3, ?_, h4⟩
  unfold backL backTo
  rw [h, if_pos rfl, List.take_length, List.getElem?_map, List.getElem?_range hj, Option.map_some, hk]
theorem backL_len {o : List Int} (h : isO o = true) : (backL o).length = o.length := by unfold backL; rw [h, if_pos rfl, backTo_length]
theorem backL_isO {o : List Int} (h : isO o = true) : isO (backL o) = true := by
  have hl := backL_len h
  refine isO_of (fun i hi => ?_) (fun i j hij hj => ?_)
  · obtain ⟨k, hk, e1, _⟩ := backL_at h i (by omega)
    rw [List.getElem?_eq_getElem hi] at e1
    injection e1 with e1
    omega
  · obtain ⟨k, hk, e1, e2⟩ := backL_at h i (by omega)
    obtain ⟨q, hq, e3, e4⟩ := backL_at h j (by omega)
    rw [List.getElem?_eq_getElem (by omega)] at e1 e3
    injection e1 with e1
    injection e3 with e3
    intro e
    rw [e1, e3] at e
    obtain rfl : k = q := by omega
    omega
theorem back_back {o : List Int} (h : isO o = true) : backL (backL o) = o := by
  have hb := backL_isO h
  have hl := backL_len h
  apply List.ext_getElem?
  intro i
  by_cases hi : i < o.length
  · obtain ⟨k, hk, e1, e2⟩ := backL_at hb i (by omega)
    obtain ⟨q, hq, e3, e4⟩ := backL_at h k (by omega)
    rw [List.getElem?_eq_getElem (by omega)] at e3
    injection e3 with e3
    rw [e2] at e3
    obtain rfl : q = i := by omega
    rw [e1, List.getElem?_eq_getElem hi, e4]
  · rw [List.getElem?_eq_none (by rw [backL_len hb]; omega), List.getElem?_eq_none (by omega)]
theorem orderP_of {l : List (Int × ByteArray)} {o : List Int} (h1 : l.length = o.length) (h2 : isO o = true) : orderP l o = o.map (fun k => l.getD k.toNat (0, ⟨#[]⟩)) := by unfold orderP; rw [if_pos ⟨h1, h2⟩]
theorem order_back {l : List (Int × ByteArray)} {o : List Int} (h : isO o = true) (hl : l.length = o.length) : orderP (orderP l o) (backL o) = l ∧ ordB (orderP l o) (backL o) = true := by
  have hb := backL_isO h
  have hbl := backL_len h
  have e1 : orderP l o = o.map (fun k => l.getD k.toNat (0, ⟨#[]⟩)) := by unfold orderP; rw [if_pos ⟨hl, h⟩]
  have e2 : (orderP l o).length = (backL o).length := by rw [e1, hbl]; simp
  refine ⟨?_, by unfold ordB; rw [decide_eq_true e2, hb]; rfl⟩
  rw [orderP_of e2 hb]
  apply List.ext_getElem?
  intro i
  rw [List.getElem?_map]
  by_cases hi : i < o.length
  · obtain ⟨k, hk, e3, e4⟩ := backL_at h i hi
    rw [e3, Option.map_some, e1, Int.toNat_natCast, List.getD_eq_getElem?_getD, List.getElem?_map, List.getElem?_eq_getElem hk, Option.map_some, Option.getD_some, e4, Int.toNat_natCast, List.getD_eq_getElem?_getD, List.getElem?_eq_getElem (by omega), Option.getD_some]
  · rw [List.getElem?_eq_none (by omega), List.getElem?_eq_none (by omega)]; rfl
end Go.Proofs.Ytbfhbekocgdceaa
