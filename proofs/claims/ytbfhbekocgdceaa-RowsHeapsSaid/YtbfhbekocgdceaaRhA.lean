/-
  RowsHeaps: the reference's heap: Take: the walk. Conditions: lengths within 10 ^ 8.
-/
import Derived.Test.YtbfhbekocgdceaaHeT
import Derived.Test.YtbfhbekocgdceaaBagP
import Derived.Deep.QuietTactic
import Derived.BigQuiet
namespace Go.Proofs.Ytbfhbekocgdceaa
open Go.RowKit
theorem info_cTh : (Try.prog.info? 30).map (fun i => (i.zero, i.size, i.bytes)) = some (some (.agg #[.int .i64 0, .int .i64 0]), 2, 16) := by kernel_rfl
def thC (x : Int × Int) : List Value := [.int .i64 x.1, .int .i64 x.2]
theorem thC_length (x : Int × Int) : (thC x).length = 2 := rfl
/-- The reference's heap in memory. -/
structure RefH (w : World) (p : Nat) (A : Option Addr) (c : Nat) (r : List (Int × Int)) : Prop where
  box : Whole w p 34 #[.slice A r.length c]
  own : w.ownsRow (p + 1) 30 2 (.slice A r.length c) r.length (flat thC r)
theorem RefH.calm {w w' : World} {p c : Nat} {A : Option Addr} {r : List (Int × Int)} {S : Nat → Prop} (h : RefH w p A c r) (hk : Keeps S w w') (hp : ¬ S p) (hS : ∀ b, (Value.slice A r.length c).ownBlock = some b → ¬ S b) : RefH w' p A c r :=
  ⟨h.box.keeps hk hp, own_keepsS h.own hk hS⟩
theorem RefH.at_ {w : World} {p c : Nat} {A : Option Addr} {r : List (Int × Int)} (h : RefH w p A c r) {j : Nat} {x : Int × Int} (hx : r[j]? = some x) : ∃ g, A = some ⟨g, 0, none⟩ ∧ p < g ∧ g < w.heap.size ∧ w.cell? ⟨g, j * 2, none⟩ = some (.int .i64 x.1) ∧ w.cell? ⟨g, j * 2 + 1, none⟩ = some (.int .i64 x.2) := by
  have hj := (List.getElem?_eq_some_iff.1 hx).1
  rcases h.own.2 with ⟨_, h0⟩ | ⟨g, cap, cur, hv, hb, hh, hrest⟩
  · omega
  · injection hv with h1 h2 h3
    have hg : (Value.slice A r.length c).ownBlock = some g := by rw [h1]; rfl
    refine ⟨g, h1, hb, (Array.getElem?_eq_some_iff.1 hh).1, ?_, ?_⟩
    · rw [own_cells h.own hg (o := j * 2) (by omega)]
      have := flat_get thC_length r j x hx 0 (by decide)
      rw [Nat.add_zero] at this
      rw [this]; rfl
    · rw [own_cells h.own hg (o := j * 2 + 1) (by omega), flat_get thC_length r j x hx 1 (by decide)]; rfl
/-- The first of the least ones of the first i. -/
def FirstMin (r : List (Int × Int)) (at_ i : Nat) : Prop := at_ < i ∧ ∃ x, r[at_]? = some x ∧ ∀ j y, j < i → r[j]? = some y → x.1 ≤ y.1 ∧ (j < at_ → x.1 < y.1)
theorem FirstMin.start {r : List (Int × Int)} {x : Int × Int} (h : r[0]? = some x) : FirstMin r 0 1 := ⟨by omega, x, h, fun j y hj hy => by
  obtain rfl : j = 0 := by omega
  rw [h] at hy; injection hy with hy; subst hy
  exact ⟨Int.le_refl _, fun h => absurd h (Nat.lt_irrefl _)⟩⟩
theorem FirstMin.next {r : List (Int × Int)} {at_ i : Nat} {x y : Int × Int} (h : FirstMin r at_ i) (hx : r[at_]? = some x) (hy : r[i]? = some y) : FirstMin r (if y.1 < x.1 then i else at_) (i + 1) := by
  obtain ⟨hlt, x', hx', hall⟩ := h
  rw [hx] at hx'; injection hx' with hx'; subst hx'
  split
  · rename_i hyx
    refine ⟨by omega, y, hy, fun j z hj hz => ?_⟩
    by_cases e : j = i
    · subst e; rw [hy] at hz; injection hz with hz; subst hz; exact ⟨Int.le_refl _, fun h => absurd h (Nat.lt_irrefl _)⟩
    · have := (hall j z (by omega) hz).1
      exact ⟨by omega, fun _ => by omega⟩
  · rename_i hyx
    refine ⟨by omega, x, hx, fun j z hj hz => ?_⟩
    by_cases e : j = i
    · subst e; rw [hy] at hz; injection hz with hz; subst hz; exact ⟨by omega, fun h => absurd h (by omega)⟩
    · exact hall j z (by omega) hz
theorem er_snoc {r : List (Int × Int)} {at_ j : Nat} {x : Int × Int} (hx : r[j]? = some x) (h : j ≠ at_) : (r.take (j + 1)).eraseIdx at_ = (r.take j).eraseIdx at_ ++ [x] := by
  have hj := (List.getElem?_eq_some_iff.1 hx).1
  have ht : r.take (j + 1) = r.take j ++ [x] := by rw [List.take_add_one, hx]; rfl
  have hl : (r.take j).length = j := by rw [List.length_take]; omega
  rw [ht, List.eraseIdx_append]
  by_cases e : at_ < j
  · rw [if_pos (by omega)]
  · have h1 : [x].eraseIdx (at_ - j) = [x] := List.eraseIdx_of_length_le (by simp; omega)
    have h2 : (r.take j).eraseIdx at_ = r.take j := List.eraseIdx_of_length_le (by omega)
    rw [if_neg (by omega), hl, h1, h2]
theorem er_same {r : List (Int × Int)} {at_ : Nat} (h : at_ < r.length) : (r.take (at_ + 1)).eraseIdx at_ = (r.take at_).eraseIdx at_ := by
  have hl : (r.take at_).length = at_ := by rw [List.length_take]; omega
  have ht : r.take (at_ + 1) = r.take at_ ++ [r[at_]] := by rw [List.take_add_one, List.getElem?_eq_getElem h]; rfl
  have h2 : (r.take at_).eraseIdx at_ = r.take at_ := List.eraseIdx_of_length_le (by omega)
  rw [ht, List.eraseIdx_append, if_neg (by omega), hl, Nat.sub_self, h2]
  simp
theorem er_length {r : List (Int × Int)} {at_ j : Nat} : ((r.take j).eraseIdx at_).length ≤ r.length := by
  have := List.length_eraseIdx_le (r.take j) at_
  rw [List.length_take] at this
  omega
set_option maxRecDepth 100000 in
set_option maxHeartbeats 1000000 in
theorem refTake_none (p c : Nat) (A : Option Addr) (w : World) (h : RefH w p A c []) :
    Calls Try.prog 15 #[.pointer (some ⟨p, 0, none⟩)] w fun e w' => e = .returned (.tuple #[.agg #[.int .i64 0, .int .i64 0], .bool false]) ∧ Keeps (fun _ => False) w w' := by
  have H := Lib.hid h
  clear h
  have HA := Lib.hid (H.out.calm ((Keeps.refl (fun _ => False) _).alloc (.cells #[.int .i64 0, .int .i64 0] 30)) (fun h => h) (fun _ _ h => h))
  have a0 : (w.alloc (.cells #[.int .i64 0, .int .i64 0] 30)).cell? ⟨p, 0, none⟩ = some (.slice A 0 c) := HA.out.box.cellAt 0
  go_enter Try.func15, Try.ntmps15
  go_wp2_with fail
  have hq0 : (w.alloc (.cells #[.int .i64 0, .int .i64 0] 30)).cell? ⟨w.heap.size, 0, none⟩ = some (.int .i64 0) := (Whole.made _ _ _).cellAt 0
  have hq1 : (w.alloc (.cells #[.int .i64 0, .int .i64 0] 30)).cell? ⟨w.heap.size, 1, none⟩ = some (.int .i64 0) := (Whole.made _ _ _).cellAt 1
  refine bodyPost_ret (v := .tuple #[.agg #[.int .i64 0, .int .i64 0], .bool false]) (by simp [results, Try.results15, go_sem, hq0, hq1]) rfl ⟨rfl, ?_⟩
  exact (Keeps.refl _ _).alloc _
set_option maxRecDepth 100000 in
set_option maxHeartbeats 4000000 in
theorem refTake_any (p c : Nat) (A : Option Addr) (r : List (Int × Int)) (w : World) (h : RefH w p A c r) (h0 : 0 < r.length) (hlb : r.length ≤ 100000000) :
    Calls Try.prog 15 #[.pointer (some ⟨p, 0, none⟩)] w fun e w' => ∃ at_ x A' c', FirstMin r at_ r.length ∧ r[at_]? = some x ∧ e = .returned (.tuple #[.agg #[.int .i64 x.1, .int .i64 x.2], .bool true]) ∧ RefH w' p A' c' (r.eraseIdx at_) ∧ Keeps (fun b => b = p) w w' ∧ ∀ b, (Value.slice A' (r.eraseIdx at_).length c').ownBlock = some b → w.heap.size ≤ b := by
  have H := Lib.hid h
  have hpw : p < w.heap.size := h.box.inside
  obtain ⟨w0, hw0⟩ : ∃ z, z = w.alloc (.cells #[.int .i64 0, .int .i64 0] 30) := ⟨_, rfl⟩
  have K0 : Hid (Keeps (fun _ => False) w w0) := Lib.hid (by rw [hw0]; exact (Keeps.refl _ _).alloc _)
  have WR : Hid (Whole w0 w.heap.size 30 #[.int .i64 0, .int .i64 0]) := Lib.hid (by rw [hw0]; exact Whole.made _ _ _)
  have HA := Lib.hid (H.out.calm K0.out (fun h => h) (fun _ _ h => h))
  have a0 : w0.cell? ⟨p, 0, none⟩ = some (.slice A r.length c) := HA.out.box.cellAt 0
  obtain ⟨x0, hx0⟩ : ∃ x, r[0]? = some x := ⟨_, List.getElem?_eq_getElem h0⟩
  obtain ⟨g, rfl, hpg, hgw, _⟩ := h.at_ hx0
  have hle : ((r.length : Int) == 0) = false := by rw [beq_eq_false_iff_ne]; omega
  have F0 := Lib.hid (FirstMin.start hx0)
  have HC : Hid (∀ j x, r[j]? = some x → w0.cell? ⟨g, j * 2, none⟩ = some (.int .i64 x.1) ∧ w0.cell? ⟨g, j * 2 + 1, none⟩ = some (.int .i64 x.2)) := Lib.hid (fun j x hx => by
    obtain ⟨g', e, _, _, h1, h2⟩ := HA.out.at_ hx
    obtain rfl : g = g' := by injection e with e; injection e
    exact ⟨h1, h2⟩)
  clear h hx0
  go_enter Try.func15, Try.ntmps15
  have a1 : (w.alloc (.cells #[.int .i64 0, .int .i64 0] 30)).cell? ⟨p, 0, none⟩ = some (.slice (some ⟨g, 0, none⟩) r.length c) := by rw [← hw0]; exact a0
  go_wp2_with fail
  rw [← hw0]
  have hrb : w.heap.size < w0.heap.size := WR.out.inside
  obtain ⟨rb, hrbe⟩ : ∃ z, z = w.heap.size := ⟨_, rfl⟩
  rw [← hrbe] at WR hpw hgw hrb ⊢
  have HRB := Lib.hid hrbe
  clear a1 hw0 hrbe
  go_loopw [4, 5] (fun va vi wr => ∃ (at_ i d : Nat), i ≤ r.length ∧ va = .int .i64 at_ ∧ vi = .int .i64 i ∧ Hid (FirstMin r at_ i) ∧ wr = w0.drewN d) (fun _ v _ => r.length - (intOf v).toNat)
  case atStart => exact ⟨0, 1, 0, by omega, rfl, rfl, F0, rfl⟩
  case round =>
    clear F0
    obtain ⟨at_, i, d, hi, rfl, rfl, HF, rfl⟩ := hrel
    obtain ⟨xa, hxa, hall⟩ := HF.out.2
    obtain ⟨ca0, ca1⟩ := HC.out at_ xa hxa
    have hatr : at_ < r.length := (List.getElem?_eq_some_iff.1 hxa).1
    by_cases hir : i < r.length
    · obtain ⟨y, hy⟩ : ∃ y, r[i]? = some y := ⟨_, List.getElem?_eq_getElem hir⟩
      obtain ⟨cy0, cy1⟩ := HC.out i y hy
      have HN := Lib.hid (HF.out.next hxa hy)
      clear hall hxa hy HF
      by_cases hlt : y.1 < xa.1
      · have HN2 : Hid (FirstMin r i (i + 1)) := Lib.hid (by have := HN.out; rw [if_pos hlt] at this; exact this)
        clear HN
        go_wp2_with fail
        go_quiet (fail)
        go_wp2_with fail
        go_roundw
        case rel => exact ⟨i, i + 1, d + nq, by omega, rfl, by go_num, HN2, by first | rfl | exact World.drewN_drewN _ _ _⟩
        case measure => (simp [intOf] <;> omega)
      · have HN2 : Hid (FirstMin r at_ (i + 1)) := Lib.hid (by have := HN.out; rw [if_neg hlt] at this; exact this)
        clear HN
        go_wp2_with fail
        go_quiet (fail)
        go_wp2_with fail
        go_roundw
        case rel => exact ⟨at_, i + 1, d + nq, by omega, rfl, by go_num, HN2, by first | rfl | exact World.drewN_drewN _ _ _⟩
        case measure => (simp [intOf] <;> omega)
    · obtain rfl : i = r.length := by omega
      have HX := Lib.hid hxa
      clear hall hxa hir hi
      obtain ⟨w1, hw1⟩ : ∃ z, z = w0.drewN d := ⟨_, rfl⟩
      have K1 : Hid (Keeps (fun _ => False) w0 w1) := Lib.hid (by rw [hw1]; exact (Keeps.refl _ _).drewN d)
      have a0 : w1.cell? ⟨p, 0, none⟩ = some (.slice (some ⟨g, 0, none⟩) r.length c) := by rw [hw1]; exact a0
      have ca0 : w1.cell? ⟨g, at_ * 2, none⟩ = some (.int .i64 xa.1) := by rw [hw1]; exact ca0
      have ca1 : w1.cell? ⟨g, at_ * 2 + 1, none⟩ = some (.int .i64 xa.2) := by rw [hw1]; exact ca1
      rw [← hw1]
      clear hw1
      go_wp2_with fail
      obtain ⟨w2, hw2⟩ : ∃ z, z = w1.alloc (.cells #[.int .i64 xa.1, .int .i64 xa.2] 30) := ⟨_, rfl⟩
      have K2 : Hid (Keeps (fun _ => False) w w2) := Lib.hid (by rw [hw2]; exact (K0.out.trans K1.out).alloc _)
      have K12 : Hid (Keeps (fun _ => False) w1 w2) := Lib.hid (by rw [hw2]; exact (Keeps.refl _ _).alloc _)
      have WX : Hid (Whole w2 w1.heap.size 30 #[.int .i64 xa.1, .int .i64 xa.2]) := Lib.hid (by rw [hw2]; exact Whole.made _ _ _)
      have WR2 : Hid (Whole w2 rb 30 #[.int .i64 0, .int .i64 0]) := Lib.hid ((WR.out.keeps K1.out id).keeps K12.out id)
      have HC2 : Hid (∀ j x, r[j]? = some x → w2.cell? ⟨g, j * 2, none⟩ = some (.int .i64 x.1) ∧ w2.cell? ⟨g, j * 2 + 1, none⟩ = some (.int .i64 x.2)) := Lib.hid (fun j x hx => by
        obtain ⟨h1, h2⟩ := HC.out j x hx
        have hgw0 : g < w0.heap.size := by omega
        exact ⟨((K1.out.trans K12.out).cell hgw0 id).trans h1, ((K1.out.trans K12.out).cell hgw0 id).trans h2⟩)
      have a2 : w2.cell? ⟨p, 0, none⟩ = some (.slice (some ⟨g, 0, none⟩) r.length c) := (H.out.box.keeps K2.out id).cellAt 0
      have hws : w1.heap.size < w2.heap.size := WX.out.inside
      try simp only [World.drewN_size]
      try rw [← hw2]
      clear hw2
      obtain ⟨xb, hxb⟩ : ∃ z, z = w1.heap.size := ⟨_, rfl⟩
      rw [← hxb] at WX hws ⊢
      have hbx : rb < xb := by have := K1.out.size; omega
      have hpx : p < xb := by omega
      have hgx : g < xb := by omega
      obtain ⟨B, hB⟩ : ∃ z, z = w2.heap.size := ⟨_, rfl⟩
      have HB := Lib.hid hB
      have hxB : xb < B := by omega
      clear hxb hB hws ca0 ca1 a0 K12 K1 HC WR HA
      go_loopw [7, 8] (fun vl vj wr => ∃ (j n : Nat) (A' : Option Addr) (c' : Nat), j ≤ r.length ∧ vj = .int .i64 j ∧ vl = .slice A' n c' ∧ Hid (n = ((r.take j).eraseIdx at_).length) ∧ Hid (wr.ownsRow B 30 2 (.slice A' n c') n (flat thC ((r.take j).eraseIdx at_))) ∧ Hid (Keeps (fun _ => False) w2 wr)) (fun _ v _ => r.length - (intOf v).toNat)
      case atStart => exact ⟨0, 0, none, 0, by omega, rfl, rfl, Lib.hid (by simp), Lib.hid (by simpa [flat] using World.ownsRow_nil _ _ _ _), Lib.hid (Keeps.refl _ _)⟩
      case round =>
        obtain ⟨j, n, A', c', hj, rfl, rfl, HNL, HO, HK⟩ := hrel
        have a3 : wr.cell? ⟨p, 0, none⟩ = some (.slice (some ⟨g, 0, none⟩) r.length c) := (HK.out.cell (by have := HB.out; omega) id).trans a2
        have hBw : B ≤ wr.heap.size := by have := HK.out.size; have := HB.out; omega
        have hnb : n ≤ r.length := by have := HNL.out; have := er_length (r := r) (at_ := at_) (j := j); omega
        by_cases hjr : j < r.length
        · obtain ⟨x, hx⟩ : ∃ x, r[j]? = some x := ⟨_, List.getElem?_eq_getElem hjr⟩
          obtain ⟨c0, c1⟩ := HC2.out j x hx
          have c0 := (HK.out.cell (b := g) (by have := HB.out; omega) id).trans c0
          have c1 := (HK.out.cell (b := g) (by have := HB.out; omega) id).trans c1
          by_cases hja : j = at_
          · have HE : Hid ((r.take (j + 1)).eraseIdx at_ = (r.take j).eraseIdx at_) := Lib.hid (by subst hja; exact er_same hjr)
            have hjI : ((j : Int) == (at_ : Int)) = true := by rw [beq_iff_eq]; omega
            clear hx
            go_wp2_with fail
            go_roundw
            case rel => exact ⟨j + 1, n, A', c', by omega, by go_num, rfl, Lib.hid (by rw [HE.out]; exact HNL.out), Lib.hid (by rw [HE.out]; exact HO.out), HK⟩
            case measure => (simp [intOf] <;> omega)
          · have HE : Hid ((r.take (j + 1)).eraseIdx at_ = (r.take j).eraseIdx at_ ++ [x]) := Lib.hid (er_snoc hx hja)
            have hjI : ((j : Int) == (at_ : Int)) = false := by rw [beq_eq_false_iff_ne]; omega
            clear hx
            go_wp2_with (at_builtin; (refine wpList_append_cells _ rfl (.tmp 62) (.tmp 70) 24 rfl B 30 (.agg #[.int .i64 0, .int .i64 0]) 2 16 Try.underlying24 info_cTh rfl (by decide) (.slice A' n c') n _ rfl (HO.out.alloc _) (wr.heap.size + 1) (some ⟨wr.heap.size, 0, none⟩) 1 1 [.int .i64 x.1, .int .i64 x.2] rfl (Lies.row (t := 30) (fr := (0, 0)) (heap_alloc_new wr _) (by simp)) rfl (by simp [Value.oneCell']) (by unfold maxLen; omega) (by omega) (by simp; omega) ?_); intro A2 c2 w3 h1 h2 _ _ _; have HO2 := Lib.hid h1; have HK2 : Hid (Keeps (fun _ => False) w2 w3) := Lib.hid ((HK.out.alloc _).grown h2 (fun b hb hlt => by have := (HO.out.lt b hb).1; have := HB.out; omega)); clear h1 h2)
            go_roundw
            case rel => exact ⟨j + 1, n + 1, A2, c2, by omega, by go_num, rfl, Lib.hid (by rw [HE.out, List.length_append]; have := HNL.out; simp; omega), Lib.hid (by rw [HE.out]; simpa [flat, thC] using HO2.out), HK2⟩
            case measure => (simp [intOf] <;> omega)
        · obtain rfl : j = r.length := by omega
          have WP : Hid (Whole wr p 34 #[.slice (some ⟨g, 0, none⟩) r.length c]) := Lib.hid ((H.out.box.keeps K2.out id).keeps HK.out id)
          have f3 : wr.frozen? ⟨p, 0, none⟩ = false := WP.out.free 0
          have WRr := Lib.hid (WR2.out.keeps HK.out id)
          have WXr := Lib.hid (WX.out.keeps HK.out id)
          have r0 := WRr.out.cellAt 0
          have r1 := WRr.out.cellAt 1
          have s0 := WRr.out.free 0
          have s1 := WRr.out.free 1
          have y0 := WXr.out.cellAt 0
          have y1 := WXr.out.cellAt 1
          simp at r0 r1 y0 y1
          have hpr2 : p ≠ rb := by omega
          have hrp2 : rb ≠ p := by omega
          have hpx2 : p ≠ xb := by omega
          have hxp2 : xb ≠ p := by omega
          have hrx2 : rb ≠ xb := by omega
          have hxr2 : xb ≠ rb := by omega
          clear hjr hj
          go_wp2_with fail
          have hq := ((WRr.out.putFar (p := ⟨p, 0, none⟩) (by show rb ≠ p; omega) (.slice A' n c')).put 0 (.int .i64 xa.1)).put 1 (.int .i64 xa.2)
          have hq0 := hq.cellAt 0
          have hq1 := hq.cellAt 1
          simp at hq0 hq1
          have htk : r.take r.length = r := List.take_length
          have HO1 := HO.out
          have HN1 := HNL.out
          rw [htk] at HO1 HN1
          have HO2 := ownsRow_setCell_below (ownsRow_setCell_below (ownsRow_setCell_below HO1 (show (⟨p, 0, none⟩ : Addr).block < B by show p < B; omega) (.slice A' n c')) (show (⟨rb, 0, none⟩ : Addr).block < B by show rb < B; omega) (.int .i64 xa.1)) (show (⟨rb, 1, none⟩ : Addr).block < B by show rb < B; omega) (.int .i64 xa.2)
          refine bodyPost_ret (v := .tuple #[.agg #[.int .i64 xa.1, .int .i64 xa.2], .bool true]) (by simp [results, Try.results15, go_sem, hq0, hq1]) rfl ⟨at_, xa, A', c', HF.out, HX.out, rfl, ⟨?_, ?_⟩, ?_, ?_⟩
          · have h1 := ((WP.out.put 0 (.slice A' n c')).putFar (p := ⟨rb, 0, none⟩) (by show p ≠ rb; omega) (.int .i64 xa.1)).putFar (p := ⟨rb, 1, none⟩) (by show p ≠ rb; omega) (.int .i64 xa.2)
            rw [← HN1]
            simpa using h1
          · rw [← HN1]
            exact own_base HO2 (fun b hb => by have := (HO2.lt b hb).1; omega)
          · have hk : Keeps (fun b => b = p) w wr := (K2.out.trans HK.out).mono (fun _ _ h => h.elim)
            have hw := HRB.out
            exact ((hk.setCell (p := ⟨p, 0, none⟩) (fun _ => rfl) _).setCell (p := ⟨rb, 0, none⟩) (fun h => absurd h (by show ¬ rb < _; omega)) _).setCell (p := ⟨rb, 1, none⟩) (fun h => absurd h (by show ¬ rb < _; omega)) _
          · intro b hb
            rw [← HN1] at hb
            have := (HO2.lt b hb).1
            have := HRB.out
            omega
end Go.Proofs.Ytbfhbekocgdceaa
