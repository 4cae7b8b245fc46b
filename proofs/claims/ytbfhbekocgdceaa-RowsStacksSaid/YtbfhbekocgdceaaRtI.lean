/-
  RowsStacks: the law's function is true at every two bounds and every script: the walk. Condition: the script within what memory holds.
-/
import Derived.Test.YtbfhbekocgdceaaRtH
import Derived.RegionTactic
import Derived.Deep.RegionWith
namespace Go.Proofs.Ytbfhbekocgdceaa
open Go.RowKit
theorem and_one_i64 (x : Int) : bits .and .i64 x 1 = 0 ∨ bits .and .i64 x 1 = 1 := by
  have e : (BitVec.ofInt IntKind.i64.bits x &&& BitVec.ofInt IntKind.i64.bits 1).toNat = (BitVec.ofInt IntKind.i64.bits x).toNat % 2 := by
    rw [BitVec.toNat_and]
    show _ &&& 1 = _
    exact Nat.and_one_is_mod _
  have h : bits .and .i64 x 1 = IntKind.i64.wrap (((BitVec.ofInt IntKind.i64.bits x).toNat % 2 : Nat) : Int) := by
    show IntKind.i64.wrap (((BitVec.ofInt IntKind.i64.bits x &&& BitVec.ofInt IntKind.i64.bits 1).toNat : Nat) : Int) = _
    rw [e]
  rw [h]
  rcases Nat.mod_two_eq_zero_or_one (BitVec.ofInt IntKind.i64.bits x).toNat with h | h
  · rw [h]; exact .inl (by decide)
  · rw [h]; exact .inr (by decide)
theorem StAt.calm {w0 w w' : World} {bs br hb : Nat} {p0 p1 q0 q1 : Option Addr} {m : Nat} {F0 F1 : Nat → Prop} {rows : List Sl} {HA : Option Addr} {hc : Nat} (h : StAt w0 w bs br hb p0 p1 q0 q1 m F0 F1 rows HA hc) (hk : Keeps (fun _ => False) w w') : StAt w0 w' bs br hb p0 p1 q0 q1 m F0 F1 rows HA hc :=
  ⟨h.s0.calm hk (fun _ _ h => h), h.s1.calm hk (fun _ _ h => h), h.held.calm hk (fun _ _ h => h), h.d01, h.d0h, h.d1h, h.ws.keeps hk id, h.wr.keeps hk id, h.far, h.low, h.keeps.trans (hk.mono (fun _ _ h => h.elim)), h.len⟩
theorem nils_of {p q : Option Addr} (h : p = none ∧ q = none ∨ p ≠ none ∧ q ≠ none) : ∃ b0 : Bool, (∀ w, (binOp .eql 69 (.pointer p) (.pointer none)).run Try.prog w = .ok (.bool b0) w) ∧ (∀ w, (binOp .eql 72 (.pointer q) (.pointer none)).run Try.prog w = .ok (.bool b0) w) := by
  rcases h with ⟨rfl, rfl⟩ | ⟨h1, h2⟩
  · exact ⟨true, fun w => by kernel_rfl, fun w => by kernel_rfl⟩
  · obtain ⟨p, rfl⟩ := Option.ne_none_iff_exists'.1 h1
    obtain ⟨q, rfl⟩ := Option.ne_none_iff_exists'.1 h2
    exact ⟨false, fun w => by kernel_rfl, fun w => by kernel_rfl⟩
/-- What stands behind the script: the two stacks. -/
structure StEnd (w0 w : World) (bs br : Nat) (p0 p1 q0 q1 : Option Addr) (m : Nat) (F0 F1 : Nat → Prop) : Prop where
  s0 : Side w (.pointer p0) (.pointer q0) m F0
  s1 : Side w (.pointer p1) (.pointer q1) m F1
  ws : Whole w bs 71 #[.pointer p0, .pointer p1]
  wr : Whole w br 74 #[.pointer q0, .pointer q1]
  low : w0.heap.size ≤ bs ∧ w0.heap.size ≤ br
  keeps : Keeps (fun b => w0.heap.size ≤ b) w0 w
theorem StEnd.calm {w0 w w' : World} {bs br : Nat} {p0 p1 q0 q1 : Option Addr} {m : Nat} {F0 F1 : Nat → Prop} (h : StEnd w0 w bs br p0 p1 q0 q1 m F0 F1) (hk : Keeps (fun _ => False) w w') : StEnd w0 w' bs br p0 p1 q0 q1 m F0 F1 :=
  ⟨h.s0.calm hk (fun _ _ h => h), h.s1.calm hk (fun _ _ h => h), h.ws.keeps hk id, h.wr.keeps hk id, h.low, h.keeps.trans (hk.mono (fun _ _ h => h.elim))⟩
theorem StAt.fin {w0 w w' : World} {bs br hb : Nat} {p0 p1 q0 q1 : Option Addr} {m : Nat} {F0 F1 : Nat → Prop} {rows : List Sl} {HA : Option Addr} {hc : Nat} (h : StAt w0 w bs br hb p0 p1 q0 q1 m F0 F1 rows HA hc) (hk : Keeps (HeldIn.foot hb HA rows) w w') : StEnd w0 w' bs br p0 p1 q0 q1 m F0 F1 :=
  ⟨h.s0.calm hk h.d0h, h.s1.calm hk h.d1h, h.ws.keeps hk (fun h1 => (h.far _ (.inr (.inr h1))).2.1 rfl), h.wr.keeps hk (fun h1 => (h.far _ (.inr (.inr h1))).2.2 rfl), h.low, h.keeps.and hk (fun _ _ h1 => (h.far _ (.inr (.inr h1))).1)⟩
theorem blks_take {rows : List Sl} {n b : Nat} (h : blks (rows.take n) b) : blks rows b := by
  obtain ⟨k, r, hr, hb⟩ := h
  rw [List.getElem?_take] at hr
  split at hr
  · exact ⟨k, r, hr, hb⟩
  · cases hr
theorem getElem_take {rows : List Sl} {n k : Nat} {r : Sl} (h : (rows.take n)[k]? = some r) : rows[k]? = some r := by
  rw [List.getElem?_take] at h
  split at h
  · exact h
  · cases h
theorem SlRows.take {e : TypeId} {s : Nat} {rows : List Sl} {w : World} (h : SlRows e s rows w) (n : Nat) : SlRows e s (rows.take n) w :=
  ⟨fun k r hr => h.own k r (getElem_take hr), fun j k r q b hr hq hb hb' => h.apart j k r q b (getElem_take hr) (getElem_take hq) hb hb'⟩
theorem held_fix {w : World} {hb hc g : Nat} {rows : List Sl} (h : HeldIn w hb rows (some ⟨g, 0, none⟩) hc) : RowFix w g rows ∧ hb < g := by
  have hl := h.hO.lt g rfl
  refine ⟨⟨fun n r hr => ?_, hl.2, fun hf => ?_⟩, by omega⟩
  · have h1 := own_cells h.hO (g := g) rfl (o := n) (by rw [Nat.mul_one]; exact (List.getElem?_eq_some_iff.1 hr).1)
    rw [h1, vals_get hr]; rfl
  · obtain ⟨k, r, hr, hrb⟩ := hf
    obtain ⟨xs, hx⟩ := h.hR.own k r hr
    exact other_kind hx h.hO (by decide) hrb rfl
theorem held_apart {w : World} {hb hc : Nat} {rows : List Sl} {HA : Option Addr} (h : HeldIn w hb rows HA hc) (hn : rows.length ≤ 40) :
    Calls Try.prog 31 #[.slice HA rows.length hc] w fun e w' => e = .returned (.bool true) ∧ Keeps (blks rows) w w' := by
  cases rows with
  | nil =>
    obtain ⟨rfl, rfl⟩ := h.h0 rfl
    exact (rapart_none w).mono fun e w' hh => ⟨hh.1, hh.2.mono (fun _ _ h => h.elim)⟩
  | cons r rs =>
    obtain ⟨g, cs, rfl, _⟩ := own_whole h.hO (by simp)
    exact rapart_any g hc (r :: rs) w (held_fix h).1 h.hR hn h.ln
theorem held_cut {w : World} {hb hc g : Nat} {rows : List Sl} (h : HeldIn w hb rows (some ⟨g, 0, none⟩) hc) (hn : 40 < rows.length) :
    Calls Try.prog 31 #[.slice (some ⟨g, 0, none⟩) 40 hc] (w.setCell ⟨hb, 0, none⟩ (.slice (some ⟨g, 0, none⟩) 40 hc)) fun e w' => e = .returned (.bool true) ∧ Keeps (blks rows) (w.setCell ⟨hb, 0, none⟩ (.slice (some ⟨g, 0, none⟩) 40 hc)) w' := by
  have hl : (rows.take 40).length = 40 := by rw [List.length_take]; omega
  obtain ⟨hf, hg⟩ := held_fix h
  have hk : Keeps (fun b => b = hb) w (w.setCell ⟨hb, 0, none⟩ (.slice (some ⟨g, 0, none⟩) 40 hc)) := (Keeps.refl (fun b => b = hb) _).setCell (p := ⟨hb, 0, none⟩) (fun _ => rfl) _
  have hr : SlRows 3 1 (rows.take 40) (w.setCell ⟨hb, 0, none⟩ (.slice (some ⟨g, 0, none⟩) 40 hc)) := (h.hR.take 40).keeps hk fun k r b hr hb' he => h.far ⟨k, r, getElem_take hr, he ▸ hb'⟩
  have hf' : RowFix (w.setCell ⟨hb, 0, none⟩ (.slice (some ⟨g, 0, none⟩) 40 hc)) g (rows.take 40) := ⟨fun n r hr => (hk.cell hf.lt (by omega)).trans (hf.hO n r (getElem_take hr)), Nat.lt_of_lt_of_le hf.lt hk.size, fun h1 => hf.far (blks_take h1)⟩
  have h1 := rapart_any g hc (rows.take 40) _ hf' hr (by omega) (fun k r hr => h.ln k r (getElem_take hr))
  rw [hl] at h1
  exact h1.mono fun e w' hh => ⟨hh.1, hh.2.mono (fun b _ h => blks_take h)⟩
set_option maxRecDepth 100000 in
set_option maxHeartbeats 8000000 in
theorem rowsStacks_any (m0 m1 : Int) (ops : List (Int × Int × Int)) (A0 : Option Addr) (cap : Nat) (w : World) (hx : OpLies w w.heap.size A0 ops) (hwf : ∀ x ∈ ops, (-9223372036854775808 ≤ x.1 ∧ x.1 ≤ 9223372036854775807) ∧ (-9223372036854775808 ≤ x.2.1 ∧ x.2.1 ≤ 9223372036854775807) ∧ (-9223372036854775808 ≤ x.2.2 ∧ x.2.2 ≤ 9223372036854775807)) :
    Calls Try.prog 7 #[.int .i64 m0, .int .i64 m1, .slice A0 ops.length cap] w fun e w' => e = .returned (.bool true) ∧ Below w.heap.size w w' := by
  have HX := Lib.hid hx
  have HWF := Lib.hid hwf
  clear hx hwf
  go_enter Try.func7, Try.ntmps7
  go_wp2_with fail
  refine (rworks_any w).mono ?_
  rintro e w1 ⟨rfl, k1⟩
  have K1 := Lib.hid k1
  clear k1
  by_cases hbig : 4096 < ops.length
  · have hb : (4096 : Int) < (ops.length : Int) := by omega
    go_wp2_with fail
    go_ret
    exact ⟨rfl, K1.out.below (Nat.le_refl _) (fun _ h => h.elim)⟩
  · have hob : ops.length ≤ 4096 := by omega
    have hb : ¬ (4096 : Int) < (ops.length : Int) := by omega
    clear hbig
    go_wp2_with fail
    refine (newI_val m0 w1).mono ?_
    rintro e w2 ⟨p0, rfl, hn0, k2⟩
    have HN0 := Lib.hid hn0
    have K2 := Lib.hid k2
    clear hn0 k2
    go_wp2_with fail
    refine (newI_val m1 w2).mono ?_
    rintro e w3 ⟨p1, rfl, hn1, k3⟩
    have HN1 := Lib.hid hn1
    have K3 := Lib.hid k3
    clear hn1 k3
    go_wp2_with fail
    obtain ⟨w4, hw4⟩ : ∃ z, z = w3.alloc (.cells #[.pointer p0, .pointer p1] 71) := ⟨_, rfl⟩
    have K4 : Hid (Keeps (fun _ => False) w3 w4) := Lib.hid (by rw [hw4]; exact (Keeps.refl _ _).alloc _)
    have WS : Hid (Whole w4 w3.heap.size 71 #[.pointer p0, .pointer p1]) := Lib.hid (by rw [hw4]; exact Whole.made _ _ _)
    obtain ⟨bs, hbs⟩ : ∃ z, z = w3.heap.size := ⟨_, rfl⟩
    rw [← hw4, ← hbs]
    rw [← hbs] at WS HN1
    have HBS := Lib.hid hbs
    clear hw4 hbs
    refine (newR_val m0 w4).mono ?_
    rintro e w5 ⟨q0, rfl, hn2, k5⟩
    have HN2 := Lib.hid hn2
    have K5 := Lib.hid k5
    clear hn2 k5
    go_wp2_with fail
    refine (newR_val m1 w5).mono ?_
    rintro e w6 ⟨q1, rfl, hn3, k6⟩
    have HN3 := Lib.hid hn3
    have K6 := Lib.hid k6
    have WS6 : Hid (Whole w6 bs 71 #[.pointer p0, .pointer p1]) := Lib.hid ((WS.out.keeps K5.out id).keeps k6 id)
    have HBI := Lib.hid WS.out.inside
    clear hn3 k6 WS
    have hsf0 := HN0.out.calm (K3.out.trans (K4.out.trans (K5.out.trans K6.out)))
    have hsf := hsf0.side (HN2.out.calm K6.out) (by have := K3.out.size; have := K4.out.size; omega)
    have hsg := (HN1.out.calm (K4.out.trans (K5.out.trans K6.out))).side HN3.out (by have := K4.out.size; have := K5.out.size; have := HBS.out; omega)
    obtain ⟨hn0, F0, hS0, hF0⟩ := hsf
    obtain ⟨hn1, F1, hS1, hF1⟩ := hsg
    have HS0 := Lib.hid hS0
    have HS1 := Lib.hid hS1
    have HF0 := Lib.hid hF0
    have HF1 := Lib.hid hF1
    have HNN0 := Lib.hid hn0
    have HNN1 := Lib.hid hn1
    obtain ⟨b0, hp0, hq0⟩ : ∃ b0 : Bool, (∀ w, (binOp .eql 69 (.pointer p0) (.pointer none)).run Try.prog w = .ok (.bool b0) w) ∧ (∀ w, (binOp .eql 72 (.pointer q0) (.pointer none)).run Try.prog w = .ok (.bool b0) w) := nils_of hn0
    obtain ⟨b1, hp1, hq1⟩ : ∃ b1 : Bool, (∀ w, (binOp .eql 69 (.pointer p1) (.pointer none)).run Try.prog w = .ok (.bool b1) w) ∧ (∀ w, (binOp .eql 72 (.pointer q1) (.pointer none)).run Try.prog w = .ok (.bool b1) w) := nils_of hn1
    have hbb : ∀ (b : Bool) w, (binOp .neq 4 (.bool b) (.bool b)).run Try.prog w = .ok (.bool false) w := fun b w => by cases b <;> kernel_rfl
    have x0 : (w6.alloc (.cells #[.pointer q0, .pointer q1] 74)).cell? ⟨bs, 0, none⟩ = some (.pointer p0) := (WS6.out.alloc _).cellAt 0
    have x1 : (w6.alloc (.cells #[.pointer q0, .pointer q1] 74)).cell? ⟨bs, 1, none⟩ = some (.pointer p1) := (WS6.out.alloc _).cellAt 1
    clear hS0 hS1 hF0 hF1 hsf0 hn0 hn1
    go_wp2_with fail
    have hsr : (w6.alloc (.cells #[.pointer q0, .pointer q1] 74)).heap.size = w6.heap.size + 1 := by simp
    have HST : Hid (StAt w ((w6.alloc (.cells #[.pointer q0, .pointer q1] 74)).alloc (.cells #[.slice none 0 0] 63)) bs w6.heap.size (w6.heap.size + 1) p0 p1 q0 q1 0 F0 F1 [] none 0) := Lib.hid (by
      have t1 := K1.out.size
      have t2 := K2.out.size
      have t3 := K3.out.size
      have t4 := K4.out.size
      have t5 := K5.out.size
      have t6 := K6.out.size
      have t7 := HBS.out
      have t8 := WS6.out.inside
      have t9 := HBI.out
      have hA : Keeps (fun _ => False) w6 ((w6.alloc (.cells #[.pointer q0, .pointer q1] 74)).alloc (.cells #[.slice none 0 0] 63)) := ((Keeps.refl _ _).alloc _).alloc _
      have hH := HeldIn.start (w6.alloc (.cells #[.pointer q0, .pointer q1] 74))
      rw [hsr] at hH
      have hft : ∀ b, HeldIn.foot (w6.heap.size + 1) none [] b → b = w6.heap.size + 1 := fun b hb => by
        rcases hb with hb | hb | ⟨k, r, hr, _⟩
        · exact hb
        · cases hb
        · simp at hr
      refine ⟨HS0.out.calm hA (fun _ _ h => h), HS1.out.calm hA (fun _ _ h => h), hH, fun b h1 h2 => ?_, fun b h1 h2 => ?_, fun b h1 h2 => ?_, WS6.out.keeps hA id, (Whole.made w6 _ _).alloc _, fun b h1 => ?_, ⟨by omega, by omega⟩, (((K1.out.trans K2.out).trans (K3.out.trans K4.out)).trans ((K5.out.trans K6.out).trans hA)).mono (fun _ _ h => h.elim), Nat.le_refl _⟩
      · have := HF0.out b h1; have := HF1.out b h2; omega
      · have := HF0.out b h1; have := hft b h2; omega
      · have := HF1.out b h1; have := hft b h2; omega
      · rcases h1 with h1 | h1 | h1
        · have := HF0.out b h1; omega
        · have := HF1.out b h1; omega
        · have := hft b h1; omega)
    obtain ⟨wz, hwz⟩ : ∃ z, z = (w6.alloc (.cells #[.pointer q0, .pointer q1] 74)).alloc (.cells #[.slice none 0 0] 63) := ⟨_, rfl⟩
    try rw [hsr]
    rw [← hwz] at HST ⊢
    clear hwz hsr x0 x1 HS0 HS1 HF0 HF1 HN0 HN1 HN2 HN3 HBI
    generalize w6.heap.size = br at *
    generalize br + 1 = hb at *
    clear WS6 HBS K6 K5 K4 K3 K2 K1
    go_loopw [11] (fun v wr => ∃ (i : Nat) (F0 F1 : Nat → Prop) (rows : List Sl) (HA : Option Addr) (hc : Nat), i ≤ ops.length ∧ v = .int .i64 i ∧ Hid (StAt w wr bs br hb p0 p1 q0 q1 i F0 F1 rows HA hc)) (fun v _ => ops.length - (intOf v).toNat)
    case atStart => exact ⟨0, F0, F1, [], none, 0, by omega, rfl, HST⟩
    case round =>
      clear HST
      obtain ⟨i, F0, F1, rows, HA, hc, hio, rfl, HS⟩ := hrel
      by_cases hlt : i < ops.length
      · obtain ⟨o, ho⟩ : ∃ o, ops[i]? = some o := ⟨_, List.getElem?_eq_getElem hlt⟩
        have hwf := HWF.out o (List.mem_of_getElem? ho)
        obtain ⟨g, off, rfl, hg, c0, c1, c2⟩ := HX.out i o ho
        have hkp := HS.out.keeps
        have c0 := (hkp.cell hg (by omega)).trans c0
        have c1 := (hkp.cell hg (by omega)).trans c1
        have c2 := (hkp.cell hg (by omega)).trans c2
        obtain ⟨k, on, x⟩ := o
        simp only at hwf c0 c1 c2
        have x0 : wr.cell? ⟨bs, 0, none⟩ = some (.pointer p0) := HS.out.ws.cellAt 0
        have x1 : wr.cell? ⟨bs, 1, none⟩ = some (.pointer p1) := HS.out.ws.cellAt 1
        have y0 : wr.cell? ⟨br, 0, none⟩ = some (.pointer q0) := HS.out.wr.cellAt 0
        have y1 : wr.cell? ⟨br, 1, none⟩ = some (.pointer q1) := HS.out.wr.cellAt 1
        have HD := Lib.hid (HS.out.calm ((Keeps.refl (fun _ => False) wr).drew))
        have hlen := HS.out.len
        clear hkp ho
        rcases and_one_i64 on with hk | hk
        · have HC := Lib.hid (does_any (.pointer p0) (.pointer q0) i F0 hb hc rows HA k on x wr.drew HD.out.s0 HD.out.held HD.out.d0h (by omega) (by omega))
          clear hlen hwf
          go_wp2_with fail
          go_region_with (first | (go_at_call 40; with_reducible refine Calls.mono HC.out ?_; rintro e w8 hE; obtain ⟨rfl, F', rows', HA', hc', HI⟩ := hE; replace HI := Lib.hid HI))
          all_goals
            have HI2 := Lib.hid (HD.out.step0 HI.out)
            go_wp2_with fail
            go_roundw
            case rel => exact ⟨i + 1, _, _, _, _, _, by omega, by go_num, HI2⟩
            case measure => (simp [intOf] <;> omega)
        · have HC := Lib.hid (does_any (.pointer p1) (.pointer q1) i F1 hb hc rows HA k on x wr.drew HD.out.s1 HD.out.held HD.out.d1h (by omega) (by omega))
          clear hlen hwf
          go_wp2_with fail
          go_region_with (first | (go_at_call 40; with_reducible refine Calls.mono HC.out ?_; rintro e w8 hE; obtain ⟨rfl, F', rows', HA', hc', HI⟩ := hE; replace HI := Lib.hid HI))
          all_goals
            have HI2 := Lib.hid (HD.out.step1 HI.out)
            go_wp2_with fail
            go_roundw
            case rel => exact ⟨i + 1, _, _, _, _, _, by omega, by go_num, HI2⟩
            case measure => (simp [intOf] <;> omega)
      · obtain rfl : i = ops.length := by omega
        have h0 : wr.cell? ⟨hb, 0, none⟩ = some (.slice HA rows.length hc) := HS.out.held.hW.cellAt 0
        have f0 : wr.frozen? ⟨hb, 0, none⟩ = false := HS.out.held.hW.free 0
        clear hlt hio
        by_cases h40 : 40 < rows.length
        · have h40I : (40 : Int) < (rows.length : Int) := by omega
          have hb9 : 40 ≤ hc ∧ ∃ g, HA = some ⟨g, 0, none⟩ := by
            obtain ⟨g, cs, h1, _, _, h2, h3, _⟩ := own_whole HS.out.held.hO (by omega)
            exact ⟨by omega, g, h1⟩
          obtain ⟨hc40, g, rfl⟩ := hb9
          have hc40I : (40 : Int) ≤ (hc : Int) := by omega
          have HAP := Lib.hid (held_cut HS.out.held h40)
          have HE : Hid (Keeps (HeldIn.foot hb (some ⟨g, 0, none⟩) rows) wr (wr.setCell ⟨hb, 0, none⟩ (.slice (some ⟨g, 0, none⟩) 40 hc))) := Lib.hid ((Keeps.refl _ _).setCell (fun _ => .inl rfl) _)
          go_wp2_with fail
          refine HAP.out.mono ?_
          rintro e w9 ⟨rfl, k9⟩
          have HE2 := Lib.hid (HS.out.fin (HE.out.trans (k9.mono (fun b _ h => .inr (.inr h)))))
          clear k9 h0 f0 HS HE HAP h40I hc40I
          go_wp2_with fail
          go_loopw [13] (fun v wr => ∃ (k : Nat), k ≤ 2 ∧ v = .int .i64 k ∧ Hid (StEnd w wr bs br p0 p1 q0 q1 ops.length F0 F1)) (fun v _ => 2 - (intOf v).toNat)
          case atStart => exact ⟨0, by omega, rfl, HE2⟩
          case round =>
            clear HE2
            obtain ⟨k, hk2, rfl, HE⟩ := hrel
            by_cases hk0 : k = 0
            · subst hk0
              have x0 : wr.cell? ⟨bs, 0, none⟩ = some (.pointer p0) := HE.out.ws.cellAt 0
              have y0 : wr.cell? ⟨br, 0, none⟩ = some (.pointer q0) := HE.out.wr.cellAt 0
              have hs := HE.out.s0
              unfold Side at hs
              rcases hs with ⟨hp, hq, _⟩ | ⟨sp, rp, A, c, l, n, most, D, cd, U, cu, hp, hq, hP, hlm, hmm, _⟩
              · obtain rfl : p0 = none := by injection hp
                obtain rfl : q0 = none := by injection hq
                clear hp hq
                have HF : ∀ W, Keeps (fun _ => False) wr W → W.cell? ⟨bs, 0, none⟩ = some (.pointer none) ∧ W.cell? ⟨br, 0, none⟩ = some (.pointer none) := fun W hW => ⟨(HE.out.ws.keeps hW id).cellAt 0, (HE.out.wr.keeps hW id).cellAt 0⟩
                go_wp2_with fail
                refine wp_region_held_drew (S := fun W => Keeps (fun _ => False) wr W) (by kernel_rfl) ((Keeps.refl _ wr).drew) ?_
                intro hSn
                refine wpAnyH_take (i := 0) (v := ?v1) rfl (by kernel_rfl) (by kernel_rfl) (by kernel_rfl) (fun _ _ _ h => by first | exact h | exact absurd h.1 (fun e => by cases e)) (Or.inl ⟨by rfl, ?hy1⟩) (by assumption) ?rest1
                case hy1 =>
                  intro w hSw
                  obtain ⟨x0, y0⟩ := HF w hSw
                  go_simp
                  try with_reducible rfl
                go_simp
                refine wpAnyH_take (i := 1) (v := ?v2) rfl (by kernel_rfl) (by kernel_rfl) (by kernel_rfl) (fun _ _ _ h => by first | exact h | exact absurd h.1 (fun e => by cases e)) (Or.inl ⟨by rfl, ?hy2⟩) (by assumption) ?rest2
                case hy2 =>
                  intro w hSw
                  obtain ⟨x0, y0⟩ := HF w hSw
                  go_simp
                  try with_reducible rfl
                go_simp
                refine wpAnyH_take (i := 2) (v := ?v3) rfl (by kernel_rfl) (by kernel_rfl) (by kernel_rfl) (fun _ _ _ h => by first | exact h | exact absurd h.1 (fun e => by cases e)) (Or.inl ⟨by rfl, ?hy3⟩) (by assumption) ?rest3
                case hy3 =>
                  intro w hSw
                  obtain ⟨x0, y0⟩ := HF w hSw
                  go_simp
                  try with_reducible rfl
                go_simp
                refine wpAnyH_take (i := 3) (v := ?v4) rfl (by kernel_rfl) (by kernel_rfl) (by kernel_rfl) (fun _ _ _ h => by first | exact h | exact absurd h.1 (fun e => by cases e)) (Or.inl ⟨by rfl, ?hy4⟩) (by assumption) ?rest4
                case hy4 =>
                  intro w hSw
                  obtain ⟨x0, y0⟩ := HF w hSw
                  go_simp
                  try with_reducible rfl
                go_simp
                refine wpAnyH_take (i := 4) (v := ?v5) rfl (by kernel_rfl) (by kernel_rfl) (by kernel_rfl) (fun _ _ _ h => by first | exact h | exact absurd h.1 (fun e => by cases e)) (Or.inl ⟨by rfl, ?hy5⟩) (by assumption) ?rest5
                case hy5 =>
                  intro w hSw
                  obtain ⟨x0, y0⟩ := HF w hSw
                  go_simp
                  try with_reducible rfl
                go_simp
                refine wpAnyH_take (i := 5) (v := undef) rfl (by kernel_rfl) (by kernel_rfl) (by kernel_rfl) (fun _ _ _ h => by first | exact h | exact absurd h.1 (fun e => by cases e)) (Or.inr ⟨by rfl, rfl⟩) (by assumption) ?rest6
                go_simp
                refine wpAnyH_take (i := 6) (v := undef) rfl (by kernel_rfl) (by kernel_rfl) (by kernel_rfl) (fun _ _ _ h => by first | exact h | exact absurd h.1 (fun e => by cases e)) (Or.inr ⟨by rfl, rfl⟩) (by assumption) ?rest7
                go_simp
                refine wpAnyH_take (i := 7) (v := undef) rfl (by kernel_rfl) (by kernel_rfl) (by kernel_rfl) (fun _ _ _ h => by first | exact h | exact absurd h.1 (fun e => by cases e)) (Or.inr ⟨by rfl, rfl⟩) (by assumption) ?rest8
                go_simp
                refine wpAnyH_take (i := 8) (v := undef) rfl (by kernel_rfl) (by kernel_rfl) (by kernel_rfl) (fun _ _ _ h => by first | exact h | exact absurd h.1 (fun e => by cases e)) (Or.inr ⟨by rfl, rfl⟩) (by assumption) ?rest9
                go_simp
                refine wpAnyH_take (i := 9) (v := undef) rfl (by kernel_rfl) (by kernel_rfl) (by kernel_rfl) (fun _ _ _ h => by first | exact h | exact absurd h.1 (fun e => by cases e)) (Or.inr ⟨by rfl, rfl⟩) (by assumption) ?rest10
                go_simp
                refine wpAnyH_take (i := 10) (v := undef) rfl (by kernel_rfl) (by kernel_rfl) (by kernel_rfl) (fun _ _ _ h => by first | exact h | exact absurd h.1 (fun e => by cases e)) (Or.inr ⟨by rfl, rfl⟩) (by assumption) ?rest11
                go_simp
                refine wpAnyH_take (i := 11) (v := undef) rfl (by kernel_rfl) (by kernel_rfl) (by kernel_rfl) (fun _ _ _ h => by first | exact h | exact absurd h.1 (fun e => by cases e)) (Or.inr ⟨by rfl, rfl⟩) (by assumption) ?rest12
                go_simp
                refine wpAnyH_take (i := 12) (v := undef) rfl (by kernel_rfl) (by kernel_rfl) (by kernel_rfl) (fun _ _ _ h => by first | exact h | exact absurd h.1 (fun e => by cases e)) (Or.inr ⟨by rfl, rfl⟩) (by assumption) ?rest13
                go_simp
                refine wpAnyH_take (i := 13) (v := undef) rfl (by kernel_rfl) (by kernel_rfl) (by kernel_rfl) (fun _ _ _ h => by first | exact h | exact absurd h.1 (fun e => by cases e)) (Or.inr ⟨by rfl, rfl⟩) (by assumption) ?rest14
                go_simp
                refine wpAnyH_take (i := 14) (v := undef) rfl (by kernel_rfl) (by kernel_rfl) (by kernel_rfl) (fun _ _ _ h => by first | exact h | exact absurd h.1 (fun e => by cases e)) (Or.inr ⟨by rfl, rfl⟩) (by assumption) ?rest15
                go_simp
                refine wpAnyH_take (i := 15) (v := undef) rfl (by kernel_rfl) (by kernel_rfl) (by kernel_rfl) (fun _ _ _ h => by first | exact h | exact absurd h.1 (fun e => by cases e)) (Or.inr ⟨by rfl, rfl⟩) (by assumption) ?rest16
                go_simp
                refine wpAnyH_take (i := 16) (v := undef) rfl (by kernel_rfl) (by kernel_rfl) (by kernel_rfl) (fun _ _ _ h => by first | exact h | exact absurd h.1 (fun e => by cases e)) (Or.inr ⟨by rfl, rfl⟩) (by assumption) ?rest17
                go_simp
                refine wpAnyH_take (i := 17) (v := ?v18) rfl (by kernel_rfl) (by kernel_rfl) (by kernel_rfl) (fun _ _ _ h => by first | exact h | exact absurd h.1 (fun e => by cases e)) (Or.inl ⟨by rfl, ?hy18⟩) (by assumption) ?rest18
                case hy18 =>
                  intro w hSw
                  obtain ⟨x0, y0⟩ := HF w hSw
                  go_simp
                  try with_reducible rfl
                go_simp
                refine wpAnyH_done (by kernel_rfl) ?_ _
                have D2 := Lib.hid (HE.out.calm hSn)
                clear hSn
                go_simp
                go_wp2_with fail
                go_roundw
                case rel => exact ⟨1, by omega, by go_num, D2⟩
                case measure => (simp [intOf] <;> omega)
              · obtain rfl : p0 = some ⟨sp, 0, none⟩ := by injection hp
                obtain rfl : q0 = some ⟨rp, 0, none⟩ := by injection hq
                clear hp hq
                have hle := hP.st.le
                have HP := Lib.hid hP
                have HLN : Hid ((l.take n).length = n) := Lib.hid (by rw [List.length_take]; omega)
                have HF : ∀ W, Keeps (fun _ => False) wr W → W.cell? ⟨bs, 0, none⟩ = some (.pointer (some ⟨sp, 0, none⟩)) ∧ W.cell? ⟨br, 0, none⟩ = some (.pointer (some ⟨rp, 0, none⟩)) ∧ W.cell? ⟨rp, 1, none⟩ = some (.slice D n cd) := fun W hW => ⟨(HE.out.ws.keeps hW id).cellAt 0, (HE.out.wr.keeps hW id).cellAt 0, by have h : W.cell? ⟨rp, 1, none⟩ = some (.slice D (l.take n).length cd) := (HP.out.calm hW (fun _ _ h => h)).re.box.cellAt 1; rw [HLN.out] at h; exact h⟩
                have HDN : Hid (∀ W, Keeps (fun _ => False) wr W → Calls Try.prog 41 #[.pointer (some ⟨sp, 0, none⟩)] W fun e w' => ∃ A' c', e = .returned (.slice A' n c') ∧ Lies w' w'.heap.size A' ((l.take n).map (Value.int .i64)) ∧ Keeps (fun _ => False) W w') := Lib.hid (fun W hW => (doneI_any sp c n most A l W (HP.out.calm hW (fun _ _ h => h)).st (by omega)).mono (fun e w' h => by
                  obtain ⟨A', c', he, hm⟩ := h
                  rw [HLN.out] at he
                  exact ⟨A', c', he, hm.lies, hm.keeps⟩))
                have HSM : Hid (∀ (A' : Option Addr) (c' : Nat) (W : World), Keeps (fun _ => False) wr W → Lies W W.heap.size A' ((l.take n).map (Value.int .i64)) → Calls Try.prog 28 #[.slice A' n c', .slice D n cd] W fun e w' => e = .returned (.bool true) ∧ Keeps (fun _ => False) W w') := Lib.hid (fun A' c' W hW hl => by
                  have h3 := rsame_eq (l.take n) A' D W.heap.size W.heap.size c' cd W hl (own_lies (HP.out.calm hW (fun _ _ h => h)).re.done) (by have := HLN.out; omega)
                  rw [HLN.out] at h3
                  exact h3)
                clear hP hle hlm hmm
                go_wp2_with fail
                refine wp_region_held_drew (S := fun W => Keeps (fun _ => False) wr W) (by kernel_rfl) ((Keeps.refl _ wr).drew) ?_
                intro hSn
                refine wpAnyH_take (i := 0) (v := ?v19) rfl (by kernel_rfl) (by kernel_rfl) (by kernel_rfl) (fun _ _ _ h => by first | exact h | exact absurd h.1 (fun e => by cases e)) (Or.inl ⟨by rfl, ?hy19⟩) (by assumption) ?rest19
                case hy19 =>
                  intro w hSw
                  obtain ⟨x0, y0, z0⟩ := HF w hSw
                  go_simp
                  try with_reducible rfl
                go_simp
                refine wpAnyH_take (i := 1) (v := ?v20) rfl (by kernel_rfl) (by kernel_rfl) (by kernel_rfl) (fun _ _ _ h => by first | exact h | exact absurd h.1 (fun e => by cases e)) (Or.inl ⟨by rfl, ?hy20⟩) (by assumption) ?rest20
                case hy20 =>
                  intro w hSw
                  obtain ⟨x0, y0, z0⟩ := HF w hSw
                  go_simp
                  try with_reducible rfl
                go_simp
                refine wpAnyH_take (i := 2) (v := ?v21) rfl (by kernel_rfl) (by kernel_rfl) (by kernel_rfl) (fun _ _ _ h => by first | exact h | exact absurd h.1 (fun e => by cases e)) (Or.inl ⟨by rfl, ?hy21⟩) (by assumption) ?rest21
                case hy21 =>
                  intro w hSw
                  obtain ⟨x0, y0, z0⟩ := HF w hSw
                  go_simp
                  try with_reducible rfl
                go_simp
                refine wpAnyH_take (i := 3) (v := ?v22) rfl (by kernel_rfl) (by kernel_rfl) (by kernel_rfl) (fun _ _ _ h => by first | exact h | exact absurd h.1 (fun e => by cases e)) (Or.inl ⟨by rfl, ?hy22⟩) (by assumption) ?rest22
                case hy22 =>
                  intro w hSw
                  obtain ⟨x0, y0, z0⟩ := HF w hSw
                  go_simp
                  try with_reducible rfl
                go_simp
                refine wpAnyH_take (i := 4) (v := ?v23) rfl (by kernel_rfl) (by kernel_rfl) (by kernel_rfl) (fun _ _ _ h => by first | exact h | exact absurd h.1 (fun e => by cases e)) (Or.inl ⟨by rfl, ?hy23⟩) (by assumption) ?rest23
                case hy23 =>
                  intro w hSw
                  obtain ⟨x0, y0, z0⟩ := HF w hSw
                  go_simp
                  try with_reducible rfl
                go_simp
                refine wpAnyH_take (i := 5) (v := ?v24) rfl (by kernel_rfl) (by kernel_rfl) (by kernel_rfl) (fun _ _ _ h => by first | exact h | exact absurd h.1 (fun e => by cases e)) (Or.inl ⟨by rfl, ?hy24⟩) (by assumption) ?rest24
                case hy24 =>
                  intro w hSw
                  obtain ⟨x0, y0, z0⟩ := HF w hSw
                  go_simp
                  try with_reducible rfl
                go_simp
                refine wpAnyH_take (i := 6) (v := ?v25) rfl (by kernel_rfl) (by kernel_rfl) (by kernel_rfl) (fun _ _ _ h => by first | exact h | exact absurd h.1 (fun e => by cases e)) (Or.inl ⟨by rfl, ?hy25⟩) (by assumption) ?rest25
                case hy25 =>
                  intro w hSw
                  obtain ⟨x0, y0, z0⟩ := HF w hSw
                  go_simp
                  try with_reducible rfl
                go_simp
                refine wpAnyH_take (i := 7) (v := ?v26) rfl (by kernel_rfl) (by kernel_rfl) (by kernel_rfl) (fun _ _ _ h => by first | exact h | exact absurd h.1 (fun e => by cases e)) (Or.inl ⟨by rfl, ?hy26⟩) (by assumption) ?rest26
                case hy26 =>
                  intro w hSw
                  obtain ⟨x0, y0, z0⟩ := HF w hSw
                  go_simp
                  try with_reducible rfl
                go_simp
                refine wpAnyH_take (i := 9) (v := ?v27) rfl (by kernel_rfl) (by kernel_rfl) (by kernel_rfl) (fun _ _ _ h => by first | exact h | exact absurd h.1 (fun e => by cases e)) (Or.inl ⟨by rfl, ?hy27⟩) (by assumption) ?rest27
                case hy27 =>
                  intro w hSw
                  obtain ⟨x0, y0, z0⟩ := HF w hSw
                  go_simp
                  try with_reducible rfl
                go_simp
                refine wpAnyH_take (i := 10) (v := ?v28) rfl (by kernel_rfl) (by kernel_rfl) (by kernel_rfl) (fun _ _ _ h => by first | exact h | exact absurd h.1 (fun e => by cases e)) (Or.inl ⟨by rfl, ?hy28⟩) (by assumption) ?rest28
                case hy28 =>
                  intro w hSw
                  obtain ⟨x0, y0, z0⟩ := HF w hSw
                  go_simp
                  try with_reducible rfl
                go_simp
                refine wpAnyH_take (i := 11) (v := ?v29) rfl (by kernel_rfl) (by kernel_rfl) (by kernel_rfl) (fun _ _ _ h => by first | exact h | exact absurd h.1 (fun e => by cases e)) (Or.inl ⟨by rfl, ?hy29⟩) (by assumption) ?rest29
                case hy29 =>
                  intro w hSw
                  obtain ⟨x0, y0, z0⟩ := HF w hSw
                  go_simp
                  try with_reducible rfl
                go_simp
                refine wpAnyH_take (i := 12) (v := ?v30) rfl (by kernel_rfl) (by kernel_rfl) (by kernel_rfl) (fun _ _ _ h => by first | exact h | exact absurd h.1 (fun e => by cases e)) (Or.inl ⟨by rfl, ?hy30⟩) (by assumption) ?rest30
                case hy30 =>
                  intro w hSw
                  obtain ⟨x0, y0, z0⟩ := HF w hSw
                  go_simp
                  try with_reducible rfl
                go_simp
                refine wpAnyH_take (i := 13) (v := ?v31) rfl (by kernel_rfl) (by kernel_rfl) (by kernel_rfl) (fun _ _ _ h => by first | exact h | exact absurd h.1 (fun e => by cases e)) (Or.inl ⟨by rfl, ?hy31⟩) (by assumption) ?rest31
                case hy31 =>
                  intro w hSw
                  obtain ⟨x0, y0, z0⟩ := HF w hSw
                  go_simp
                  try with_reducible rfl
                go_simp
                refine wpAnyH_take (i := 14) (v := ?v32) rfl (by kernel_rfl) (by kernel_rfl) (by kernel_rfl) (fun _ _ _ h => by first | exact h | exact absurd h.1 (fun e => by cases e)) (Or.inl ⟨by rfl, ?hy32⟩) (by assumption) ?rest32
                case hy32 =>
                  intro w hSw
                  obtain ⟨x0, y0, z0⟩ := HF w hSw
                  go_simp
                  try with_reducible rfl
                go_simp
                refine wpAnyH_ready (rs := [8]) (by kernel_rfl) (by simp) ?_
                refine AllReadyH.cons rfl (fun K hK => ?_) AllReadyH.nil
                go_simp
                refine (HDN.out _ hSn).mono ?_
                rintro e v2 ⟨A8, c8, rfl, hl8, k8⟩
                have hl8k := hSn.trans k8
                refine hK.out _ _ (hSn.trans k8) (fun hSn => ?_)
                clear hK K
                go_simp
                refine wpAnyH_ready (rs := [15]) (by kernel_rfl) (by simp) ?_
                refine AllReadyH.cons rfl (fun K hK => ?_) AllReadyH.nil
                go_simp
                refine (HSM.out A8 c8 v2 hl8k hl8).mono ?_
                rintro e v3 ⟨rfl, k9⟩
                refine hK.out _ _ (hSn.trans k9) (fun hSn => ?_)
                clear hK K
                go_simp
                refine wpAnyH_take (i := 16) (v := ?v33) rfl (by kernel_rfl) (by kernel_rfl) (by kernel_rfl) (fun _ _ _ h => by first | exact h | exact absurd h.1 (fun e => by cases e)) (Or.inl ⟨by rfl, ?hy33⟩) (by assumption) ?rest33
                case hy33 =>
                  intro w hSw
                  obtain ⟨x0, y0, z0⟩ := HF w hSw
                  go_simp
                  try with_reducible rfl
                go_simp
                refine wpAnyH_take (i := 17) (v := ?v34) rfl (by kernel_rfl) (by kernel_rfl) (by kernel_rfl) (fun _ _ _ h => by first | exact h | exact absurd h.1 (fun e => by cases e)) (Or.inl ⟨by rfl, ?hy34⟩) (by assumption) ?rest34
                case hy34 =>
                  intro w hSw
                  obtain ⟨x0, y0, z0⟩ := HF w hSw
                  go_simp
                  try with_reducible rfl
                go_simp
                refine wpAnyH_done (by kernel_rfl) ?_ _
                have D2 := Lib.hid (HE.out.calm hSn)
                clear hSn hl8 hl8k k8 k9
                go_simp
                go_wp2_with fail
                go_roundw
                case rel => exact ⟨1, by omega, by go_num, D2⟩
                case measure => (simp [intOf] <;> omega)
            · by_cases hk1 : k = 1
              · subst hk1
                have x0 : wr.cell? ⟨bs, 1, none⟩ = some (.pointer p1) := HE.out.ws.cellAt 1
                have y0 : wr.cell? ⟨br, 1, none⟩ = some (.pointer q1) := HE.out.wr.cellAt 1
                have hs := HE.out.s1
                unfold Side at hs
                rcases hs with ⟨hp, hq, _⟩ | ⟨sp, rp, A, c, l, n, most, D, cd, U, cu, hp, hq, hP, hlm, hmm, _⟩
                · obtain rfl : p1 = none := by injection hp
                  obtain rfl : q1 = none := by injection hq
                  clear hp hq
                  have HF : ∀ W, Keeps (fun _ => False) wr W → W.cell? ⟨bs, 1, none⟩ = some (.pointer none) ∧ W.cell? ⟨br, 1, none⟩ = some (.pointer none) := fun W hW => ⟨(HE.out.ws.keeps hW id).cellAt 1, (HE.out.wr.keeps hW id).cellAt 1⟩
                  go_wp2_with fail
                  refine wp_region_held_drew (S := fun W => Keeps (fun _ => False) wr W) (by kernel_rfl) ((Keeps.refl _ wr).drew) ?_
                  intro hSn
                  refine wpAnyH_take (i := 0) (v := ?v35) rfl (by kernel_rfl) (by kernel_rfl) (by kernel_rfl) (fun _ _ _ h => by first | exact h | exact absurd h.1 (fun e => by cases e)) (Or.inl ⟨by rfl, ?hy35⟩) (by assumption) ?rest35
                  case hy35 =>
                    intro w hSw
                    obtain ⟨x0, y0⟩ := HF w hSw
                    go_simp
                    try with_reducible rfl
                  go_simp
                  refine wpAnyH_take (i := 1) (v := ?v36) rfl (by kernel_rfl) (by kernel_rfl) (by kernel_rfl) (fun _ _ _ h => by first | exact h | exact absurd h.1 (fun e => by cases e)) (Or.inl ⟨by rfl, ?hy36⟩) (by assumption) ?rest36
                  case hy36 =>
                    intro w hSw
                    obtain ⟨x0, y0⟩ := HF w hSw
                    go_simp
                    try with_reducible rfl
                  go_simp
                  refine wpAnyH_take (i := 2) (v := ?v37) rfl (by kernel_rfl) (by kernel_rfl) (by kernel_rfl) (fun _ _ _ h => by first | exact h | exact absurd h.1 (fun e => by cases e)) (Or.inl ⟨by rfl, ?hy37⟩) (by assumption) ?rest37
                  case hy37 =>
                    intro w hSw
                    obtain ⟨x0, y0⟩ := HF w hSw
                    go_simp
                    try with_reducible rfl
                  go_simp
                  refine wpAnyH_take (i := 3) (v := ?v38) rfl (by kernel_rfl) (by kernel_rfl) (by kernel_rfl) (fun _ _ _ h => by first | exact h | exact absurd h.1 (fun e => by cases e)) (Or.inl ⟨by rfl, ?hy38⟩) (by assumption) ?rest38
                  case hy38 =>
                    intro w hSw
                    obtain ⟨x0, y0⟩ := HF w hSw
                    go_simp
                    try with_reducible rfl
                  go_simp
                  refine wpAnyH_take (i := 4) (v := ?v39) rfl (by kernel_rfl) (by kernel_rfl) (by kernel_rfl) (fun _ _ _ h => by first | exact h | exact absurd h.1 (fun e => by cases e)) (Or.inl ⟨by rfl, ?hy39⟩) (by assumption) ?rest39
                  case hy39 =>
                    intro w hSw
                    obtain ⟨x0, y0⟩ := HF w hSw
                    go_simp
                    try with_reducible rfl
                  go_simp
                  refine wpAnyH_take (i := 5) (v := undef) rfl (by kernel_rfl) (by kernel_rfl) (by kernel_rfl) (fun _ _ _ h => by first | exact h | exact absurd h.1 (fun e => by cases e)) (Or.inr ⟨by rfl, rfl⟩) (by assumption) ?rest40
                  go_simp
                  refine wpAnyH_take (i := 6) (v := undef) rfl (by kernel_rfl) (by kernel_rfl) (by kernel_rfl) (fun _ _ _ h => by first | exact h | exact absurd h.1 (fun e => by cases e)) (Or.inr ⟨by rfl, rfl⟩) (by assumption) ?rest41
                  go_simp
                  refine wpAnyH_take (i := 7) (v := undef) rfl (by kernel_rfl) (by kernel_rfl) (by kernel_rfl) (fun _ _ _ h => by first | exact h | exact absurd h.1 (fun e => by cases e)) (Or.inr ⟨by rfl, rfl⟩) (by assumption) ?rest42
                  go_simp
                  refine wpAnyH_take (i := 8) (v := undef) rfl (by kernel_rfl) (by kernel_rfl) (by kernel_rfl) (fun _ _ _ h => by first | exact h | exact absurd h.1 (fun e => by cases e)) (Or.inr ⟨by rfl, rfl⟩) (by assumption) ?rest43
                  go_simp
                  refine wpAnyH_take (i := 9) (v := undef) rfl (by kernel_rfl) (by kernel_rfl) (by kernel_rfl) (fun _ _ _ h => by first | exact h | exact absurd h.1 (fun e => by cases e)) (Or.inr ⟨by rfl, rfl⟩) (by assumption) ?rest44
                  go_simp
                  refine wpAnyH_take (i := 10) (v := undef) rfl (by kernel_rfl) (by kernel_rfl) (by kernel_rfl) (fun _ _ _ h => by first | exact h | exact absurd h.1 (fun e => by cases e)) (Or.inr ⟨by rfl, rfl⟩) (by assumption) ?rest45
                  go_simp
                  refine wpAnyH_take (i := 11) (v := undef) rfl (by kernel_rfl) (by kernel_rfl) (by kernel_rfl) (fun _ _ _ h => by first | exact h | exact absurd h.1 (fun e => by cases e)) (Or.inr ⟨by rfl, rfl⟩) (by assumption) ?rest46
                  go_simp
                  refine wpAnyH_take (i := 12) (v := undef) rfl (by kernel_rfl) (by kernel_rfl) (by kernel_rfl) (fun _ _ _ h => by first | exact h | exact absurd h.1 (fun e => by cases e)) (Or.inr ⟨by rfl, rfl⟩) (by assumption) ?rest47
                  go_simp
                  refine wpAnyH_take (i := 13) (v := undef) rfl (by kernel_rfl) (by kernel_rfl) (by kernel_rfl) (fun _ _ _ h => by first | exact h | exact absurd h.1 (fun e => by cases e)) (Or.inr ⟨by rfl, rfl⟩) (by assumption) ?rest48
                  go_simp
                  refine wpAnyH_take (i := 14) (v := undef) rfl (by kernel_rfl) (by kernel_rfl) (by kernel_rfl) (fun _ _ _ h => by first | exact h | exact absurd h.1 (fun e => by cases e)) (Or.inr ⟨by rfl, rfl⟩) (by assumption) ?rest49
                  go_simp
                  refine wpAnyH_take (i := 15) (v := undef) rfl (by kernel_rfl) (by kernel_rfl) (by kernel_rfl) (fun _ _ _ h => by first | exact h | exact absurd h.1 (fun e => by cases e)) (Or.inr ⟨by rfl, rfl⟩) (by assumption) ?rest50
                  go_simp
                  refine wpAnyH_take (i := 16) (v := undef) rfl (by kernel_rfl) (by kernel_rfl) (by kernel_rfl) (fun _ _ _ h => by first | exact h | exact absurd h.1 (fun e => by cases e)) (Or.inr ⟨by rfl, rfl⟩) (by assumption) ?rest51
                  go_simp
                  refine wpAnyH_take (i := 17) (v := ?v52) rfl (by kernel_rfl) (by kernel_rfl) (by kernel_rfl) (fun _ _ _ h => by first | exact h | exact absurd h.1 (fun e => by cases e)) (Or.inl ⟨by rfl, ?hy52⟩) (by assumption) ?rest52
                  case hy52 =>
                    intro w hSw
                    obtain ⟨x0, y0⟩ := HF w hSw
                    go_simp
                    try with_reducible rfl
                  go_simp
                  refine wpAnyH_done (by kernel_rfl) ?_ _
                  have D2 := Lib.hid (HE.out.calm hSn)
                  clear hSn
                  go_simp
                  go_wp2_with fail
                  go_roundw
                  case rel => exact ⟨2, by omega, by go_num, D2⟩
                  case measure => (simp [intOf] <;> omega)
                · obtain rfl : p1 = some ⟨sp, 0, none⟩ := by injection hp
                  obtain rfl : q1 = some ⟨rp, 0, none⟩ := by injection hq
                  clear hp hq
                  have hle := hP.st.le
                  have HP := Lib.hid hP
                  have HLN : Hid ((l.take n).length = n) := Lib.hid (by rw [List.length_take]; omega)
                  have HF : ∀ W, Keeps (fun _ => False) wr W → W.cell? ⟨bs, 1, none⟩ = some (.pointer (some ⟨sp, 0, none⟩)) ∧ W.cell? ⟨br, 1, none⟩ = some (.pointer (some ⟨rp, 0, none⟩)) ∧ W.cell? ⟨rp, 1, none⟩ = some (.slice D n cd) := fun W hW => ⟨(HE.out.ws.keeps hW id).cellAt 1, (HE.out.wr.keeps hW id).cellAt 1, by have h : W.cell? ⟨rp, 1, none⟩ = some (.slice D (l.take n).length cd) := (HP.out.calm hW (fun _ _ h => h)).re.box.cellAt 1; rw [HLN.out] at h; exact h⟩
                  have HDN : Hid (∀ W, Keeps (fun _ => False) wr W → Calls Try.prog 41 #[.pointer (some ⟨sp, 0, none⟩)] W fun e w' => ∃ A' c', e = .returned (.slice A' n c') ∧ Lies w' w'.heap.size A' ((l.take n).map (Value.int .i64)) ∧ Keeps (fun _ => False) W w') := Lib.hid (fun W hW => (doneI_any sp c n most A l W (HP.out.calm hW (fun _ _ h => h)).st (by omega)).mono (fun e w' h => by
                    obtain ⟨A', c', he, hm⟩ := h
                    rw [HLN.out] at he
                    exact ⟨A', c', he, hm.lies, hm.keeps⟩))
                  have HSM : Hid (∀ (A' : Option Addr) (c' : Nat) (W : World), Keeps (fun _ => False) wr W → Lies W W.heap.size A' ((l.take n).map (Value.int .i64)) → Calls Try.prog 28 #[.slice A' n c', .slice D n cd] W fun e w' => e = .returned (.bool true) ∧ Keeps (fun _ => False) W w') := Lib.hid (fun A' c' W hW hl => by
                    have h3 := rsame_eq (l.take n) A' D W.heap.size W.heap.size c' cd W hl (own_lies (HP.out.calm hW (fun _ _ h => h)).re.done) (by have := HLN.out; omega)
                    rw [HLN.out] at h3
                    exact h3)
                  clear hP hle hlm hmm
                  go_wp2_with fail
                  refine wp_region_held_drew (S := fun W => Keeps (fun _ => False) wr W) (by kernel_rfl) ((Keeps.refl _ wr).drew) ?_
                  intro hSn
                  refine wpAnyH_take (i := 0) (v := ?v53) rfl (by kernel_rfl) (by kernel_rfl) (by kernel_rfl) (fun _ _ _ h => by first | exact h | exact absurd h.1 (fun e => by cases e)) (Or.inl ⟨by rfl, ?hy53⟩) (by assumption) ?rest53
                  case hy53 =>
                    intro w hSw
                    obtain ⟨x0, y0, z0⟩ := HF w hSw
                    go_simp
                    try with_reducible rfl
                  go_simp
                  refine wpAnyH_take (i := 1) (v := ?v54) rfl (by kernel_rfl) (by kernel_rfl) (by kernel_rfl) (fun _ _ _ h => by first | exact h | exact absurd h.1 (fun e => by cases e)) (Or.inl ⟨by rfl, ?hy54⟩) (by assumption) ?rest54
                  case hy54 =>
                    intro w hSw
                    obtain ⟨x0, y0, z0⟩ := HF w hSw
                    go_simp
                    try with_reducible rfl
                  go_simp
                  refine wpAnyH_take (i := 2) (v := ?v55) rfl (by kernel_rfl) (by kernel_rfl) (by kernel_rfl) (fun _ _ _ h => by first | exact h | exact absurd h.1 (fun e => by cases e)) (Or.inl ⟨by rfl, ?hy55⟩) (by assumption) ?rest55
                  case hy55 =>
                    intro w hSw
                    obtain ⟨x0, y0, z0⟩ := HF w hSw
                    go_simp
                    try with_reducible rfl
                  go_simp
                  refine wpAnyH_take (i := 3) (v := ?v56) rfl (by kernel_rfl) (by kernel_rfl) (by kernel_rfl) (fun _ _ _ h => by first | exact h | exact absurd h.1 (fun e => by cases e)) (Or.inl ⟨by rfl, ?hy56⟩) (by assumption) ?rest56
                  case hy56 =>
                    intro w hSw
                    obtain ⟨x0, y0, z0⟩ := HF w hSw
                    go_simp
                    try with_reducible rfl
                  go_simp
                  refine wpAnyH_take (i := 4) (v := ?v57) rfl (by kernel_rfl) (by kernel_rfl) (by kernel_rfl) (fun _ _ _ h => by first | exact h | exact absurd h.1 (fun e => by cases e)) (Or.inl ⟨by rfl, ?hy57⟩) (by assumption) ?rest57
                  case hy57 =>
                    intro w hSw
                    obtain ⟨x0, y0, z0⟩ := HF w hSw
                    go_simp
                    try with_reducible rfl
                  go_simp
                  refine wpAnyH_take (i := 5) (v := ?v58) rfl (by kernel_rfl) (by kernel_rfl) (by kernel_rfl) (fun _ _ _ h => by first | exact h | exact absurd h.1 (fun e => by cases e)) (Or.inl ⟨by rfl, ?hy58⟩) (by assumption) ?rest58
                  case hy58 =>
                    intro w hSw
                    obtain ⟨x0, y0, z0⟩ := HF w hSw
                    go_simp
                    try with_reducible rfl
                  go_simp
                  refine wpAnyH_take (i := 6) (v := ?v59) rfl (by kernel_rfl) (by kernel_rfl) (by kernel_rfl) (fun _ _ _ h => by first | exact h | exact absurd h.1 (fun e => by cases e)) (Or.inl ⟨by rfl, ?hy59⟩) (by assumption) ?rest59
                  case hy59 =>
                    intro w hSw
                    obtain ⟨x0, y0, z0⟩ := HF w hSw
                    go_simp
                    try with_reducible rfl
                  go_simp
                  refine wpAnyH_take (i := 7) (v := ?v60) rfl (by kernel_rfl) (by kernel_rfl) (by kernel_rfl) (fun _ _ _ h => by first | exact h | exact absurd h.1 (fun e => by cases e)) (Or.inl ⟨by rfl, ?hy60⟩) (by assumption) ?rest60
                  case hy60 =>
                    intro w hSw
                    obtain ⟨x0, y0, z0⟩ := HF w hSw
                    go_simp
                    try with_reducible rfl
                  go_simp
                  refine wpAnyH_take (i := 9) (v := ?v61) rfl (by kernel_rfl) (by kernel_rfl) (by kernel_rfl) (fun _ _ _ h => by first | exact h | exact absurd h.1 (fun e => by cases e)) (Or.inl ⟨by rfl, ?hy61⟩) (by assumption) ?rest61
                  case hy61 =>
                    intro w hSw
                    obtain ⟨x0, y0, z0⟩ := HF w hSw
                    go_simp
                    try with_reducible rfl
                  go_simp
                  refine wpAnyH_take (i := 10) (v := ?v62) rfl (by kernel_rfl) (by kernel_rfl) (by kernel_rfl) (fun _ _ _ h => by first | exact h | exact absurd h.1 (fun e => by cases e)) (Or.inl ⟨by rfl, ?hy62⟩) (by assumption) ?rest62
                  case hy62 =>
                    intro w hSw
                    obtain ⟨x0, y0, z0⟩ := HF w hSw
                    go_simp
                    try with_reducible rfl
                  go_simp
                  refine wpAnyH_take (i := 11) (v := ?v63) rfl (by kernel_rfl) (by kernel_rfl) (by kernel_rfl) (fun _ _ _ h => by first | exact h | exact absurd h.1 (fun e => by cases e)) (Or.inl ⟨by rfl, ?hy63⟩) (by assumption) ?rest63
                  case hy63 =>
                    intro w hSw
                    obtain ⟨x0, y0, z0⟩ := HF w hSw
                    go_simp
                    try with_reducible rfl
                  go_simp
                  refine wpAnyH_take (i := 12) (v := ?v64) rfl (by kernel_rfl) (by kernel_rfl) (by kernel_rfl) (fun _ _ _ h => by first | exact h | exact absurd h.1 (fun e => by cases e)) (Or.inl ⟨by rfl, ?hy64⟩) (by assumption) ?rest64
                  case hy64 =>
                    intro w hSw
                    obtain ⟨x0, y0, z0⟩ := HF w hSw
                    go_simp
                    try with_reducible rfl
                  go_simp
                  refine wpAnyH_take (i := 13) (v := ?v65) rfl (by kernel_rfl) (by kernel_rfl) (by kernel_rfl) (fun _ _ _ h => by first | exact h | exact absurd h.1 (fun e => by cases e)) (Or.inl ⟨by rfl, ?hy65⟩) (by assumption) ?rest65
                  case hy65 =>
                    intro w hSw
                    obtain ⟨x0, y0, z0⟩ := HF w hSw
                    go_simp
                    try with_reducible rfl
                  go_simp
                  refine wpAnyH_take (i := 14) (v := ?v66) rfl (by kernel_rfl) (by kernel_rfl) (by kernel_rfl) (fun _ _ _ h => by first | exact h | exact absurd h.1 (fun e => by cases e)) (Or.inl ⟨by rfl, ?hy66⟩) (by assumption) ?rest66
                  case hy66 =>
                    intro w hSw
                    obtain ⟨x0, y0, z0⟩ := HF w hSw
                    go_simp
                    try with_reducible rfl
                  go_simp
                  refine wpAnyH_ready (rs := [8]) (by kernel_rfl) (by simp) ?_
                  refine AllReadyH.cons rfl (fun K hK => ?_) AllReadyH.nil
                  go_simp
                  refine (HDN.out _ hSn).mono ?_
                  rintro e v2 ⟨A8, c8, rfl, hl8, k8⟩
                  have hl8k := hSn.trans k8
                  refine hK.out _ _ (hSn.trans k8) (fun hSn => ?_)
                  clear hK K
                  go_simp
                  refine wpAnyH_ready (rs := [15]) (by kernel_rfl) (by simp) ?_
                  refine AllReadyH.cons rfl (fun K hK => ?_) AllReadyH.nil
                  go_simp
                  refine (HSM.out A8 c8 v2 hl8k hl8).mono ?_
                  rintro e v3 ⟨rfl, k9⟩
                  refine hK.out _ _ (hSn.trans k9) (fun hSn => ?_)
                  clear hK K
                  go_simp
                  refine wpAnyH_take (i := 16) (v := ?v67) rfl (by kernel_rfl) (by kernel_rfl) (by kernel_rfl) (fun _ _ _ h => by first | exact h | exact absurd h.1 (fun e => by cases e)) (Or.inl ⟨by rfl, ?hy67⟩) (by assumption) ?rest67
                  case hy67 =>
                    intro w hSw
                    obtain ⟨x0, y0, z0⟩ := HF w hSw
                    go_simp
                    try with_reducible rfl
                  go_simp
                  refine wpAnyH_take (i := 17) (v := ?v68) rfl (by kernel_rfl) (by kernel_rfl) (by kernel_rfl) (fun _ _ _ h => by first | exact h | exact absurd h.1 (fun e => by cases e)) (Or.inl ⟨by rfl, ?hy68⟩) (by assumption) ?rest68
                  case hy68 =>
                    intro w hSw
                    obtain ⟨x0, y0, z0⟩ := HF w hSw
                    go_simp
                    try with_reducible rfl
                  go_simp
                  refine wpAnyH_done (by kernel_rfl) ?_ _
                  have D2 := Lib.hid (HE.out.calm hSn)
                  clear hSn hl8 hl8k k8 k9
                  go_simp
                  go_wp2_with fail
                  go_roundw
                  case rel => exact ⟨2, by omega, by go_num, D2⟩
                  case measure => (simp [intOf] <;> omega)
              · obtain rfl : k = 2 := by omega
                have HK := Lib.hid HE.out.keeps
                clear HE
                have a3 : (wr.alloc (.cells #[.slice none 0 0, .int .i64 0, .int .i64 0, .bool false] 83)).cell? ⟨wr.heap.size, 3, none⟩ = some (.bool false) := (Whole.made _ _ _).cellAt 3
                go_wp2_with fail
                refine (undoI_plain _ _ a3).mono ?_
                rintro e w' ⟨rfl, rfl⟩
                go_wp2_with fail
                refine (redoI_plain _ _ a3).mono ?_
                rintro e wA ⟨rfl, kA⟩
                have KA : Hid (Keeps (fun _ => False) wr wA) := Lib.hid (((Keeps.refl _ _).alloc _).trans kA)
                have a3 : wA.cell? ⟨wr.heap.size, 3, none⟩ = some (.bool false) := (Whole.keeps (Whole.made _ _ _) kA id).cellAt 3
                clear kA
                go_wp2_with fail
                refine (lenI_plain _ _ a3).mono ?_
                rintro e w' ⟨rfl, rfl⟩
                go_wp2_with fail
                refine (doneI_plain _ _ a3).mono ?_
                rintro e w' ⟨rfl, rfl⟩
                go_wp2_with fail
                refine (doI_plain _ _ _ a3).mono ?_
                rintro e wB ⟨rfl, kB⟩
                go_wp2_with fail
                go_ret
                exact ⟨rfl, (HK.out.trans ((KA.out.trans kB).mono (fun _ _ h => h.elim))).below (Nat.le_refl _) (fun _ h => h)⟩
        · have h40I : ¬ (40 : Int) < (rows.length : Int) := by omega
          have HAP := Lib.hid (held_apart HS.out.held (by omega))
          go_wp2_with fail
          refine HAP.out.mono ?_
          rintro e w9 ⟨rfl, k9⟩
          have HE2 := Lib.hid (HS.out.fin (k9.mono (fun b _ h => .inr (.inr h))))
          clear k9 h0 f0 HS HAP h40I
          go_wp2_with fail
          go_loopw [13] (fun v wr => ∃ (k : Nat), k ≤ 2 ∧ v = .int .i64 k ∧ Hid (StEnd w wr bs br p0 p1 q0 q1 ops.length F0 F1)) (fun v _ => 2 - (intOf v).toNat)
          case atStart => exact ⟨0, by omega, rfl, HE2⟩
          case round =>
            clear HE2
            obtain ⟨k, hk2, rfl, HE⟩ := hrel
            by_cases hk0 : k = 0
            · subst hk0
              have x0 : wr.cell? ⟨bs, 0, none⟩ = some (.pointer p0) := HE.out.ws.cellAt 0
              have y0 : wr.cell? ⟨br, 0, none⟩ = some (.pointer q0) := HE.out.wr.cellAt 0
              have hs := HE.out.s0
              unfold Side at hs
              rcases hs with ⟨hp, hq, _⟩ | ⟨sp, rp, A, c, l, n, most, D, cd, U, cu, hp, hq, hP, hlm, hmm, _⟩
              · obtain rfl : p0 = none := by injection hp
                obtain rfl : q0 = none := by injection hq
                clear hp hq
                have HF : ∀ W, Keeps (fun _ => False) wr W → W.cell? ⟨bs, 0, none⟩ = some (.pointer none) ∧ W.cell? ⟨br, 0, none⟩ = some (.pointer none) := fun W hW => ⟨(HE.out.ws.keeps hW id).cellAt 0, (HE.out.wr.keeps hW id).cellAt 0⟩
                go_wp2_with fail
                refine wp_region_held_drew (S := fun W => Keeps (fun _ => False) wr W) (by kernel_rfl) ((Keeps.refl _ wr).drew) ?_
                intro hSn
                refine wpAnyH_take (i := 0) (v := ?v69) rfl (by kernel_rfl) (by kernel_rfl) (by kernel_rfl) (fun _ _ _ h => by first | exact h | exact absurd h.1 (fun e => by cases e)) (Or.inl ⟨by rfl, ?hy69⟩) (by assumption) ?rest69
                case hy69 =>
                  intro w hSw
                  obtain ⟨x0, y0⟩ := HF w hSw
                  go_simp
                  try with_reducible rfl
                go_simp
                refine wpAnyH_take (i := 1) (v := ?v70) rfl (by kernel_rfl) (by kernel_rfl) (by kernel_rfl) (fun _ _ _ h => by first | exact h | exact absurd h.1 (fun e => by cases e)) (Or.inl ⟨by rfl, ?hy70⟩) (by assumption) ?rest70
                case hy70 =>
                  intro w hSw
                  obtain ⟨x0, y0⟩ := HF w hSw
                  go_simp
                  try with_reducible rfl
                go_simp
                refine wpAnyH_take (i := 2) (v := ?v71) rfl (by kernel_rfl) (by kernel_rfl) (by kernel_rfl) (fun _ _ _ h => by first | exact h | exact absurd h.1 (fun e => by cases e)) (Or.inl ⟨by rfl, ?hy71⟩) (by assumption) ?rest71
                case hy71 =>
                  intro w hSw
                  obtain ⟨x0, y0⟩ := HF w hSw
                  go_simp
                  try with_reducible rfl
                go_simp
                refine wpAnyH_take (i := 3) (v := ?v72) rfl (by kernel_rfl) (by kernel_rfl) (by kernel_rfl) (fun _ _ _ h => by first | exact h | exact absurd h.1 (fun e => by cases e)) (Or.inl ⟨by rfl, ?hy72⟩) (by assumption) ?rest72
                case hy72 =>
                  intro w hSw
                  obtain ⟨x0, y0⟩ := HF w hSw
                  go_simp
                  try with_reducible rfl
                go_simp
                refine wpAnyH_take (i := 4) (v := ?v73) rfl (by kernel_rfl) (by kernel_rfl) (by kernel_rfl) (fun _ _ _ h => by first | exact h | exact absurd h.1 (fun e => by cases e)) (Or.inl ⟨by rfl, ?hy73⟩) (by assumption) ?rest73
                case hy73 =>
                  intro w hSw
                  obtain ⟨x0, y0⟩ := HF w hSw
                  go_simp
                  try with_reducible rfl
                go_simp
                refine wpAnyH_take (i := 5) (v := undef) rfl (by kernel_rfl) (by kernel_rfl) (by kernel_rfl) (fun _ _ _ h => by first | exact h | exact absurd h.1 (fun e => by cases e)) (Or.inr ⟨by rfl, rfl⟩) (by assumption) ?rest74
                go_simp
                refine wpAnyH_take (i := 6) (v := undef) rfl (by kernel_rfl) (by kernel_rfl) (by kernel_rfl) (fun _ _ _ h => by first | exact h | exact absurd h.1 (fun e => by cases e)) (Or.inr ⟨by rfl, rfl⟩) (by assumption) ?rest75
                go_simp
                refine wpAnyH_take (i := 7) (v := undef) rfl (by kernel_rfl) (by kernel_rfl) (by kernel_rfl) (fun _ _ _ h => by first | exact h | exact absurd h.1 (fun e => by cases e)) (Or.inr ⟨by rfl, rfl⟩) (by assumption) ?rest76
                go_simp
                refine wpAnyH_take (i := 8) (v := undef) rfl (by kernel_rfl) (by kernel_rfl) (by kernel_rfl) (fun _ _ _ h => by first | exact h | exact absurd h.1 (fun e => by cases e)) (Or.inr ⟨by rfl, rfl⟩) (by assumption) ?rest77
                go_simp
                refine wpAnyH_take (i := 9) (v := undef) rfl (by kernel_rfl) (by kernel_rfl) (by kernel_rfl) (fun _ _ _ h => by first | exact h | exact absurd h.1 (fun e => by cases e)) (Or.inr ⟨by rfl, rfl⟩) (by assumption) ?rest78
                go_simp
                refine wpAnyH_take (i := 10) (v := undef) rfl (by kernel_rfl) (by kernel_rfl) (by kernel_rfl) (fun _ _ _ h => by first | exact h | exact absurd h.1 (fun e => by cases e)) (Or.inr ⟨by rfl, rfl⟩) (by assumption) ?rest79
                go_simp
                refine wpAnyH_take (i := 11) (v := undef) rfl (by kernel_rfl) (by kernel_rfl) (by kernel_rfl) (fun _ _ _ h => by first | exact h | exact absurd h.1 (fun e => by cases e)) (Or.inr ⟨by rfl, rfl⟩) (by assumption) ?rest80
                go_simp
                refine wpAnyH_take (i := 12) (v := undef) rfl (by kernel_rfl) (by kernel_rfl) (by kernel_rfl) (fun _ _ _ h => by first | exact h | exact absurd h.1 (fun e => by cases e)) (Or.inr ⟨by rfl, rfl⟩) (by assumption) ?rest81
                go_simp
                refine wpAnyH_take (i := 13) (v := undef) rfl (by kernel_rfl) (by kernel_rfl) (by kernel_rfl) (fun _ _ _ h => by first | exact h | exact absurd h.1 (fun e => by cases e)) (Or.inr ⟨by rfl, rfl⟩) (by assumption) ?rest82
                go_simp
                refine wpAnyH_take (i := 14) (v := undef) rfl (by kernel_rfl) (by kernel_rfl) (by kernel_rfl) (fun _ _ _ h => by first | exact h | exact absurd h.1 (fun e => by cases e)) (Or.inr ⟨by rfl, rfl⟩) (by assumption) ?rest83
                go_simp
                refine wpAnyH_take (i := 15) (v := undef) rfl (by kernel_rfl) (by kernel_rfl) (by kernel_rfl) (fun _ _ _ h => by first | exact h | exact absurd h.1 (fun e => by cases e)) (Or.inr ⟨by rfl, rfl⟩) (by assumption) ?rest84
                go_simp
                refine wpAnyH_take (i := 16) (v := undef) rfl (by kernel_rfl) (by kernel_rfl) (by kernel_rfl) (fun _ _ _ h => by first | exact h | exact absurd h.1 (fun e => by cases e)) (Or.inr ⟨by rfl, rfl⟩) (by assumption) ?rest85
                go_simp
                refine wpAnyH_take (i := 17) (v := ?v86) rfl (by kernel_rfl) (by kernel_rfl) (by kernel_rfl) (fun _ _ _ h => by first | exact h | exact absurd h.1 (fun e => by cases e)) (Or.inl ⟨by rfl, ?hy86⟩) (by assumption) ?rest86
                case hy86 =>
                  intro w hSw
                  obtain ⟨x0, y0⟩ := HF w hSw
                  go_simp
                  try with_reducible rfl
                go_simp
                refine wpAnyH_done (by kernel_rfl) ?_ _
                have D2 := Lib.hid (HE.out.calm hSn)
                clear hSn
                go_simp
                go_wp2_with fail
                go_roundw
                case rel => exact ⟨1, by omega, by go_num, D2⟩
                case measure => (simp [intOf] <;> omega)
              · obtain rfl : p0 = some ⟨sp, 0, none⟩ := by injection hp
                obtain rfl : q0 = some ⟨rp, 0, none⟩ := by injection hq
                clear hp hq
                have hle := hP.st.le
                have HP := Lib.hid hP
                have HLN : Hid ((l.take n).length = n) := Lib.hid (by rw [List.length_take]; omega)
                have HF : ∀ W, Keeps (fun _ => False) wr W → W.cell? ⟨bs, 0, none⟩ = some (.pointer (some ⟨sp, 0, none⟩)) ∧ W.cell? ⟨br, 0, none⟩ = some (.pointer (some ⟨rp, 0, none⟩)) ∧ W.cell? ⟨rp, 1, none⟩ = some (.slice D n cd) := fun W hW => ⟨(HE.out.ws.keeps hW id).cellAt 0, (HE.out.wr.keeps hW id).cellAt 0, by have h : W.cell? ⟨rp, 1, none⟩ = some (.slice D (l.take n).length cd) := (HP.out.calm hW (fun _ _ h => h)).re.box.cellAt 1; rw [HLN.out] at h; exact h⟩
                have HDN : Hid (∀ W, Keeps (fun _ => False) wr W → Calls Try.prog 41 #[.pointer (some ⟨sp, 0, none⟩)] W fun e w' => ∃ A' c', e = .returned (.slice A' n c') ∧ Lies w' w'.heap.size A' ((l.take n).map (Value.int .i64)) ∧ Keeps (fun _ => False) W w') := Lib.hid (fun W hW => (doneI_any sp c n most A l W (HP.out.calm hW (fun _ _ h => h)).st (by omega)).mono (fun e w' h => by
                  obtain ⟨A', c', he, hm⟩ := h
                  rw [HLN.out] at he
                  exact ⟨A', c', he, hm.lies, hm.keeps⟩))
                have HSM : Hid (∀ (A' : Option Addr) (c' : Nat) (W : World), Keeps (fun _ => False) wr W → Lies W W.heap.size A' ((l.take n).map (Value.int .i64)) → Calls Try.prog 28 #[.slice A' n c', .slice D n cd] W fun e w' => e = .returned (.bool true) ∧ Keeps (fun _ => False) W w') := Lib.hid (fun A' c' W hW hl => by
                  have h3 := rsame_eq (l.take n) A' D W.heap.size W.heap.size c' cd W hl (own_lies (HP.out.calm hW (fun _ _ h => h)).re.done) (by have := HLN.out; omega)
                  rw [HLN.out] at h3
                  exact h3)
                clear hP hle hlm hmm
                go_wp2_with fail
                refine wp_region_held_drew (S := fun W => Keeps (fun _ => False) wr W) (by kernel_rfl) ((Keeps.refl _ wr).drew) ?_
                intro hSn
                refine wpAnyH_take (i := 0) (v := ?v87) rfl (by kernel_rfl) (by kernel_rfl) (by kernel_rfl) (fun _ _ _ h => by first | exact h | exact absurd h.1 (fun e => by cases e)) (Or.inl ⟨by rfl, ?hy87⟩) (by assumption) ?rest87
                case hy87 =>
                  intro w hSw
                  obtain ⟨x0, y0, z0⟩ := HF w hSw
                  go_simp
                  try with_reducible rfl
                go_simp
                refine wpAnyH_take (i := 1) (v := ?v88) rfl (by kernel_rfl) (by kernel_rfl) (by kernel_rfl) (fun _ _ _ h => by first | exact h | exact absurd h.1 (fun e => by cases e)) (Or.inl ⟨by rfl, ?hy88⟩) (by assumption) ?rest88
                case hy88 =>
                  intro w hSw
                  obtain ⟨x0, y0, z0⟩ := HF w hSw
                  go_simp
                  try with_reducible rfl
                go_simp
                refine wpAnyH_take (i := 2) (v := ?v89) rfl (by kernel_rfl) (by kernel_rfl) (by kernel_rfl) (fun _ _ _ h => by first | exact h | exact absurd h.1 (fun e => by cases e)) (Or.inl ⟨by rfl, ?hy89⟩) (by assumption) ?rest89
                case hy89 =>
                  intro w hSw
                  obtain ⟨x0, y0, z0⟩ := HF w hSw
                  go_simp
                  try with_reducible rfl
                go_simp
                refine wpAnyH_take (i := 3) (v := ?v90) rfl (by kernel_rfl) (by kernel_rfl) (by kernel_rfl) (fun _ _ _ h => by first | exact h | exact absurd h.1 (fun e => by cases e)) (Or.inl ⟨by rfl, ?hy90⟩) (by assumption) ?rest90
                case hy90 =>
                  intro w hSw
                  obtain ⟨x0, y0, z0⟩ := HF w hSw
                  go_simp
                  try with_reducible rfl
                go_simp
                refine wpAnyH_take (i := 4) (v := ?v91) rfl (by kernel_rfl) (by kernel_rfl) (by kernel_rfl) (fun _ _ _ h => by first | exact h | exact absurd h.1 (fun e => by cases e)) (Or.inl ⟨by rfl, ?hy91⟩) (by assumption) ?rest91
                case hy91 =>
                  intro w hSw
                  obtain ⟨x0, y0, z0⟩ := HF w hSw
                  go_simp
                  try with_reducible rfl
                go_simp
                refine wpAnyH_take (i := 5) (v := ?v92) rfl (by kernel_rfl) (by kernel_rfl) (by kernel_rfl) (fun _ _ _ h => by first | exact h | exact absurd h.1 (fun e => by cases e)) (Or.inl ⟨by rfl, ?hy92⟩) (by assumption) ?rest92
                case hy92 =>
                  intro w hSw
                  obtain ⟨x0, y0, z0⟩ := HF w hSw
                  go_simp
                  try with_reducible rfl
                go_simp
                refine wpAnyH_take (i := 6) (v := ?v93) rfl (by kernel_rfl) (by kernel_rfl) (by kernel_rfl) (fun _ _ _ h => by first | exact h | exact absurd h.1 (fun e => by cases e)) (Or.inl ⟨by rfl, ?hy93⟩) (by assumption) ?rest93
                case hy93 =>
                  intro w hSw
                  obtain ⟨x0, y0, z0⟩ := HF w hSw
                  go_simp
                  try with_reducible rfl
                go_simp
                refine wpAnyH_take (i := 7) (v := ?v94) rfl (by kernel_rfl) (by kernel_rfl) (by kernel_rfl) (fun _ _ _ h => by first | exact h | exact absurd h.1 (fun e => by cases e)) (Or.inl ⟨by rfl, ?hy94⟩) (by assumption) ?rest94
                case hy94 =>
                  intro w hSw
                  obtain ⟨x0, y0, z0⟩ := HF w hSw
                  go_simp
                  try with_reducible rfl
                go_simp
                refine wpAnyH_take (i := 9) (v := ?v95) rfl (by kernel_rfl) (by kernel_rfl) (by kernel_rfl) (fun _ _ _ h => by first | exact h | exact absurd h.1 (fun e => by cases e)) (Or.inl ⟨by rfl, ?hy95⟩) (by assumption) ?rest95
                case hy95 =>
                  intro w hSw
                  obtain ⟨x0, y0, z0⟩ := HF w hSw
                  go_simp
                  try with_reducible rfl
                go_simp
                refine wpAnyH_take (i := 10) (v := ?v96) rfl (by kernel_rfl) (by kernel_rfl) (by kernel_rfl) (fun _ _ _ h => by first | exact h | exact absurd h.1 (fun e => by cases e)) (Or.inl ⟨by rfl, ?hy96⟩) (by assumption) ?rest96
                case hy96 =>
                  intro w hSw
                  obtain ⟨x0, y0, z0⟩ := HF w hSw
                  go_simp
                  try with_reducible rfl
                go_simp
                refine wpAnyH_take (i := 11) (v := ?v97) rfl (by kernel_rfl) (by kernel_rfl) (by kernel_rfl) (fun _ _ _ h => by first | exact h | exact absurd h.1 (fun e => by cases e)) (Or.inl ⟨by rfl, ?hy97⟩) (by assumption) ?rest97
                case hy97 =>
                  intro w hSw
                  obtain ⟨x0, y0, z0⟩ := HF w hSw
                  go_simp
                  try with_reducible rfl
                go_simp
                refine wpAnyH_take (i := 12) (v := ?v98) rfl (by kernel_rfl) (by kernel_rfl) (by kernel_rfl) (fun _ _ _ h => by first | exact h | exact absurd h.1 (fun e => by cases e)) (Or.inl ⟨by rfl, ?hy98⟩) (by assumption) ?rest98
                case hy98 =>
                  intro w hSw
                  obtain ⟨x0, y0, z0⟩ := HF w hSw
                  go_simp
                  try with_reducible rfl
                go_simp
                refine wpAnyH_take (i := 13) (v := ?v99) rfl (by kernel_rfl) (by kernel_rfl) (by kernel_rfl) (fun _ _ _ h => by first | exact h | exact absurd h.1 (fun e => by cases e)) (Or.inl ⟨by rfl, ?hy99⟩) (by assumption) ?rest99
                case hy99 =>
                  intro w hSw
                  obtain ⟨x0, y0, z0⟩ := HF w hSw
                  go_simp
                  try with_reducible rfl
                go_simp
                refine wpAnyH_take (i := 14) (v := ?v100) rfl (by kernel_rfl) (by kernel_rfl) (by kernel_rfl) (fun _ _ _ h => by first | exact h | exact absurd h.1 (fun e => by cases e)) (Or.inl ⟨by rfl, ?hy100⟩) (by assumption) ?rest100
                case hy100 =>
                  intro w hSw
                  obtain ⟨x0, y0, z0⟩ := HF w hSw
                  go_simp
                  try with_reducible rfl
                go_simp
                refine wpAnyH_ready (rs := [8]) (by kernel_rfl) (by simp) ?_
                refine AllReadyH.cons rfl (fun K hK => ?_) AllReadyH.nil
                go_simp
                refine (HDN.out _ hSn).mono ?_
                rintro e v2 ⟨A8, c8, rfl, hl8, k8⟩
                have hl8k := hSn.trans k8
                refine hK.out _ _ (hSn.trans k8) (fun hSn => ?_)
                clear hK K
                go_simp
                refine wpAnyH_ready (rs := [15]) (by kernel_rfl) (by simp) ?_
                refine AllReadyH.cons rfl (fun K hK => ?_) AllReadyH.nil
                go_simp
                refine (HSM.out A8 c8 v2 hl8k hl8).mono ?_
                rintro e v3 ⟨rfl, k9⟩
                refine hK.out _ _ (hSn.trans k9) (fun hSn => ?_)
                clear hK K
                go_simp
                refine wpAnyH_take (i := 16) (v := ?v101) rfl (by kernel_rfl) (by kernel_rfl) (by kernel_rfl) (fun _ _ _ h => by first | exact h | exact absurd h.1 (fun e => by cases e)) (Or.inl ⟨by rfl, ?hy101⟩) (by assumption) ?rest101
                case hy101 =>
                  intro w hSw
                  obtain ⟨x0, y0, z0⟩ := HF w hSw
                  go_simp
                  try with_reducible rfl
                go_simp
                refine wpAnyH_take (i := 17) (v := ?v102) rfl (by kernel_rfl) (by kernel_rfl) (by kernel_rfl) (fun _ _ _ h => by first | exact h | exact absurd h.1 (fun e => by cases e)) (Or.inl ⟨by rfl, ?hy102⟩) (by assumption) ?rest102
                case hy102 =>
                  intro w hSw
                  obtain ⟨x0, y0, z0⟩ := HF w hSw
                  go_simp
                  try with_reducible rfl
                go_simp
                refine wpAnyH_done (by kernel_rfl) ?_ _
                have D2 := Lib.hid (HE.out.calm hSn)
                clear hSn hl8 hl8k k8 k9
                go_simp
                go_wp2_with fail
                go_roundw
                case rel => exact ⟨1, by omega, by go_num, D2⟩
                case measure => (simp [intOf] <;> omega)
            · by_cases hk1 : k = 1
              · subst hk1
                have x0 : wr.cell? ⟨bs, 1, none⟩ = some (.pointer p1) := HE.out.ws.cellAt 1
                have y0 : wr.cell? ⟨br, 1, none⟩ = some (.pointer q1) := HE.out.wr.cellAt 1
                have hs := HE.out.s1
                unfold Side at hs
                rcases hs with ⟨hp, hq, _⟩ | ⟨sp, rp, A, c, l, n, most, D, cd, U, cu, hp, hq, hP, hlm, hmm, _⟩
                · obtain rfl : p1 = none := by injection hp
                  obtain rfl : q1 = none := by injection hq
                  clear hp hq
                  have HF : ∀ W, Keeps (fun _ => False) wr W → W.cell? ⟨bs, 1, none⟩ = some (.pointer none) ∧ W.cell? ⟨br, 1, none⟩ = some (.pointer none) := fun W hW => ⟨(HE.out.ws.keeps hW id).cellAt 1, (HE.out.wr.keeps hW id).cellAt 1⟩
                  go_wp2_with fail
                  refine wp_region_held_drew (S := fun W => Keeps (fun _ => False) wr W) (by kernel_rfl) ((Keeps.refl _ wr).drew) ?_
                  intro hSn
                  refine wpAnyH_take (i := 0) (v := ?v103) rfl (by kernel_rfl) (by kernel_rfl) (by kernel_rfl) (fun _ _ _ h => by first | exact h | exact absurd h.1 (fun e => by cases e)) (Or.inl ⟨by rfl, ?hy103⟩) (by assumption) ?rest103
                  case hy103 =>
                    intro w hSw
                    obtain ⟨x0, y0⟩ := HF w hSw
                    go_simp
                    try with_reducible rfl
                  go_simp
                  refine wpAnyH_take (i := 1) (v := ?v104) rfl (by kernel_rfl) (by kernel_rfl) (by kernel_rfl) (fun _ _ _ h => by first | exact h | exact absurd h.1 (fun e => by cases e)) (Or.inl ⟨by rfl, ?hy104⟩) (by assumption) ?rest104
                  case hy104 =>
                    intro w hSw
                    obtain ⟨x0, y0⟩ := HF w hSw
                    go_simp
                    try with_reducible rfl
                  go_simp
                  refine wpAnyH_take (i := 2) (v := ?v105) rfl (by kernel_rfl) (by kernel_rfl) (by kernel_rfl) (fun _ _ _ h => by first | exact h | exact absurd h.1 (fun e => by cases e)) (Or.inl ⟨by rfl, ?hy105⟩) (by assumption) ?rest105
                  case hy105 =>
                    intro w hSw
                    obtain ⟨x0, y0⟩ := HF w hSw
                    go_simp
                    try with_reducible rfl
                  go_simp
                  refine wpAnyH_take (i := 3) (v := ?v106) rfl (by kernel_rfl) (by kernel_rfl) (by kernel_rfl) (fun _ _ _ h => by first | exact h | exact absurd h.1 (fun e => by cases e)) (Or.inl ⟨by rfl, ?hy106⟩) (by assumption) ?rest106
                  case hy106 =>
                    intro w hSw
                    obtain ⟨x0, y0⟩ := HF w hSw
                    go_simp
                    try with_reducible rfl
                  go_simp
                  refine wpAnyH_take (i := 4) (v := ?v107) rfl (by kernel_rfl) (by kernel_rfl) (by kernel_rfl) (fun _ _ _ h => by first | exact h | exact absurd h.1 (fun e => by cases e)) (Or.inl ⟨by rfl, ?hy107⟩) (by assumption) ?rest107
                  case hy107 =>
                    intro w hSw
                    obtain ⟨x0, y0⟩ := HF w hSw
                    go_simp
                    try with_reducible rfl
                  go_simp
                  refine wpAnyH_take (i := 5) (v := undef) rfl (by kernel_rfl) (by kernel_rfl) (by kernel_rfl) (fun _ _ _ h => by first | exact h | exact absurd h.1 (fun e => by cases e)) (Or.inr ⟨by rfl, rfl⟩) (by assumption) ?rest108
                  go_simp
                  refine wpAnyH_take (i := 6) (v := undef) rfl (by kernel_rfl) (by kernel_rfl) (by kernel_rfl) (fun _ _ _ h => by first | exact h | exact absurd h.1 (fun e => by cases e)) (Or.inr ⟨by rfl, rfl⟩) (by assumption) ?rest109
                  go_simp
                  refine wpAnyH_take (i := 7) (v := undef) rfl (by kernel_rfl) (by kernel_rfl) (by kernel_rfl) (fun _ _ _ h => by first | exact h | exact absurd h.1 (fun e => by cases e)) (Or.inr ⟨by rfl, rfl⟩) (by assumption) ?rest110
                  go_simp
                  refine wpAnyH_take (i := 8) (v := undef) rfl (by kernel_rfl) (by kernel_rfl) (by kernel_rfl) (fun _ _ _ h => by first | exact h | exact absurd h.1 (fun e => by cases e)) (Or.inr ⟨by rfl, rfl⟩) (by assumption) ?rest111
                  go_simp
                  refine wpAnyH_take (i := 9) (v := undef) rfl (by kernel_rfl) (by kernel_rfl) (by kernel_rfl) (fun _ _ _ h => by first | exact h | exact absurd h.1 (fun e => by cases e)) (Or.inr ⟨by rfl, rfl⟩) (by assumption) ?rest112
                  go_simp
                  refine wpAnyH_take (i := 10) (v := undef) rfl (by kernel_rfl) (by kernel_rfl) (by kernel_rfl) (fun _ _ _ h => by first | exact h | exact absurd h.1 (fun e => by cases e)) (Or.inr ⟨by rfl, rfl⟩) (by assumption) ?rest113
                  go_simp
                  refine wpAnyH_take (i := 11) (v := undef) rfl (by kernel_rfl) (by kernel_rfl) (by kernel_rfl) (fun _ _ _ h => by first | exact h | exact absurd h.1 (fun e => by cases e)) (Or.inr ⟨by rfl, rfl⟩) (by assumption) ?rest114
                  go_simp
                  refine wpAnyH_take (i := 12) (v := undef) rfl (by kernel_rfl) (by kernel_rfl) (by kernel_rfl) (fun _ _ _ h => by first | exact h | exact absurd h.1 (fun e => by cases e)) (Or.inr ⟨by rfl, rfl⟩) (by assumption) ?rest115
                  go_simp
                  refine wpAnyH_take (i := 13) (v := undef) rfl (by kernel_rfl) (by kernel_rfl) (by kernel_rfl) (fun _ _ _ h => by first | exact h | exact absurd h.1 (fun e => by cases e)) (Or.inr ⟨by rfl, rfl⟩) (by assumption) ?rest116
                  go_simp
                  refine wpAnyH_take (i := 14) (v := undef) rfl (by kernel_rfl) (by kernel_rfl) (by kernel_rfl) (fun _ _ _ h => by first | exact h | exact absurd h.1 (fun e => by cases e)) (Or.inr ⟨by rfl, rfl⟩) (by assumption) ?rest117
                  go_simp
                  refine wpAnyH_take (i := 15) (v := undef) rfl (by kernel_rfl) (by kernel_rfl) (by kernel_rfl) (fun _ _ _ h => by first | exact h | exact absurd h.1 (fun e => by cases e)) (Or.inr ⟨by rfl, rfl⟩) (by assumption) ?rest118
                  go_simp
                  refine wpAnyH_take (i := 16) (v := undef) rfl (by kernel_rfl) (by kernel_rfl) (by kernel_rfl) (fun _ _ _ h => by first | exact h | exact absurd h.1 (fun e => by cases e)) (Or.inr ⟨by rfl, rfl⟩) (by assumption) ?rest119
                  go_simp
                  refine wpAnyH_take (i := 17) (v := ?v120) rfl (by kernel_rfl) (by kernel_rfl) (by kernel_rfl) (fun _ _ _ h => by first | exact h | exact absurd h.1 (fun e => by cases e)) (Or.inl ⟨by rfl, ?hy120⟩) (by assumption) ?rest120
                  case hy120 =>
                    intro w hSw
                    obtain ⟨x0, y0⟩ := HF w hSw
                    go_simp
                    try with_reducible rfl
                  go_simp
                  refine wpAnyH_done (by kernel_rfl) ?_ _
                  have D2 := Lib.hid (HE.out.calm hSn)
                  clear hSn
                  go_simp
                  go_wp2_with fail
                  go_roundw
                  case rel => exact ⟨2, by omega, by go_num, D2⟩
                  case measure => (simp [intOf] <;> omega)
                · obtain rfl : p1 = some ⟨sp, 0, none⟩ := by injection hp
                  obtain rfl : q1 = some ⟨rp, 0, none⟩ := by injection hq
                  clear hp hq
                  have hle := hP.st.le
                  have HP := Lib.hid hP
                  have HLN : Hid ((l.take n).length = n) := Lib.hid (by rw [List.length_take]; omega)
                  have HF : ∀ W, Keeps (fun _ => False) wr W → W.cell? ⟨bs, 1, none⟩ = some (.pointer (some ⟨sp, 0, none⟩)) ∧ W.cell? ⟨br, 1, none⟩ = some (.pointer (some ⟨rp, 0, none⟩)) ∧ W.cell? ⟨rp, 1, none⟩ = some (.slice D n cd) := fun W hW => ⟨(HE.out.ws.keeps hW id).cellAt 1, (HE.out.wr.keeps hW id).cellAt 1, by have h : W.cell? ⟨rp, 1, none⟩ = some (.slice D (l.take n).length cd) := (HP.out.calm hW (fun _ _ h => h)).re.box.cellAt 1; rw [HLN.out] at h; exact h⟩
                  have HDN : Hid (∀ W, Keeps (fun _ => False) wr W → Calls Try.prog 41 #[.pointer (some ⟨sp, 0, none⟩)] W fun e w' => ∃ A' c', e = .returned (.slice A' n c') ∧ Lies w' w'.heap.size A' ((l.take n).map (Value.int .i64)) ∧ Keeps (fun _ => False) W w') := Lib.hid (fun W hW => (doneI_any sp c n most A l W (HP.out.calm hW (fun _ _ h => h)).st (by omega)).mono (fun e w' h => by
                    obtain ⟨A', c', he, hm⟩ := h
                    rw [HLN.out] at he
                    exact ⟨A', c', he, hm.lies, hm.keeps⟩))
                  have HSM : Hid (∀ (A' : Option Addr) (c' : Nat) (W : World), Keeps (fun _ => False) wr W → Lies W W.heap.size A' ((l.take n).map (Value.int .i64)) → Calls Try.prog 28 #[.slice A' n c', .slice D n cd] W fun e w' => e = .returned (.bool true) ∧ Keeps (fun _ => False) W w') := Lib.hid (fun A' c' W hW hl => by
                    have h3 := rsame_eq (l.take n) A' D W.heap.size W.heap.size c' cd W hl (own_lies (HP.out.calm hW (fun _ _ h => h)).re.done) (by have := HLN.out; omega)
                    rw [HLN.out] at h3
                    exact h3)
                  clear hP hle hlm hmm
                  go_wp2_with fail
                  refine wp_region_held_drew (S := fun W => Keeps (fun _ => False) wr W) (by kernel_rfl) ((Keeps.refl _ wr).drew) ?_
                  intro hSn
                  refine wpAnyH_take (i := 0) (v := ?v121) rfl (by kernel_rfl) (by kernel_rfl) (by kernel_rfl) (fun _ _ _ h => by first | exact h | exact absurd h.1 (fun e => by cases e)) (Or.inl ⟨by rfl, ?hy121⟩) (by assumption) ?rest121
                  case hy121 =>
                    intro w hSw
                    obtain ⟨x0, y0, z0⟩ := HF w hSw
                    go_simp
                    try with_reducible rfl
                  go_simp
                  refine wpAnyH_take (i := 1) (v := ?v122) rfl (by kernel_rfl) (by kernel_rfl) (by kernel_rfl) (fun _ _ _ h => by first | exact h | exact absurd h.1 (fun e => by cases e)) (Or.inl ⟨by rfl, ?hy122⟩) (by assumption) ?rest122
                  case hy122 =>
                    intro w hSw
                    obtain ⟨x0, y0, z0⟩ := HF w hSw
                    go_simp
                    try with_reducible rfl
                  go_simp
                  refine wpAnyH_take (i := 2) (v := ?v123) rfl (by kernel_rfl) (by kernel_rfl) (by kernel_rfl) (fun _ _ _ h => by first | exact h | exact absurd h.1 (fun e => by cases e)) (Or.inl ⟨by rfl, ?hy123⟩) (by assumption) ?rest123
                  case hy123 =>
                    intro w hSw
                    obtain ⟨x0, y0, z0⟩ := HF w hSw
                    go_simp
                    try with_reducible rfl
                  go_simp
                  refine wpAnyH_take (i := 3) (v := ?v124) rfl (by kernel_rfl) (by kernel_rfl) (by kernel_rfl) (fun _ _ _ h => by first | exact h | exact absurd h.1 (fun e => by cases e)) (Or.inl ⟨by rfl, ?hy124⟩) (by assumption) ?rest124
                  case hy124 =>
                    intro w hSw
                    obtain ⟨x0, y0, z0⟩ := HF w hSw
                    go_simp
                    try with_reducible rfl
                  go_simp
                  refine wpAnyH_take (i := 4) (v := ?v125) rfl (by kernel_rfl) (by kernel_rfl) (by kernel_rfl) (fun _ _ _ h => by first | exact h | exact absurd h.1 (fun e => by cases e)) (Or.inl ⟨by rfl, ?hy125⟩) (by assumption) ?rest125
                  case hy125 =>
                    intro w hSw
                    obtain ⟨x0, y0, z0⟩ := HF w hSw
                    go_simp
                    try with_reducible rfl
                  go_simp
                  refine wpAnyH_take (i := 5) (v := ?v126) rfl (by kernel_rfl) (by kernel_rfl) (by kernel_rfl) (fun _ _ _ h => by first | exact h | exact absurd h.1 (fun e => by cases e)) (Or.inl ⟨by rfl, ?hy126⟩) (by assumption) ?rest126
                  case hy126 =>
                    intro w hSw
                    obtain ⟨x0, y0, z0⟩ := HF w hSw
                    go_simp
                    try with_reducible rfl
                  go_simp
                  refine wpAnyH_take (i := 6) (v := ?v127) rfl (by kernel_rfl) (by kernel_rfl) (by kernel_rfl) (fun _ _ _ h => by first | exact h | exact absurd h.1 (fun e => by cases e)) (Or.inl ⟨by rfl, ?hy127⟩) (by assumption) ?rest127
                  case hy127 =>
                    intro w hSw
                    obtain ⟨x0, y0, z0⟩ := HF w hSw
                    go_simp
                    try with_reducible rfl
                  go_simp
                  refine wpAnyH_take (i := 7) (v := ?v128) rfl (by kernel_rfl) (by kernel_rfl) (by kernel_rfl) (fun _ _ _ h => by first | exact h | exact absurd h.1 (fun e => by cases e)) (Or.inl ⟨by rfl, ?hy128⟩) (by assumption) ?rest128
                  case hy128 =>
                    intro w hSw
                    obtain ⟨x0, y0, z0⟩ := HF w hSw
                    go_simp
                    try with_reducible rfl
                  go_simp
                  refine wpAnyH_take (i := 9) (v := ?v129) rfl (by kernel_rfl) (by kernel_rfl) (by kernel_rfl) (fun _ _ _ h => by first | exact h | exact absurd h.1 (fun e => by cases e)) (Or.inl ⟨by rfl, ?hy129⟩) (by assumption) ?rest129
                  case hy129 =>
                    intro w hSw
                    obtain ⟨x0, y0, z0⟩ := HF w hSw
                    go_simp
                    try with_reducible rfl
                  go_simp
                  refine wpAnyH_take (i := 10) (v := ?v130) rfl (by kernel_rfl) (by kernel_rfl) (by kernel_rfl) (fun _ _ _ h => by first | exact h | exact absurd h.1 (fun e => by cases e)) (Or.inl ⟨by rfl, ?hy130⟩) (by assumption) ?rest130
                  case hy130 =>
                    intro w hSw
                    obtain ⟨x0, y0, z0⟩ := HF w hSw
                    go_simp
                    try with_reducible rfl
                  go_simp
                  refine wpAnyH_take (i := 11) (v := ?v131) rfl (by kernel_rfl) (by kernel_rfl) (by kernel_rfl) (fun _ _ _ h => by first | exact h | exact absurd h.1 (fun e => by cases e)) (Or.inl ⟨by rfl, ?hy131⟩) (by assumption) ?rest131
                  case hy131 =>
                    intro w hSw
                    obtain ⟨x0, y0, z0⟩ := HF w hSw
                    go_simp
                    try with_reducible rfl
                  go_simp
                  refine wpAnyH_take (i := 12) (v := ?v132) rfl (by kernel_rfl) (by kernel_rfl) (by kernel_rfl) (fun _ _ _ h => by first | exact h | exact absurd h.1 (fun e => by cases e)) (Or.inl ⟨by rfl, ?hy132⟩) (by assumption) ?rest132
                  case hy132 =>
                    intro w hSw
                    obtain ⟨x0, y0, z0⟩ := HF w hSw
                    go_simp
                    try with_reducible rfl
                  go_simp
                  refine wpAnyH_take (i := 13) (v := ?v133) rfl (by kernel_rfl) (by kernel_rfl) (by kernel_rfl) (fun _ _ _ h => by first | exact h | exact absurd h.1 (fun e => by cases e)) (Or.inl ⟨by rfl, ?hy133⟩) (by assumption) ?rest133
                  case hy133 =>
                    intro w hSw
                    obtain ⟨x0, y0, z0⟩ := HF w hSw
                    go_simp
                    try with_reducible rfl
                  go_simp
                  refine wpAnyH_take (i := 14) (v := ?v134) rfl (by kernel_rfl) (by kernel_rfl) (by kernel_rfl) (fun _ _ _ h => by first | exact h | exact absurd h.1 (fun e => by cases e)) (Or.inl ⟨by rfl, ?hy134⟩) (by assumption) ?rest134
                  case hy134 =>
                    intro w hSw
                    obtain ⟨x0, y0, z0⟩ := HF w hSw
                    go_simp
                    try with_reducible rfl
                  go_simp
                  refine wpAnyH_ready (rs := [8]) (by kernel_rfl) (by simp) ?_
                  refine AllReadyH.cons rfl (fun K hK => ?_) AllReadyH.nil
                  go_simp
                  refine (HDN.out _ hSn).mono ?_
                  rintro e v2 ⟨A8, c8, rfl, hl8, k8⟩
                  have hl8k := hSn.trans k8
                  refine hK.out _ _ (hSn.trans k8) (fun hSn => ?_)
                  clear hK K
                  go_simp
                  refine wpAnyH_ready (rs := [15]) (by kernel_rfl) (by simp) ?_
                  refine AllReadyH.cons rfl (fun K hK => ?_) AllReadyH.nil
                  go_simp
                  refine (HSM.out A8 c8 v2 hl8k hl8).mono ?_
                  rintro e v3 ⟨rfl, k9⟩
                  refine hK.out _ _ (hSn.trans k9) (fun hSn => ?_)
                  clear hK K
                  go_simp
                  refine wpAnyH_take (i := 16) (v := ?v135) rfl (by kernel_rfl) (by kernel_rfl) (by kernel_rfl) (fun _ _ _ h => by first | exact h | exact absurd h.1 (fun e => by cases e)) (Or.inl ⟨by rfl, ?hy135⟩) (by assumption) ?rest135
                  case hy135 =>
                    intro w hSw
                    obtain ⟨x0, y0, z0⟩ := HF w hSw
                    go_simp
                    try with_reducible rfl
                  go_simp
                  refine wpAnyH_take (i := 17) (v := ?v136) rfl (by kernel_rfl) (by kernel_rfl) (by kernel_rfl) (fun _ _ _ h => by first | exact h | exact absurd h.1 (fun e => by cases e)) (Or.inl ⟨by rfl, ?hy136⟩) (by assumption) ?rest136
                  case hy136 =>
                    intro w hSw
                    obtain ⟨x0, y0, z0⟩ := HF w hSw
                    go_simp
                    try with_reducible rfl
                  go_simp
                  refine wpAnyH_done (by kernel_rfl) ?_ _
                  have D2 := Lib.hid (HE.out.calm hSn)
                  clear hSn hl8 hl8k k8 k9
                  go_simp
                  go_wp2_with fail
                  go_roundw
                  case rel => exact ⟨2, by omega, by go_num, D2⟩
                  case measure => (simp [intOf] <;> omega)
              · obtain rfl : k = 2 := by omega
                have HK := Lib.hid HE.out.keeps
                clear HE
                have a3 : (wr.alloc (.cells #[.slice none 0 0, .int .i64 0, .int .i64 0, .bool false] 83)).cell? ⟨wr.heap.size, 3, none⟩ = some (.bool false) := (Whole.made _ _ _).cellAt 3
                go_wp2_with fail
                refine (undoI_plain _ _ a3).mono ?_
                rintro e w' ⟨rfl, rfl⟩
                go_wp2_with fail
                refine (redoI_plain _ _ a3).mono ?_
                rintro e wA ⟨rfl, kA⟩
                have KA : Hid (Keeps (fun _ => False) wr wA) := Lib.hid (((Keeps.refl _ _).alloc _).trans kA)
                have a3 : wA.cell? ⟨wr.heap.size, 3, none⟩ = some (.bool false) := (Whole.keeps (Whole.made _ _ _) kA id).cellAt 3
                clear kA
                go_wp2_with fail
                refine (lenI_plain _ _ a3).mono ?_
                rintro e w' ⟨rfl, rfl⟩
                go_wp2_with fail
                refine (doneI_plain _ _ a3).mono ?_
                rintro e w' ⟨rfl, rfl⟩
                go_wp2_with fail
                refine (doI_plain _ _ _ a3).mono ?_
                rintro e wB ⟨rfl, kB⟩
                go_wp2_with fail
                go_ret
                exact ⟨rfl, (HK.out.trans ((KA.out.trans kB).mono (fun _ _ h => h.elim))).below (Nat.le_refl _) (fun _ h => h)⟩
end Go.Proofs.Ytbfhbekocgdceaa
