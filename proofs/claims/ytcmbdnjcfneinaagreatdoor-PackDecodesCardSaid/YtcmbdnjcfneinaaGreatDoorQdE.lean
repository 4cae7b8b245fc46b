/-
  The reference's reader of a kind: the walk. Conditions: lengths within 2 ^ 20.
-/
import Derived.Test.YtcmbdnjcfneinaaGreatDoorQdM
namespace Go.Proofs.YtcmbdnjcfneinaaGreatDoor
open Go.RowKit
theorem info_intD : (Tryz.prog.info? 3).map (fun i => (i.zero, i.size, i.bytes)) = some (some (.int .i64 0), 1, 8) := by kernel_rfl
theorem info_effD : (Tryz.prog.info? 43).map (fun i => (i.zero, i.size, i.bytes)) = some (some (.agg #[.int .i64 0, .slice none 0 0, .slice none 0 0, .int .i64 0]), 4, 64) := by kernel_rfl
def UPe (w : World) (B : Nat) (v : Value) (l : List Eff) (cells : List Value) : Prop := OUp OlE 4 43 w B v l cells
theorem UPe.keeps {S : Nat → Prop} {w w' : World} {B : Nat} {v : Value} {l : List Eff} {cells : List Value} (h : UPe w B v l cells) (hk : Keeps S w w') (hS : ∀ b, B ≤ b → ¬ S b) : UPe w' B v l cells := OUp.keeps OlE_k h hk hS
theorem OlE.keeps {S : Nat → Prop} {w w' : World} {B : Nat} {v : List Value} {x : Eff} (h : OlE w B v x) (hk : Keeps S w w') (hS : ∀ b, B ≤ b → ¬ S b) : OlE w' B v x := OlE_k.keeps _ _ _ _ _ _ h hk hS
theorem kndV_mk (a c p h : Int) (t : List Int) (es : List Eff) (A A2 : Option Addr) (n m : Nat) : kndV ⟨a, c, p, h, t, es⟩ A A2 n m = #[.int .i64 a, .int .i64 c, .int .i64 p, .int .i64 h, .slice A t.length n, .slice A2 es.length m] := rfl
set_option maxRecDepth 8000 in
set_option maxHeartbeats 8000000 in
theorem kindRd_ref {w : World} {rb g off cap i en : Nat} {b : List Oct} {F : Flt} (h : Rf w rb g off cap b i en F) :
    Calls Tryz.prog 118 #[.pointer (some ⟨rb, 0, none⟩)] w fun r w' => ∃ (k : Knd) (A1 A2 : Option Addr) (c1 c2 : Nat), r = .returned (.agg (kndV k A1 A2 c1 c2)) ∧ OIn w' w.heap.size (.slice A1 k.tags.length c1) k.tags ∧ OEf w' w.heap.size (.slice A2 k.effs.length c2) k.effs ∧ KndFew k ∧
      (Step kndP b en i F k fun j F' => Rf w' rb g off cap b j en F') ∧ Keeps (fun k => k = rb) w w' := by
  have hin := h.rq.box.inside
  have ka := (Keeps.refl (fun _ => False) w).alloc (.cells #[.int .i64 0, .int .i64 0, .int .i64 0, .int .i64 0, .slice none 0 0, .slice none 0 0] 40)
  have R0 := Lib.hid (Whole.made w 40 #[.int .i64 0, .int .i64 0, .int .i64 0, .int .i64 0, .slice none 0 0, .slice none 0 0])
  have D := Lib.hid (h.past ka)
  have K := Lib.hid (ka.mono (T := fun k => k = rb) (fun _ _ h => h.elim))
  have HIN := Lib.hid hin
  clear h ka
  go_enter Tryz.func118, Tryz.ntmps118
  go_wp2_with fail
  generalize w.alloc _ = w0 at *
  refine (number_ref 2 D.out (by decide)).mono ?_
  rintro r w1 ⟨y0, rfl, hy0, _, ⟨i1, F1, hg1, hi1, hr1⟩, k1⟩
  have hy08 : y0 < 65536 := hy0
  have hw0 := wrapI_id y0 (by omega)
  have G1 := Lib.hid hg1
  have ka := (Keeps.refl (fun _ => False) w1).alloc (.cells #[.int .i64 (y0 : Int), .int .i64 0, .int .i64 0, .int .i64 0, .slice none 0 0, .slice none 0 0] 40)
  have hw01 : w.heap.size < w0.heap.size := R0.out.inside
  have hsz1 := k1.size
  have Q : Hid (Rw w (w1.alloc (.cells #[.int .i64 (y0 : Int), .int .i64 0, .int .i64 0, .int .i64 0, .slice none 0 0, .slice none 0 0] 40)) rb g off cap b i1 en F1 40 w.heap.size w1.heap.size #[.int .i64 0, .int .i64 0, .int .i64 0, .int .i64 0, .slice none 0 0, .slice none 0 0] #[.int .i64 (y0 : Int), .int .i64 0, .int .i64 0, .int .i64 0, .slice none 0 0, .slice none 0 0]) := Lib.hid ⟨HIN.out, Nat.le_refl _, by omega, by omega, (R0.out.keeps k1 (fun e => by omega)).alloc _, Whole.made w1 _ _, hr1.past ka, (K.out.trans k1).alloc _⟩
  clear hg1 hr1 k1 ka D R0 K hy0 hsz1 hw01
  go_wp2_with fail
  generalize w1.alloc _ = W1 at *
  generalize w1.heap.size = xb at *
  clear hw0
  refine (number_ref 4 Q.out.rd (by decide)).mono ?_
  rintro r V2 ⟨yc, rfl, hyc, _, ⟨i2, F2, hg, hi2, hr⟩, hk⟩
  have hyc8 : yc < 4294967296 := hyc
  have hw := wrapI_id yc (by omega)
  have G2 := Lib.hid hg
  replace Q := Lib.hid (Q.out.call hk hr)
  have ff := Q.out.box.free 1
  have fc := Q.out.box.cellAt 1
  clear hg hr hk hyc
  go_wp2_with fail
  clear hw ff fc
  replace Q := Lib.hid (Q.out.put 1 (.int .i64 (yc : Int)))
  generalize V2.setCell ⟨xb, 1, none⟩ (.int .i64 (yc : Int)) = W2 at *
  refine (number_ref 4 Q.out.rd (by decide)).mono ?_
  rintro r V3 ⟨yp, rfl, hyp, _, ⟨i3, F3, hg, hi3, hr⟩, hk⟩
  have hyp8 : yp < 4294967296 := hyp
  have hw := wrapI_id yp (by omega)
  have G3 := Lib.hid hg
  replace Q := Lib.hid (Q.out.call hk hr)
  have ff := Q.out.box.free 2
  have fc := Q.out.box.cellAt 2
  clear hg hr hk hyp
  go_wp2_with fail
  clear hw ff fc
  replace Q := Lib.hid (Q.out.put 2 (.int .i64 (yp : Int)))
  generalize V3.setCell ⟨xb, 2, none⟩ (.int .i64 (yp : Int)) = W3 at *
  refine (number_ref 4 Q.out.rd (by decide)).mono ?_
  rintro r V4 ⟨yh, rfl, hyh, _, ⟨i4, F4, hg, hi4, hr⟩, hk⟩
  have hyh8 : yh < 4294967296 := hyh
  have hw := wrapI_id yh (by omega)
  have G4 := Lib.hid hg
  replace Q := Lib.hid (Q.out.call hk hr)
  have ff := Q.out.box.free 3
  have fc := Q.out.box.cellAt 3
  clear hg hr hk hyh
  go_wp2_with fail
  clear hw ff fc
  replace Q := Lib.hid (Q.out.put 3 (.int .i64 (yh : Int)))
  generalize V4.setCell ⟨xb, 3, none⟩ (.int .i64 (yh : Int)) = W4 at *
  refine (number_ref 1 Q.out.rd (by decide)).mono ?_
  rintro r W5 ⟨n, rfl, hn, _, ⟨i5, F5, hg, hi5, hr⟩, hk⟩
  have hn8 : n < 256 := hn
  have hw := wrapI_id n (by omega)
  have G5 := Lib.hid hg
  replace Q := Lib.hid (Q.out.call hk hr)
  have OW : Hid (W5.ownsRow w.heap.size 3 1 (.slice none 0 0) 0 []) := Lib.hid (World.ownsRow_nil _ _ _ _)
  clear hg hr hk hn
  go_wp2_with fail
  clear hw
  go_loopw [5] (fun vi wr => ∃ (tl : List Int) (T : Option Addr) (tc j : Nat) (G : Flt), tl.length ≤ n ∧ vi = .int .i64 tl.length ∧ Hid (Rw w wr rb g off cap b j en G 40 w.heap.size xb #[.int .i64 0, .int .i64 0, .int .i64 0, .int .i64 0, .slice none 0 0, .slice none 0 0] #[.int .i64 (y0 : Int), .int .i64 (yc : Int), .int .i64 (yp : Int), .int .i64 (yh : Int), .slice T tl.length tc, .slice none 0 0]) ∧ Hid (wr.ownsRow w.heap.size 3 1 (.slice T tl.length tc) tl.length (tl.map (Value.int .i64))) ∧ Hid (Goes (repP (numP 2) tl.length) (b.take en) i5 F5 j G tl) ∧ Hid (i5 ≤ j)) (fun vi _ => n - (intOf vi).toNat)
  case atStart => exact ⟨[], none, 0, i5, F5, Nat.zero_le _, rfl, Q, OW, Lib.hid (Goes.ret _), Lib.hid (Nat.le_refl _)⟩
  case round =>
    clear Q OW
    obtain ⟨tl, T, tc, j, G, hl, rfl, Q, OW, GL, HJ⟩ := hrel
    have hbx := Q.out.rd.rq.box
    unfold rfC at hbx
    obtain ⟨a0, a1, a2, a3⟩ := four hbx
    clear hbx
    cases G with
    | some f =>
      obtain ⟨hf0, hf1, hf2⟩ := Q.out.rd.rq.nz f rfl
      have hfi : ¬ ((f.1 : Int) = 0) := by omega
      have hfe : ((f.1 : Int) == 0) = false := by simp; exact hf0
      unfold rfI at a1
      unfold rfE at a3
      simp only [] at a1 a3
      replace GL : Hid (Goes (repP (numP 2) n) (b.take en) i5 F5 j (some f) tl) := Lib.hid (GL.out.more hl)
      by_cases hlt : tl.length < n
      · go_wp2_with fail
        clear hlt hfi hfe hf0 hf1 hf2
        have GT := GL
        have OT := OW
        have HJT := HJ
        clear GL OW HJ
        refine (number_ref 1 Q.out.rd (by decide)).mono ?_
        rintro r W6 ⟨n2, rfl, hn2, _, ⟨i6, F6, hg, hi6, hr⟩, hk⟩
        have hn28 : n2 < 256 := hn2
        have hw := wrapI_id n2 (by omega)
        have G6 := Lib.hid hg
        replace OT := Lib.hid (own_call Q.out OT.out hk)
        replace Q := Lib.hid (Q.out.call hk hr)
        have HI6 : Hid (i ≤ i6) := Lib.hid (by have := HJT.out; omega)
        have UP : Hid (UPe W6 w.heap.size (.slice none 0 0) [] []) := Lib.hid OUp.nil
        clear hg hr hk hn2 a0 a1 a2 a3 HJT
        go_wp2_with fail
        clear hw
        go_loopw [6] (fun vi wr => ∃ (l : List Eff) (cells : List Value) (A : Option Addr) (c j : Nat) (G : Flt), l.length ≤ n2 ∧ vi = .int .i64 l.length ∧ Hid (Rw w wr rb g off cap b j en G 40 w.heap.size xb #[.int .i64 0, .int .i64 0, .int .i64 0, .int .i64 0, .slice none 0 0, .slice none 0 0] #[.int .i64 (y0 : Int), .int .i64 (yc : Int), .int .i64 (yp : Int), .int .i64 (yh : Int), .slice T tl.length tc, .slice A l.length c]) ∧ Hid (wr.ownsRow w.heap.size 3 1 (.slice T tl.length tc) tl.length (tl.map (Value.int .i64))) ∧ Hid (UPe wr w.heap.size (.slice A l.length c) l cells) ∧ Hid (Goes (repP effP l.length) (b.take en) i6 F6 j G l) ∧ Hid (i6 ≤ j) ∧ Hid (∀ x ∈ l, EffFew x)) (fun vi _ => n2 - (intOf vi).toNat)
        case atStart => exact ⟨[], [], none, 0, i6, F6, Nat.zero_le _, rfl, Q, OT, UP, Lib.hid (Goes.ret _), Lib.hid (Nat.le_refl _), Lib.hid (fun _ h => by cases h)⟩
        case round =>
          clear Q OT UP
          rename_i wr0
          obtain ⟨l, cells, A, c, j, G, hl2, rfl, Q, OT, UP, GL, HJ, HS⟩ := hrel
          have hbx := Q.out.rd.rq.box
          unfold rfC at hbx
          obtain ⟨a0, a1, a2, a3⟩ := four hbx
          clear hbx
          cases G with
          | some f =>
            obtain ⟨hf0, hf1, hf2⟩ := Q.out.rd.rq.nz f rfl
            have hfi : ¬ ((f.1 : Int) = 0) := by omega
            have hfe : ((f.1 : Int) == 0) = false := by simp; exact hf0
            unfold rfI at a1
            unfold rfE at a3
            simp only [] at a1 a3
            replace GL : Hid (Goes (repP effP n2) (b.take en) i6 F6 j (some f) l) := Lib.hid (GL.out.more hl2)
            by_cases hlt : l.length < n2
            · obtain ⟨x0, x1, x2, x3, x4, x5⟩ := six Q.out.box
              obtain ⟨z0, z1, z2, z3, z4, z5⟩ := six Q.out.res
              have zf0 := Q.out.res.free 0
              have zf1 := Q.out.res.free 1
              have zf2 := Q.out.res.free 2
              have zf3 := Q.out.res.free 3
              have zf4 := Q.out.res.free 4
              have zf5 := Q.out.res.free 5
              have RF := Lib.hid ((((((Q.out.res.put 0 (.int .i64 (y0 : Int))).put 1 (.int .i64 (yc : Int))).put 2 (.int .i64 (yp : Int))).put 3 (.int .i64 (yh : Int))).put 4 (.slice T tl.length tc)).put 5 (.slice A l.length c))
              have KF := Lib.hid (((((((Keeps.refl (fun k => k = w.heap.size) wr).setCell (p := ⟨w.heap.size, 0, none⟩) (fun _ => rfl) (.int .i64 (y0 : Int))).setCell (p := ⟨w.heap.size, 1, none⟩) (fun _ => rfl) (.int .i64 (yc : Int))).setCell (p := ⟨w.heap.size, 2, none⟩) (fun _ => rfl) (.int .i64 (yp : Int))).setCell (p := ⟨w.heap.size, 3, none⟩) (fun _ => rfl) (.int .i64 (yh : Int))).setCell (p := ⟨w.heap.size, 4, none⟩) (fun _ => rfl) (.slice T tl.length tc)).setCell (p := ⟨w.heap.size, 5, none⟩) (fun _ => rfl) (.slice A l.length c))
              go_wp2_with fail
              refine bodyPost_ret (results_cell rfl _ w.heap.size rfl (#[.int .i64 (y0 : Int), .int .i64 (yc : Int), .int .i64 (yp : Int), .int .i64 (yh : Int), .slice T tl.length tc, .slice A l.length c]) _ RF.out _ Tryz.underlying40 rfl (by kernel_rfl)) rfl ?_
              have hlo := Q.out.lo
              refine ⟨⟨y0, yc, yp, yh, tl, l⟩, T, A, tc, c, by rw [kndV_mk], own_keepsS OT.out KF.out (fun k hb e => own_not OT.out Q.out.res (by decide) (by rw [hb, e])), ⟨cells, OUp.kind OlE_k UP.out KF.out (t' := 40) (fun k e => by rw [e]; exact ⟨_, _, Q.out.res⟩) (by unfold OlEt; decide) (by decide)⟩, ⟨by show tl.length ≤ _; omega, by show l.length ≤ _; omega, HS.out⟩, ⟨j, _, ?_, by have := HJ.out; have := HI6.out; omega, Q.out.rd.calm KF.out (fun k hk e => by omega)⟩, Q.out.keeps.and KF.out (fun k hk e => by omega)⟩
              have q1 : Goes (listP 1 effP) (b.take en) _ _ _ _ l := G6.out.seq (by rw [Int.toNat_natCast]; exact GL.out)
              have q2 : Goes (listP 1 (numP 2)) (b.take en) i4 F4 _ _ tl := G5.out.seq (by rw [Int.toNat_natCast]; exact GT.out)
              exact G1.out.seq (G2.out.seq (G3.out.seq (G4.out.seq (q2.seq (q1.map fun e => (⟨y0, yc, yp, yh, tl, e⟩ : Knd))))))
            · obtain ⟨x0, x1, x2, x3, x4, x5⟩ := six Q.out.box
              obtain ⟨z0, z1, z2, z3, z4, z5⟩ := six Q.out.res
              have zf0 := Q.out.res.free 0
              have zf1 := Q.out.res.free 1
              have zf2 := Q.out.res.free 2
              have zf3 := Q.out.res.free 3
              have zf4 := Q.out.res.free 4
              have zf5 := Q.out.res.free 5
              have RF := Lib.hid ((((((Q.out.res.put 0 (.int .i64 (y0 : Int))).put 1 (.int .i64 (yc : Int))).put 2 (.int .i64 (yp : Int))).put 3 (.int .i64 (yh : Int))).put 4 (.slice T tl.length tc)).put 5 (.slice A l.length c))
              have KF := Lib.hid (((((((Keeps.refl (fun k => k = w.heap.size) wr).setCell (p := ⟨w.heap.size, 0, none⟩) (fun _ => rfl) (.int .i64 (y0 : Int))).setCell (p := ⟨w.heap.size, 1, none⟩) (fun _ => rfl) (.int .i64 (yc : Int))).setCell (p := ⟨w.heap.size, 2, none⟩) (fun _ => rfl) (.int .i64 (yp : Int))).setCell (p := ⟨w.heap.size, 3, none⟩) (fun _ => rfl) (.int .i64 (yh : Int))).setCell (p := ⟨w.heap.size, 4, none⟩) (fun _ => rfl) (.slice T tl.length tc)).setCell (p := ⟨w.heap.size, 5, none⟩) (fun _ => rfl) (.slice A l.length c))
              go_wp2_with fail
              refine bodyPost_ret (results_cell rfl _ w.heap.size rfl (#[.int .i64 (y0 : Int), .int .i64 (yc : Int), .int .i64 (yp : Int), .int .i64 (yh : Int), .slice T tl.length tc, .slice A l.length c]) _ RF.out _ Tryz.underlying40 rfl (by kernel_rfl)) rfl ?_
              have hlo := Q.out.lo
              refine ⟨⟨y0, yc, yp, yh, tl, l⟩, T, A, tc, c, by rw [kndV_mk], own_keepsS OT.out KF.out (fun k hb e => own_not OT.out Q.out.res (by decide) (by rw [hb, e])), ⟨cells, OUp.kind OlE_k UP.out KF.out (t' := 40) (fun k e => by rw [e]; exact ⟨_, _, Q.out.res⟩) (by unfold OlEt; decide) (by decide)⟩, ⟨by show tl.length ≤ _; omega, by show l.length ≤ _; omega, HS.out⟩, ⟨j, _, ?_, by have := HJ.out; have := HI6.out; omega, Q.out.rd.calm KF.out (fun k hk e => by omega)⟩, Q.out.keeps.and KF.out (fun k hk e => by omega)⟩
              have q1 : Goes (listP 1 effP) (b.take en) _ _ _ _ l := G6.out.seq (by rw [Int.toNat_natCast]; exact GL.out)
              have q2 : Goes (listP 1 (numP 2)) (b.take en) i4 F4 _ _ tl := G5.out.seq (by rw [Int.toNat_natCast]; exact GT.out)
              exact G1.out.seq (G2.out.seq (G3.out.seq (G4.out.seq (q2.seq (q1.map fun e => (⟨y0, yc, yp, yh, tl, e⟩ : Knd))))))
          | none =>
            unfold rfI at a1
            unfold rfE at a3
            simp only [] at a1 a3
            by_cases hlt : l.length < n2
            · have OW := Lib.hid UP.out.own
              have QD := Lib.hid (Q.out.past ((Keeps.refl (fun _ => False) wr).drew))
              have OD := Lib.hid (own_keepsS OW.out ((Keeps.refl (fun _ => False) wr).drew) (fun _ _ => id))
              have hT0 : Hid (wr.drew.cell? ⟨xb, 5, none⟩ = some (.slice A l.length c)) := Lib.hid (QD.out.box.cellAt 5)
              have HC := Lib.hid (effectRd_ref QD.out.rd)
              have HBASE : Hid (w.heap.size ≤ wr.drew.heap.size) := Lib.hid QD.out.keeps.size
              replace OT := Lib.hid (own_keepsS OT.out ((Keeps.refl (fun _ => False) wr).drew) (fun _ _ => id))
              replace UP := Lib.hid (UP.out.keeps ((Keeps.refl (fun _ => False) wr).drew) (fun _ _ => id))
              clear Q OW
              go_wp2_with fail
              refine wp_region_upTo 5 (fun _ => True) (fun W => W.cell? ⟨xb, 5, none⟩ = some (.slice A l.length c)) (by kernel_rfl) ?_
              refine upTo_take (i := 0) (v := ?v5) rfl (by kernel_rfl) (by kernel_rfl) (by kernel_rfl) (fun _ _ _ h => by first | exact h | exact absurd h.1 (fun e => by cases e)) (by decide) (Or.inl ⟨by rfl, ?hy5⟩) (trivial) (fun _ => hT0.out) ?rest5
              case hy5 =>
                intro w hSw
                clear hSw
                go_simp
                try with_reducible rfl
              go_simp
              refine upTo_load (i := 1) (v := ?v6) rfl (by kernel_rfl) (by kernel_rfl) (by kernel_rfl) (fun _ _ _ h => by first | exact h | exact absurd h.1 (fun e => by cases e)) (by decide) (by kernel_rfl) (by kernel_rfl) (Or.inl ⟨by rfl, ?hy6⟩) (trivial) (hT0.out) ?rest6
              case hy6 =>
                intro w hSw
                obtain qh := hSw
                go_simp
                try with_reducible rfl
              go_simp
              refine upTo_take (i := 2) (v := ?v7) rfl (by kernel_rfl) (by kernel_rfl) (by kernel_rfl) (fun _ _ _ h => by first | exact h | exact absurd h.1 (fun e => by cases e)) (by decide) (Or.inl ⟨by rfl, ?hy7⟩) (trivial) (fun _ => hT0.out) ?rest7
              case hy7 =>
                intro w hSw
                clear hSw
                go_simp
                try with_reducible rfl
              go_simp
              refine upTo_next (i := 3) (by kernel_rfl) rfl ?_
              intro K hK
              go_simp
              refine (HC.out).mono ?_
              rintro r V1 ⟨y, Y1, Y2, y1, y2, rfl, hE1, hE2, hfew, ⟨j1, H1, hh1, hj1, hr⟩, hk⟩
              have HEL : Hid (OlE V1 w.heap.size [.int .i64 y.on, .slice Y1 y.slots.length y1, .slice Y2 y.code.length y2, .int .i64 y.bound] y) := Lib.hid ⟨Y1, Y2, y1, y2, rfl, hE1.less HBASE.out, hE2.less HBASE.out⟩
              have HG1 := Lib.hid hh1
              have HFEW := Lib.hid hfew
              unfold effV
              clear hE1 hE2 hfew hh1
              have Q1 := Lib.hid (QD.out.call hk hr)
              have O1 := Lib.hid (own_call QD.out OD.out hk)
              replace OT := Lib.hid (own_call QD.out OT.out hk)
              replace UP := Lib.hid (UP.out.keeps hk (fun k hk e => by have := QD.out.lo; omega))
              have hT1 : Hid (V1.cell? ⟨xb, 5, none⟩ = some (.slice A l.length c)) := Lib.hid (Q1.out.box.cellAt 5)
              replace HBASE := Lib.hid (Nat.le_trans HBASE.out hk.size)
              clear hr hk HC hT0 QD OD
              refine hK.out _ _ (trivial) (fun _ => hT1.out) ?_
              clear hK K
              go_simp
              have ka := (Keeps.refl (fun _ => False) V1).alloc (.cells #[.int .i64 y.on, .slice Y1 y.slots.length y1, .slice Y2 y.code.length y2, .int .i64 y.bound] 43)
              have Q2 := Lib.hid (Q1.out.past ka)
              have O2 := Lib.hid (own_keepsS O1.out ka (fun _ _ => id))
              have HL := Lib.hid (Lies.row (fr := (0, 0)) (xs := [.int .i64 y.on, .slice Y1 y.slots.length y1, .slice Y2 y.code.length y2, .int .i64 y.bound]) (Whole.made V1 43 #[.int .i64 y.on, .slice Y1 y.slots.length y1, .slice Y2 y.code.length y2, .int .i64 y.bound]) (Nat.lt_succ_self _))
              replace OT := Lib.hid (own_keepsS OT.out ka (fun _ _ => id))
              replace UP := Lib.hid (UP.out.keeps ka (fun _ _ => id))
              replace HEL := Lib.hid (HEL.out.keeps ka (fun _ _ => id))
              have HB2 := Lib.hid (Nat.le_trans HBASE.out ka.size)
              clear ka Q1 O1 HBASE
              refine upTo_next (i := 4) (by kernel_rfl) rfl ?_
              intro K hK
              go_simp
              refine hK.out _ _ (trivial) (fun _ => Q2.out.box.cellAt 5) ?_
              clear hK K
              go_simp
              refine upTo_next (i := 5) (by kernel_rfl) rfl ?_
              intro K hK
              refine stepIfT (by rfl) ?_
              refine wp_append_cells _ _ _ 38 rfl w.heap.size 43 (.agg #[.int .i64 0, .slice none 0 0, .slice none 0 0, .int .i64 0]) 4 64 Tryz.underlying38 info_effD rfl (by decide) (.slice A l.length c) l.length (cells) rfl O2.out (V1.heap.size + 1) (some ⟨V1.heap.size, 0, none⟩) 1 1 [.int .i64 y.on, .slice Y1 y.slots.length y1, .slice Y2 y.code.length y2, .int .i64 y.bound] rfl HL.out rfl (fun u hu => by simp only [List.mem_cons, List.not_mem_nil, or_false] at hu; rcases hu with rfl | rfl | rfl | rfl <;> rfl) (by simp only [maxLen]; omega) (by omega) HB2.out ?_
              intro A2 c2 V3 own5 hg5 hor5 _ _
              have Q3 := Lib.hid (Q2.out.grow O2.out hg5 (by decide))
              replace OT := Lib.hid (own_keepsTy OT.out ((Keeps.refl (fun k => (Value.slice A l.length c).ownBlock = some k) _).grown hg5 (fun _ e _ => e)) (own_ofTy O2.out) (by decide))
              have O3 := Lib.hid own5
              have Q4 := Lib.hid (Q3.out.put 5 (.slice A2 (l.length + 1) c2))
              have O4 := Lib.hid (own_put Q3.out O3.out (by decide) 5 (.slice A2 (l.length + 1) c2))
              have f5 := Q3.out.box.free 5
              have c5 := Q3.out.box.cellAt 5
              replace OT := Lib.hid (own_put Q3.out OT.out (by decide) 5 (.slice A2 (l.length + 1) c2))
              have GROWN := Lib.hid hg5
              have OLDROW := O2
              clear own5 hor5 hT1 HL HB2 O2
              refine hK.out _ _ (trivial) (fun h => absurd h (by decide)) ?_
              clear hK K
              go_simp
              refine upTo_take (i := 6) (v := ?v8) rfl (by kernel_rfl) (by kernel_rfl) (by kernel_rfl) (fun _ _ _ h => by first | exact h | exact absurd h.1 (fun e => by cases e)) (by decide) (Or.inl ⟨by rfl, ?hy8⟩) (trivial) (fun h => absurd h (by decide)) ?rest8
              case hy8 =>
                intro w hSw
                clear hSw
                go_simp
                try with_reducible rfl
              go_simp
              refine upTo_next (i := 7) (by kernel_rfl) rfl ?_
              intro K hK
              go_simp
              refine hK.out _ _ (trivial) (fun h => absurd h (by decide)) ?_
              clear hK K
              go_simp
              refine upTo_done (by kernel_rfl) ?_ _
              have hlen : (l ++ [y]).length = l.length + 1 := by simp
              have UP3 := OUp.push OlE_k (by unfold OlEt; decide) UP.out rfl HEL.out GROWN.out O3.out
              have UPN : Hid (UPe _ w.heap.size (.slice A2 (l ++ [y]).length c2) (l ++ [y]) _) := Lib.hid (OUp.kind OlE_k (by rw [hlen]; exact UP3) ((Keeps.refl (fun k => k = xb) _).setCell (p := ⟨xb, 5, none⟩) (fun _ => rfl) (.slice A2 (l.length + 1) c2)) (t' := 40) (fun k e => by rw [e]; exact ⟨_, _, Q3.out.box⟩) (by unfold OlEt; decide) (by decide))
              have QN : Hid (Rw w _ rb g off cap b j1 en H1 40 w.heap.size xb #[.int .i64 0, .int .i64 0, .int .i64 0, .int .i64 0, .slice none 0 0, .slice none 0 0] #[.int .i64 (y0 : Int), .int .i64 (yc : Int), .int .i64 (yp : Int), .int .i64 (yh : Int), .slice T tl.length tc, .slice A2 (l ++ [y]).length c2]) := Lib.hid (by rw [hlen]; exact Q4.out)
              have GN : Hid (Goes (repP effP (l ++ [y]).length) (b.take en) i6 F6 j1 H1 (l ++ [y])) := Lib.hid (by rw [hlen]; exact GL.out.snoc HG1.out)
              have HJ' : Hid (i6 ≤ j1) := Lib.hid (by have := HJ.out; omega)
              have HS' : Hid (∀ x ∈ l ++ [y], EffFew x) := Lib.hid fun x hx => by
                rcases List.mem_append.1 hx with hx | hx
                · exact HS.out x hx
                · rw [List.mem_singleton.1 hx]; exact HFEW.out
              clear UP3 UP HEL Q3 O3 Q4 O4 GL HG1 HJ HS HFEW f5 c5 GROWN OLDROW Q2
              go_wp2_with fail
              exact ⟨⟨l ++ [y], _, A2, c2, j1, H1, by omega, by rw [hlen]; go_num, QN, OT, UPN, GN, HJ', HS'⟩, by simp [intOf]; omega⟩
            · obtain hle : l.length = n2 := by omega
              replace GL : Hid (Goes (repP effP n2) (b.take en) i6 F6 j none l) := Lib.hid (by rw [← hle]; exact GL.out)
              clear hle
              obtain ⟨x0, x1, x2, x3, x4, x5⟩ := six Q.out.box
              obtain ⟨z0, z1, z2, z3, z4, z5⟩ := six Q.out.res
              have zf0 := Q.out.res.free 0
              have zf1 := Q.out.res.free 1
              have zf2 := Q.out.res.free 2
              have zf3 := Q.out.res.free 3
              have zf4 := Q.out.res.free 4
              have zf5 := Q.out.res.free 5
              have RF := Lib.hid ((((((Q.out.res.put 0 (.int .i64 (y0 : Int))).put 1 (.int .i64 (yc : Int))).put 2 (.int .i64 (yp : Int))).put 3 (.int .i64 (yh : Int))).put 4 (.slice T tl.length tc)).put 5 (.slice A l.length c))
              have KF := Lib.hid (((((((Keeps.refl (fun k => k = w.heap.size) wr).setCell (p := ⟨w.heap.size, 0, none⟩) (fun _ => rfl) (.int .i64 (y0 : Int))).setCell (p := ⟨w.heap.size, 1, none⟩) (fun _ => rfl) (.int .i64 (yc : Int))).setCell (p := ⟨w.heap.size, 2, none⟩) (fun _ => rfl) (.int .i64 (yp : Int))).setCell (p := ⟨w.heap.size, 3, none⟩) (fun _ => rfl) (.int .i64 (yh : Int))).setCell (p := ⟨w.heap.size, 4, none⟩) (fun _ => rfl) (.slice T tl.length tc)).setCell (p := ⟨w.heap.size, 5, none⟩) (fun _ => rfl) (.slice A l.length c))
              go_wp2_with fail
              refine bodyPost_ret (results_cell rfl _ w.heap.size rfl (#[.int .i64 (y0 : Int), .int .i64 (yc : Int), .int .i64 (yp : Int), .int .i64 (yh : Int), .slice T tl.length tc, .slice A l.length c]) _ RF.out _ Tryz.underlying40 rfl (by kernel_rfl)) rfl ?_
              have hlo := Q.out.lo
              refine ⟨⟨y0, yc, yp, yh, tl, l⟩, T, A, tc, c, by rw [kndV_mk], own_keepsS OT.out KF.out (fun k hb e => own_not OT.out Q.out.res (by decide) (by rw [hb, e])), ⟨cells, OUp.kind OlE_k UP.out KF.out (t' := 40) (fun k e => by rw [e]; exact ⟨_, _, Q.out.res⟩) (by unfold OlEt; decide) (by decide)⟩, ⟨by show tl.length ≤ _; omega, by show l.length ≤ _; omega, HS.out⟩, ⟨j, _, ?_, by have := HJ.out; have := HI6.out; omega, Q.out.rd.calm KF.out (fun k hk e => by omega)⟩, Q.out.keeps.and KF.out (fun k hk e => by omega)⟩
              have q1 : Goes (listP 1 effP) (b.take en) _ _ _ _ l := G6.out.seq (by rw [Int.toNat_natCast]; exact GL.out)
              have q2 : Goes (listP 1 (numP 2)) (b.take en) i4 F4 _ _ tl := G5.out.seq (by rw [Int.toNat_natCast]; exact GT.out)
              exact G1.out.seq (G2.out.seq (G3.out.seq (G4.out.seq (q2.seq (q1.map fun e => (⟨y0, yc, yp, yh, tl, e⟩ : Knd))))))
      · go_wp2_with fail
        clear hlt hfi hfe hf0 hf1 hf2
        have GT := GL
        have OT := OW
        have HJT := HJ
        clear GL OW HJ
        refine (number_ref 1 Q.out.rd (by decide)).mono ?_
        rintro r W6 ⟨n2, rfl, hn2, _, ⟨i6, F6, hg, hi6, hr⟩, hk⟩
        have hn28 : n2 < 256 := hn2
        have hw := wrapI_id n2 (by omega)
        have G6 := Lib.hid hg
        replace OT := Lib.hid (own_call Q.out OT.out hk)
        replace Q := Lib.hid (Q.out.call hk hr)
        have HI6 : Hid (i ≤ i6) := Lib.hid (by have := HJT.out; omega)
        have UP : Hid (UPe W6 w.heap.size (.slice none 0 0) [] []) := Lib.hid OUp.nil
        clear hg hr hk hn2 a0 a1 a2 a3 HJT
        go_wp2_with fail
        clear hw
        go_loopw [6] (fun vi wr => ∃ (l : List Eff) (cells : List Value) (A : Option Addr) (c j : Nat) (G : Flt), l.length ≤ n2 ∧ vi = .int .i64 l.length ∧ Hid (Rw w wr rb g off cap b j en G 40 w.heap.size xb #[.int .i64 0, .int .i64 0, .int .i64 0, .int .i64 0, .slice none 0 0, .slice none 0 0] #[.int .i64 (y0 : Int), .int .i64 (yc : Int), .int .i64 (yp : Int), .int .i64 (yh : Int), .slice T tl.length tc, .slice A l.length c]) ∧ Hid (wr.ownsRow w.heap.size 3 1 (.slice T tl.length tc) tl.length (tl.map (Value.int .i64))) ∧ Hid (UPe wr w.heap.size (.slice A l.length c) l cells) ∧ Hid (Goes (repP effP l.length) (b.take en) i6 F6 j G l) ∧ Hid (i6 ≤ j) ∧ Hid (∀ x ∈ l, EffFew x)) (fun vi _ => n2 - (intOf vi).toNat)
        case atStart => exact ⟨[], [], none, 0, i6, F6, Nat.zero_le _, rfl, Q, OT, UP, Lib.hid (Goes.ret _), Lib.hid (Nat.le_refl _), Lib.hid (fun _ h => by cases h)⟩
        case round =>
          clear Q OT UP
          rename_i wr0
          obtain ⟨l, cells, A, c, j, G, hl2, rfl, Q, OT, UP, GL, HJ, HS⟩ := hrel
          have hbx := Q.out.rd.rq.box
          unfold rfC at hbx
          obtain ⟨a0, a1, a2, a3⟩ := four hbx
          clear hbx
          cases G with
          | some f =>
            obtain ⟨hf0, hf1, hf2⟩ := Q.out.rd.rq.nz f rfl
            have hfi : ¬ ((f.1 : Int) = 0) := by omega
            have hfe : ((f.1 : Int) == 0) = false := by simp; exact hf0
            unfold rfI at a1
            unfold rfE at a3
            simp only [] at a1 a3
            replace GL : Hid (Goes (repP effP n2) (b.take en) i6 F6 j (some f) l) := Lib.hid (GL.out.more hl2)
            by_cases hlt : l.length < n2
            · obtain ⟨x0, x1, x2, x3, x4, x5⟩ := six Q.out.box
              obtain ⟨z0, z1, z2, z3, z4, z5⟩ := six Q.out.res
              have zf0 := Q.out.res.free 0
              have zf1 := Q.out.res.free 1
              have zf2 := Q.out.res.free 2
              have zf3 := Q.out.res.free 3
              have zf4 := Q.out.res.free 4
              have zf5 := Q.out.res.free 5
              have RF := Lib.hid ((((((Q.out.res.put 0 (.int .i64 (y0 : Int))).put 1 (.int .i64 (yc : Int))).put 2 (.int .i64 (yp : Int))).put 3 (.int .i64 (yh : Int))).put 4 (.slice T tl.length tc)).put 5 (.slice A l.length c))
              have KF := Lib.hid (((((((Keeps.refl (fun k => k = w.heap.size) wr).setCell (p := ⟨w.heap.size, 0, none⟩) (fun _ => rfl) (.int .i64 (y0 : Int))).setCell (p := ⟨w.heap.size, 1, none⟩) (fun _ => rfl) (.int .i64 (yc : Int))).setCell (p := ⟨w.heap.size, 2, none⟩) (fun _ => rfl) (.int .i64 (yp : Int))).setCell (p := ⟨w.heap.size, 3, none⟩) (fun _ => rfl) (.int .i64 (yh : Int))).setCell (p := ⟨w.heap.size, 4, none⟩) (fun _ => rfl) (.slice T tl.length tc)).setCell (p := ⟨w.heap.size, 5, none⟩) (fun _ => rfl) (.slice A l.length c))
              go_wp2_with fail
              refine bodyPost_ret (results_cell rfl _ w.heap.size rfl (#[.int .i64 (y0 : Int), .int .i64 (yc : Int), .int .i64 (yp : Int), .int .i64 (yh : Int), .slice T tl.length tc, .slice A l.length c]) _ RF.out _ Tryz.underlying40 rfl (by kernel_rfl)) rfl ?_
              have hlo := Q.out.lo
              refine ⟨⟨y0, yc, yp, yh, tl, l⟩, T, A, tc, c, by rw [kndV_mk], own_keepsS OT.out KF.out (fun k hb e => own_not OT.out Q.out.res (by decide) (by rw [hb, e])), ⟨cells, OUp.kind OlE_k UP.out KF.out (t' := 40) (fun k e => by rw [e]; exact ⟨_, _, Q.out.res⟩) (by unfold OlEt; decide) (by decide)⟩, ⟨by show tl.length ≤ _; omega, by show l.length ≤ _; omega, HS.out⟩, ⟨j, _, ?_, by have := HJ.out; have := HI6.out; omega, Q.out.rd.calm KF.out (fun k hk e => by omega)⟩, Q.out.keeps.and KF.out (fun k hk e => by omega)⟩
              have q1 : Goes (listP 1 effP) (b.take en) _ _ _ _ l := G6.out.seq (by rw [Int.toNat_natCast]; exact GL.out)
              have q2 : Goes (listP 1 (numP 2)) (b.take en) i4 F4 _ _ tl := G5.out.seq (by rw [Int.toNat_natCast]; exact GT.out)
              exact G1.out.seq (G2.out.seq (G3.out.seq (G4.out.seq (q2.seq (q1.map fun e => (⟨y0, yc, yp, yh, tl, e⟩ : Knd))))))
            · obtain ⟨x0, x1, x2, x3, x4, x5⟩ := six Q.out.box
              obtain ⟨z0, z1, z2, z3, z4, z5⟩ := six Q.out.res
              have zf0 := Q.out.res.free 0
              have zf1 := Q.out.res.free 1
              have zf2 := Q.out.res.free 2
              have zf3 := Q.out.res.free 3
              have zf4 := Q.out.res.free 4
              have zf5 := Q.out.res.free 5
              have RF := Lib.hid ((((((Q.out.res.put 0 (.int .i64 (y0 : Int))).put 1 (.int .i64 (yc : Int))).put 2 (.int .i64 (yp : Int))).put 3 (.int .i64 (yh : Int))).put 4 (.slice T tl.length tc)).put 5 (.slice A l.length c))
              have KF := Lib.hid (((((((Keeps.refl (fun k => k = w.heap.size) wr).setCell (p := ⟨w.heap.size, 0, none⟩) (fun _ => rfl) (.int .i64 (y0 : Int))).setCell (p := ⟨w.heap.size, 1, none⟩) (fun _ => rfl) (.int .i64 (yc : Int))).setCell (p := ⟨w.heap.size, 2, none⟩) (fun _ => rfl) (.int .i64 (yp : Int))).setCell (p := ⟨w.heap.size, 3, none⟩) (fun _ => rfl) (.int .i64 (yh : Int))).setCell (p := ⟨w.heap.size, 4, none⟩) (fun _ => rfl) (.slice T tl.length tc)).setCell (p := ⟨w.heap.size, 5, none⟩) (fun _ => rfl) (.slice A l.length c))
              go_wp2_with fail
              refine bodyPost_ret (results_cell rfl _ w.heap.size rfl (#[.int .i64 (y0 : Int), .int .i64 (yc : Int), .int .i64 (yp : Int), .int .i64 (yh : Int), .slice T tl.length tc, .slice A l.length c]) _ RF.out _ Tryz.underlying40 rfl (by kernel_rfl)) rfl ?_
              have hlo := Q.out.lo
              refine ⟨⟨y0, yc, yp, yh, tl, l⟩, T, A, tc, c, by rw [kndV_mk], own_keepsS OT.out KF.out (fun k hb e => own_not OT.out Q.out.res (by decide) (by rw [hb, e])), ⟨cells, OUp.kind OlE_k UP.out KF.out (t' := 40) (fun k e => by rw [e]; exact ⟨_, _, Q.out.res⟩) (by unfold OlEt; decide) (by decide)⟩, ⟨by show tl.length ≤ _; omega, by show l.length ≤ _; omega, HS.out⟩, ⟨j, _, ?_, by have := HJ.out; have := HI6.out; omega, Q.out.rd.calm KF.out (fun k hk e => by omega)⟩, Q.out.keeps.and KF.out (fun k hk e => by omega)⟩
              have q1 : Goes (listP 1 effP) (b.take en) _ _ _ _ l := G6.out.seq (by rw [Int.toNat_natCast]; exact GL.out)
              have q2 : Goes (listP 1 (numP 2)) (b.take en) i4 F4 _ _ tl := G5.out.seq (by rw [Int.toNat_natCast]; exact GT.out)
              exact G1.out.seq (G2.out.seq (G3.out.seq (G4.out.seq (q2.seq (q1.map fun e => (⟨y0, yc, yp, yh, tl, e⟩ : Knd))))))
          | none =>
            unfold rfI at a1
            unfold rfE at a3
            simp only [] at a1 a3
            by_cases hlt : l.length < n2
            · have OW := Lib.hid UP.out.own
              have QD := Lib.hid (Q.out.past ((Keeps.refl (fun _ => False) wr).drew))
              have OD := Lib.hid (own_keepsS OW.out ((Keeps.refl (fun _ => False) wr).drew) (fun _ _ => id))
              have hT0 : Hid (wr.drew.cell? ⟨xb, 5, none⟩ = some (.slice A l.length c)) := Lib.hid (QD.out.box.cellAt 5)
              have HC := Lib.hid (effectRd_ref QD.out.rd)
              have HBASE : Hid (w.heap.size ≤ wr.drew.heap.size) := Lib.hid QD.out.keeps.size
              replace OT := Lib.hid (own_keepsS OT.out ((Keeps.refl (fun _ => False) wr).drew) (fun _ _ => id))
              replace UP := Lib.hid (UP.out.keeps ((Keeps.refl (fun _ => False) wr).drew) (fun _ _ => id))
              clear Q OW
              go_wp2_with fail
              refine wp_region_upTo 5 (fun _ => True) (fun W => W.cell? ⟨xb, 5, none⟩ = some (.slice A l.length c)) (by kernel_rfl) ?_
              refine upTo_take (i := 0) (v := ?v9) rfl (by kernel_rfl) (by kernel_rfl) (by kernel_rfl) (fun _ _ _ h => by first | exact h | exact absurd h.1 (fun e => by cases e)) (by decide) (Or.inl ⟨by rfl, ?hy9⟩) (trivial) (fun _ => hT0.out) ?rest9
              case hy9 =>
                intro w hSw
                clear hSw
                go_simp
                try with_reducible rfl
              go_simp
              refine upTo_load (i := 1) (v := ?v10) rfl (by kernel_rfl) (by kernel_rfl) (by kernel_rfl) (fun _ _ _ h => by first | exact h | exact absurd h.1 (fun e => by cases e)) (by decide) (by kernel_rfl) (by kernel_rfl) (Or.inl ⟨by rfl, ?hy10⟩) (trivial) (hT0.out) ?rest10
              case hy10 =>
                intro w hSw
                obtain qh := hSw
                go_simp
                try with_reducible rfl
              go_simp
              refine upTo_take (i := 2) (v := ?v11) rfl (by kernel_rfl) (by kernel_rfl) (by kernel_rfl) (fun _ _ _ h => by first | exact h | exact absurd h.1 (fun e => by cases e)) (by decide) (Or.inl ⟨by rfl, ?hy11⟩) (trivial) (fun _ => hT0.out) ?rest11
              case hy11 =>
                intro w hSw
                clear hSw
                go_simp
                try with_reducible rfl
              go_simp
              refine upTo_next (i := 3) (by kernel_rfl) rfl ?_
              intro K hK
              go_simp
              refine (HC.out).mono ?_
              rintro r V1 ⟨y, Y1, Y2, y1, y2, rfl, hE1, hE2, hfew, ⟨j1, H1, hh1, hj1, hr⟩, hk⟩
              have HEL : Hid (OlE V1 w.heap.size [.int .i64 y.on, .slice Y1 y.slots.length y1, .slice Y2 y.code.length y2, .int .i64 y.bound] y) := Lib.hid ⟨Y1, Y2, y1, y2, rfl, hE1.less HBASE.out, hE2.less HBASE.out⟩
              have HG1 := Lib.hid hh1
              have HFEW := Lib.hid hfew
              unfold effV
              clear hE1 hE2 hfew hh1
              have Q1 := Lib.hid (QD.out.call hk hr)
              have O1 := Lib.hid (own_call QD.out OD.out hk)
              replace OT := Lib.hid (own_call QD.out OT.out hk)
              replace UP := Lib.hid (UP.out.keeps hk (fun k hk e => by have := QD.out.lo; omega))
              have hT1 : Hid (V1.cell? ⟨xb, 5, none⟩ = some (.slice A l.length c)) := Lib.hid (Q1.out.box.cellAt 5)
              replace HBASE := Lib.hid (Nat.le_trans HBASE.out hk.size)
              clear hr hk HC hT0 QD OD
              refine hK.out _ _ (trivial) (fun _ => hT1.out) ?_
              clear hK K
              go_simp
              have ka := (Keeps.refl (fun _ => False) V1).alloc (.cells #[.int .i64 y.on, .slice Y1 y.slots.length y1, .slice Y2 y.code.length y2, .int .i64 y.bound] 43)
              have Q2 := Lib.hid (Q1.out.past ka)
              have O2 := Lib.hid (own_keepsS O1.out ka (fun _ _ => id))
              have HL := Lib.hid (Lies.row (fr := (0, 0)) (xs := [.int .i64 y.on, .slice Y1 y.slots.length y1, .slice Y2 y.code.length y2, .int .i64 y.bound]) (Whole.made V1 43 #[.int .i64 y.on, .slice Y1 y.slots.length y1, .slice Y2 y.code.length y2, .int .i64 y.bound]) (Nat.lt_succ_self _))
              replace OT := Lib.hid (own_keepsS OT.out ka (fun _ _ => id))
              replace UP := Lib.hid (UP.out.keeps ka (fun _ _ => id))
              replace HEL := Lib.hid (HEL.out.keeps ka (fun _ _ => id))
              have HB2 := Lib.hid (Nat.le_trans HBASE.out ka.size)
              clear ka Q1 O1 HBASE
              refine upTo_next (i := 4) (by kernel_rfl) rfl ?_
              intro K hK
              go_simp
              refine hK.out _ _ (trivial) (fun _ => Q2.out.box.cellAt 5) ?_
              clear hK K
              go_simp
              refine upTo_next (i := 5) (by kernel_rfl) rfl ?_
              intro K hK
              refine stepIfT (by rfl) ?_
              refine wp_append_cells _ _ _ 38 rfl w.heap.size 43 (.agg #[.int .i64 0, .slice none 0 0, .slice none 0 0, .int .i64 0]) 4 64 Tryz.underlying38 info_effD rfl (by decide) (.slice A l.length c) l.length (cells) rfl O2.out (V1.heap.size + 1) (some ⟨V1.heap.size, 0, none⟩) 1 1 [.int .i64 y.on, .slice Y1 y.slots.length y1, .slice Y2 y.code.length y2, .int .i64 y.bound] rfl HL.out rfl (fun u hu => by simp only [List.mem_cons, List.not_mem_nil, or_false] at hu; rcases hu with rfl | rfl | rfl | rfl <;> rfl) (by simp only [maxLen]; omega) (by omega) HB2.out ?_
              intro A2 c2 V3 own5 hg5 hor5 _ _
              have Q3 := Lib.hid (Q2.out.grow O2.out hg5 (by decide))
              replace OT := Lib.hid (own_keepsTy OT.out ((Keeps.refl (fun k => (Value.slice A l.length c).ownBlock = some k) _).grown hg5 (fun _ e _ => e)) (own_ofTy O2.out) (by decide))
              have O3 := Lib.hid own5
              have Q4 := Lib.hid (Q3.out.put 5 (.slice A2 (l.length + 1) c2))
              have O4 := Lib.hid (own_put Q3.out O3.out (by decide) 5 (.slice A2 (l.length + 1) c2))
              have f5 := Q3.out.box.free 5
              have c5 := Q3.out.box.cellAt 5
              replace OT := Lib.hid (own_put Q3.out OT.out (by decide) 5 (.slice A2 (l.length + 1) c2))
              have GROWN := Lib.hid hg5
              have OLDROW := O2
              clear own5 hor5 hT1 HL HB2 O2
              refine hK.out _ _ (trivial) (fun h => absurd h (by decide)) ?_
              clear hK K
              go_simp
              refine upTo_take (i := 6) (v := ?v12) rfl (by kernel_rfl) (by kernel_rfl) (by kernel_rfl) (fun _ _ _ h => by first | exact h | exact absurd h.1 (fun e => by cases e)) (by decide) (Or.inl ⟨by rfl, ?hy12⟩) (trivial) (fun h => absurd h (by decide)) ?rest12
              case hy12 =>
                intro w hSw
                clear hSw
                go_simp
                try with_reducible rfl
              go_simp
              refine upTo_next (i := 7) (by kernel_rfl) rfl ?_
              intro K hK
              go_simp
              refine hK.out _ _ (trivial) (fun h => absurd h (by decide)) ?_
              clear hK K
              go_simp
              refine upTo_done (by kernel_rfl) ?_ _
              have hlen : (l ++ [y]).length = l.length + 1 := by simp
              have UP3 := OUp.push OlE_k (by unfold OlEt; decide) UP.out rfl HEL.out GROWN.out O3.out
              have UPN : Hid (UPe _ w.heap.size (.slice A2 (l ++ [y]).length c2) (l ++ [y]) _) := Lib.hid (OUp.kind OlE_k (by rw [hlen]; exact UP3) ((Keeps.refl (fun k => k = xb) _).setCell (p := ⟨xb, 5, none⟩) (fun _ => rfl) (.slice A2 (l.length + 1) c2)) (t' := 40) (fun k e => by rw [e]; exact ⟨_, _, Q3.out.box⟩) (by unfold OlEt; decide) (by decide))
              have QN : Hid (Rw w _ rb g off cap b j1 en H1 40 w.heap.size xb #[.int .i64 0, .int .i64 0, .int .i64 0, .int .i64 0, .slice none 0 0, .slice none 0 0] #[.int .i64 (y0 : Int), .int .i64 (yc : Int), .int .i64 (yp : Int), .int .i64 (yh : Int), .slice T tl.length tc, .slice A2 (l ++ [y]).length c2]) := Lib.hid (by rw [hlen]; exact Q4.out)
              have GN : Hid (Goes (repP effP (l ++ [y]).length) (b.take en) i6 F6 j1 H1 (l ++ [y])) := Lib.hid (by rw [hlen]; exact GL.out.snoc HG1.out)
              have HJ' : Hid (i6 ≤ j1) := Lib.hid (by have := HJ.out; omega)
              have HS' : Hid (∀ x ∈ l ++ [y], EffFew x) := Lib.hid fun x hx => by
                rcases List.mem_append.1 hx with hx | hx
                · exact HS.out x hx
                · rw [List.mem_singleton.1 hx]; exact HFEW.out
              clear UP3 UP HEL Q3 O3 Q4 O4 GL HG1 HJ HS HFEW f5 c5 GROWN OLDROW Q2
              go_wp2_with fail
              exact ⟨⟨l ++ [y], _, A2, c2, j1, H1, by omega, by rw [hlen]; go_num, QN, OT, UPN, GN, HJ', HS'⟩, by simp [intOf]; omega⟩
            · obtain hle : l.length = n2 := by omega
              replace GL : Hid (Goes (repP effP n2) (b.take en) i6 F6 j none l) := Lib.hid (by rw [← hle]; exact GL.out)
              clear hle
              obtain ⟨x0, x1, x2, x3, x4, x5⟩ := six Q.out.box
              obtain ⟨z0, z1, z2, z3, z4, z5⟩ := six Q.out.res
              have zf0 := Q.out.res.free 0
              have zf1 := Q.out.res.free 1
              have zf2 := Q.out.res.free 2
              have zf3 := Q.out.res.free 3
              have zf4 := Q.out.res.free 4
              have zf5 := Q.out.res.free 5
              have RF := Lib.hid ((((((Q.out.res.put 0 (.int .i64 (y0 : Int))).put 1 (.int .i64 (yc : Int))).put 2 (.int .i64 (yp : Int))).put 3 (.int .i64 (yh : Int))).put 4 (.slice T tl.length tc)).put 5 (.slice A l.length c))
              have KF := Lib.hid (((((((Keeps.refl (fun k => k = w.heap.size) wr).setCell (p := ⟨w.heap.size, 0, none⟩) (fun _ => rfl) (.int .i64 (y0 : Int))).setCell (p := ⟨w.heap.size, 1, none⟩) (fun _ => rfl) (.int .i64 (yc : Int))).setCell (p := ⟨w.heap.size, 2, none⟩) (fun _ => rfl) (.int .i64 (yp : Int))).setCell (p := ⟨w.heap.size, 3, none⟩) (fun _ => rfl) (.int .i64 (yh : Int))).setCell (p := ⟨w.heap.size, 4, none⟩) (fun _ => rfl) (.slice T tl.length tc)).setCell (p := ⟨w.heap.size, 5, none⟩) (fun _ => rfl) (.slice A l.length c))
              go_wp2_with fail
              refine bodyPost_ret (results_cell rfl _ w.heap.size rfl (#[.int .i64 (y0 : Int), .int .i64 (yc : Int), .int .i64 (yp : Int), .int .i64 (yh : Int), .slice T tl.length tc, .slice A l.length c]) _ RF.out _ Tryz.underlying40 rfl (by kernel_rfl)) rfl ?_
              have hlo := Q.out.lo
              refine ⟨⟨y0, yc, yp, yh, tl, l⟩, T, A, tc, c, by rw [kndV_mk], own_keepsS OT.out KF.out (fun k hb e => own_not OT.out Q.out.res (by decide) (by rw [hb, e])), ⟨cells, OUp.kind OlE_k UP.out KF.out (t' := 40) (fun k e => by rw [e]; exact ⟨_, _, Q.out.res⟩) (by unfold OlEt; decide) (by decide)⟩, ⟨by show tl.length ≤ _; omega, by show l.length ≤ _; omega, HS.out⟩, ⟨j, _, ?_, by have := HJ.out; have := HI6.out; omega, Q.out.rd.calm KF.out (fun k hk e => by omega)⟩, Q.out.keeps.and KF.out (fun k hk e => by omega)⟩
              have q1 : Goes (listP 1 effP) (b.take en) _ _ _ _ l := G6.out.seq (by rw [Int.toNat_natCast]; exact GL.out)
              have q2 : Goes (listP 1 (numP 2)) (b.take en) i4 F4 _ _ tl := G5.out.seq (by rw [Int.toNat_natCast]; exact GT.out)
              exact G1.out.seq (G2.out.seq (G3.out.seq (G4.out.seq (q2.seq (q1.map fun e => (⟨y0, yc, yp, yh, tl, e⟩ : Knd))))))
    | none =>
      unfold rfI at a1
      unfold rfE at a3
      simp only [] at a1 a3
      by_cases hlt : tl.length < n
      · have QD := Lib.hid (Q.out.past ((Keeps.refl (fun _ => False) wr).drew))
        have OD := Lib.hid (own_keepsS OW.out ((Keeps.refl (fun _ => False) wr).drew) (fun _ _ => id))
        have hT0 : Hid (wr.drew.cell? ⟨xb, 4, none⟩ = some (.slice T tl.length tc)) := Lib.hid (QD.out.box.cellAt 4)
        have HC := Lib.hid (number_ref 2 QD.out.rd (by decide))
        have HBASE : Hid (w.heap.size ≤ wr.drew.heap.size) := Lib.hid QD.out.keeps.size
        clear Q OW
        go_wp2_with fail
        refine wp_region_upTo 6 (fun _ => True) (fun W => W.cell? ⟨xb, 4, none⟩ = some (.slice T tl.length tc)) (by kernel_rfl) ?_
        refine upTo_take (i := 0) (v := ?v1) rfl (by kernel_rfl) (by kernel_rfl) (by kernel_rfl) (fun _ _ _ h => by first | exact h | exact absurd h.1 (fun e => by cases e)) (by decide) (Or.inl ⟨by rfl, ?hy1⟩) (trivial) (fun _ => hT0.out) ?rest1
        case hy1 =>
          intro w hSw
          clear hSw
          go_simp
          try with_reducible rfl
        go_simp
        refine upTo_load (i := 1) (v := ?v2) rfl (by kernel_rfl) (by kernel_rfl) (by kernel_rfl) (fun _ _ _ h => by first | exact h | exact absurd h.1 (fun e => by cases e)) (by decide) (by kernel_rfl) (by kernel_rfl) (Or.inl ⟨by rfl, ?hy2⟩) (trivial) (hT0.out) ?rest2
        case hy2 =>
          intro w hSw
          obtain qh := hSw
          go_simp
          try with_reducible rfl
        go_simp
        refine upTo_take (i := 2) (v := ?v3) rfl (by kernel_rfl) (by kernel_rfl) (by kernel_rfl) (fun _ _ _ h => by first | exact h | exact absurd h.1 (fun e => by cases e)) (by decide) (Or.inl ⟨by rfl, ?hy3⟩) (trivial) (fun _ => hT0.out) ?rest3
        case hy3 =>
          intro w hSw
          clear hSw
          go_simp
          try with_reducible rfl
        go_simp
        refine upTo_next (i := 3) (by kernel_rfl) rfl ?_
        intro K hK
        go_simp
        refine (HC.out).mono ?_
        rintro r V1 ⟨y, rfl, hy, _, ⟨j1, H1, hh1, hj1, hr⟩, hk⟩
        have hy8 : y < 65536 := hy
        have hw8 := wrapI_id y (by omega)
        have HG1 := Lib.hid hh1
        clear hy hh1
        have Q1 := Lib.hid (QD.out.call hk hr)
        have O1 := Lib.hid (own_call QD.out OD.out hk)
        have hT1 : Hid (V1.cell? ⟨xb, 4, none⟩ = some (.slice T tl.length tc)) := Lib.hid (Q1.out.box.cellAt 4)
        replace HBASE := Lib.hid (Nat.le_trans HBASE.out hk.size)
        clear hr hk HC hT0 QD OD
        refine hK.out _ _ (trivial) (fun _ => hT1.out) ?_
        clear hK K
        go_simp
        refine upTo_next (i := 4) (by kernel_rfl) rfl ?_
        intro K hK
        go_simp
        refine hK.out _ _ (trivial) (fun _ => hT1.out) ?_
        clear hK K
        go_simp
        have ka := (Keeps.refl (fun _ => False) V1).alloc (.cells #[.int .i64 (y : Int)] 3)
        have Q2 := Lib.hid (Q1.out.past ka)
        have O2 := Lib.hid (own_keepsS O1.out ka (fun _ _ => id))
        have HL := Lib.hid (Lies.row (fr := (0, 0)) (xs := [.int .i64 (y : Int)]) (Whole.made V1 3 #[.int .i64 (y : Int)]) (Nat.lt_succ_self _))
        have HB2 := Lib.hid (Nat.le_trans HBASE.out ka.size)
        clear ka Q1 O1 HBASE
        refine upTo_next (i := 5) (by kernel_rfl) rfl ?_
        intro K hK
        go_simp
        refine hK.out _ _ (trivial) (fun _ => Q2.out.box.cellAt 4) ?_
        clear hK K
        go_simp
        refine upTo_next (i := 6) (by kernel_rfl) rfl ?_
        intro K hK
        refine stepIfT (by rfl) ?_
        refine wp_append_cells _ _ _ 37 rfl w.heap.size 3 (.int .i64 0) 1 8 Tryz.underlying37 info_intD rfl (by decide) (.slice T tl.length tc) tl.length (tl.map (Value.int .i64)) rfl O2.out (V1.heap.size + 1) (some ⟨V1.heap.size, 0, none⟩) 1 1 [.int .i64 (y : Int)] rfl HL.out rfl (fun u hu => by obtain rfl : u = _ := List.mem_singleton.1 hu; rfl) (by simp only [maxLen]; omega) (by omega) HB2.out ?_
        intro A2 c2 V3 own5 hg5 hor5 _ _
        have Q3 := Lib.hid (Q2.out.grow O2.out hg5 (by decide))
        have O3 := Lib.hid own5
        have Q4 := Lib.hid (Q3.out.put 4 (.slice A2 (tl.length + 1) c2))
        have O4 := Lib.hid (own_put Q3.out O3.out (by decide) 4 (.slice A2 (tl.length + 1) c2))
        have f5 := Q3.out.box.free 4
        have c5 := Q3.out.box.cellAt 4
        have GROWN := Lib.hid hg5
        have OLDROW := O2
        clear own5 hor5 hT1 HL HB2 O2
        refine hK.out _ _ (trivial) (fun h => absurd h (by decide)) ?_
        clear hK K
        go_simp
        refine upTo_take (i := 7) (v := ?v4) rfl (by kernel_rfl) (by kernel_rfl) (by kernel_rfl) (fun _ _ _ h => by first | exact h | exact absurd h.1 (fun e => by cases e)) (by decide) (Or.inl ⟨by rfl, ?hy4⟩) (trivial) (fun h => absurd h (by decide)) ?rest4
        case hy4 =>
          intro w hSw
          clear hSw
          go_simp
          try with_reducible rfl
        go_simp
        refine upTo_next (i := 8) (by kernel_rfl) rfl ?_
        intro K hK
        go_simp
        refine hK.out _ _ (trivial) (fun h => absurd h (by decide)) ?_
        clear hK K
        go_simp
        refine upTo_done (by kernel_rfl) ?_ _
        have hlen : (tl ++ [(y : Int)]).length = tl.length + 1 := by simp
        have QN : Hid (Rw w _ rb g off cap b j1 en H1 40 w.heap.size xb #[.int .i64 0, .int .i64 0, .int .i64 0, .int .i64 0, .slice none 0 0, .slice none 0 0] #[.int .i64 (y0 : Int), .int .i64 (yc : Int), .int .i64 (yp : Int), .int .i64 (yh : Int), .slice A2 (tl ++ [(y : Int)]).length c2, .slice none 0 0]) := Lib.hid (by rw [hlen]; exact Q4.out)
        have ON : Hid (World.ownsRow _ w.heap.size 3 1 (.slice A2 (tl ++ [(y : Int)]).length c2) (tl ++ [(y : Int)]).length ((tl ++ [(y : Int)]).map (Value.int .i64))) := Lib.hid (by rw [hlen, List.map_append]; exact O4.out)
        have GN : Hid (Goes (repP (numP 2) (tl ++ [(y : Int)]).length) (b.take en) i5 F5 j1 H1 (tl ++ [(y : Int)])) := Lib.hid (by rw [hlen]; exact GL.out.snoc HG1.out)
        have HJ' : Hid (i5 ≤ j1) := Lib.hid (by have := HJ.out; omega)
        clear Q3 O3 Q4 O4 GL HG1 hw8 HJ f5 c5 GROWN OLDROW Q2
        go_wp2_with fail
        exact ⟨⟨tl ++ [(y : Int)], A2, c2, j1, H1, by omega, by rw [hlen]; go_num, QN, ON, GN, HJ'⟩, by simp [intOf]; omega⟩
      · obtain hle : tl.length = n := by omega
        replace GL : Hid (Goes (repP (numP 2) n) (b.take en) i5 F5 j none tl) := Lib.hid (by rw [← hle]; exact GL.out)
        clear hle
        go_wp2_with fail
        clear hlt
        have GT := GL
        have OT := OW
        have HJT := HJ
        clear GL OW HJ
        refine (number_ref 1 Q.out.rd (by decide)).mono ?_
        rintro r W6 ⟨n2, rfl, hn2, _, ⟨i6, F6, hg, hi6, hr⟩, hk⟩
        have hn28 : n2 < 256 := hn2
        have hw := wrapI_id n2 (by omega)
        have G6 := Lib.hid hg
        replace OT := Lib.hid (own_call Q.out OT.out hk)
        replace Q := Lib.hid (Q.out.call hk hr)
        have HI6 : Hid (i ≤ i6) := Lib.hid (by have := HJT.out; omega)
        have UP : Hid (UPe W6 w.heap.size (.slice none 0 0) [] []) := Lib.hid OUp.nil
        clear hg hr hk hn2 a0 a1 a2 a3 HJT
        go_wp2_with fail
        clear hw
        go_loopw [6] (fun vi wr => ∃ (l : List Eff) (cells : List Value) (A : Option Addr) (c j : Nat) (G : Flt), l.length ≤ n2 ∧ vi = .int .i64 l.length ∧ Hid (Rw w wr rb g off cap b j en G 40 w.heap.size xb #[.int .i64 0, .int .i64 0, .int .i64 0, .int .i64 0, .slice none 0 0, .slice none 0 0] #[.int .i64 (y0 : Int), .int .i64 (yc : Int), .int .i64 (yp : Int), .int .i64 (yh : Int), .slice T tl.length tc, .slice A l.length c]) ∧ Hid (wr.ownsRow w.heap.size 3 1 (.slice T tl.length tc) tl.length (tl.map (Value.int .i64))) ∧ Hid (UPe wr w.heap.size (.slice A l.length c) l cells) ∧ Hid (Goes (repP effP l.length) (b.take en) i6 F6 j G l) ∧ Hid (i6 ≤ j) ∧ Hid (∀ x ∈ l, EffFew x)) (fun vi _ => n2 - (intOf vi).toNat)
        case atStart => exact ⟨[], [], none, 0, i6, F6, Nat.zero_le _, rfl, Q, OT, UP, Lib.hid (Goes.ret _), Lib.hid (Nat.le_refl _), Lib.hid (fun _ h => by cases h)⟩
        case round =>
          clear Q OT UP
          rename_i wr0
          obtain ⟨l, cells, A, c, j, G, hl2, rfl, Q, OT, UP, GL, HJ, HS⟩ := hrel
          have hbx := Q.out.rd.rq.box
          unfold rfC at hbx
          obtain ⟨a0, a1, a2, a3⟩ := four hbx
          clear hbx
          cases G with
          | some f =>
            obtain ⟨hf0, hf1, hf2⟩ := Q.out.rd.rq.nz f rfl
            have hfi : ¬ ((f.1 : Int) = 0) := by omega
            have hfe : ((f.1 : Int) == 0) = false := by simp; exact hf0
            unfold rfI at a1
            unfold rfE at a3
            simp only [] at a1 a3
            replace GL : Hid (Goes (repP effP n2) (b.take en) i6 F6 j (some f) l) := Lib.hid (GL.out.more hl2)
            by_cases hlt : l.length < n2
            · obtain ⟨x0, x1, x2, x3, x4, x5⟩ := six Q.out.box
              obtain ⟨z0, z1, z2, z3, z4, z5⟩ := six Q.out.res
              have zf0 := Q.out.res.free 0
              have zf1 := Q.out.res.free 1
              have zf2 := Q.out.res.free 2
              have zf3 := Q.out.res.free 3
              have zf4 := Q.out.res.free 4
              have zf5 := Q.out.res.free 5
              have RF := Lib.hid ((((((Q.out.res.put 0 (.int .i64 (y0 : Int))).put 1 (.int .i64 (yc : Int))).put 2 (.int .i64 (yp : Int))).put 3 (.int .i64 (yh : Int))).put 4 (.slice T tl.length tc)).put 5 (.slice A l.length c))
              have KF := Lib.hid (((((((Keeps.refl (fun k => k = w.heap.size) wr).setCell (p := ⟨w.heap.size, 0, none⟩) (fun _ => rfl) (.int .i64 (y0 : Int))).setCell (p := ⟨w.heap.size, 1, none⟩) (fun _ => rfl) (.int .i64 (yc : Int))).setCell (p := ⟨w.heap.size, 2, none⟩) (fun _ => rfl) (.int .i64 (yp : Int))).setCell (p := ⟨w.heap.size, 3, none⟩) (fun _ => rfl) (.int .i64 (yh : Int))).setCell (p := ⟨w.heap.size, 4, none⟩) (fun _ => rfl) (.slice T tl.length tc)).setCell (p := ⟨w.heap.size, 5, none⟩) (fun _ => rfl) (.slice A l.length c))
              go_wp2_with fail
              refine bodyPost_ret (results_cell rfl _ w.heap.size rfl (#[.int .i64 (y0 : Int), .int .i64 (yc : Int), .int .i64 (yp : Int), .int .i64 (yh : Int), .slice T tl.length tc, .slice A l.length c]) _ RF.out _ Tryz.underlying40 rfl (by kernel_rfl)) rfl ?_
              have hlo := Q.out.lo
              refine ⟨⟨y0, yc, yp, yh, tl, l⟩, T, A, tc, c, by rw [kndV_mk], own_keepsS OT.out KF.out (fun k hb e => own_not OT.out Q.out.res (by decide) (by rw [hb, e])), ⟨cells, OUp.kind OlE_k UP.out KF.out (t' := 40) (fun k e => by rw [e]; exact ⟨_, _, Q.out.res⟩) (by unfold OlEt; decide) (by decide)⟩, ⟨by show tl.length ≤ _; omega, by show l.length ≤ _; omega, HS.out⟩, ⟨j, _, ?_, by have := HJ.out; have := HI6.out; omega, Q.out.rd.calm KF.out (fun k hk e => by omega)⟩, Q.out.keeps.and KF.out (fun k hk e => by omega)⟩
              have q1 : Goes (listP 1 effP) (b.take en) _ _ _ _ l := G6.out.seq (by rw [Int.toNat_natCast]; exact GL.out)
              have q2 : Goes (listP 1 (numP 2)) (b.take en) i4 F4 _ _ tl := G5.out.seq (by rw [Int.toNat_natCast]; exact GT.out)
              exact G1.out.seq (G2.out.seq (G3.out.seq (G4.out.seq (q2.seq (q1.map fun e => (⟨y0, yc, yp, yh, tl, e⟩ : Knd))))))
            · obtain ⟨x0, x1, x2, x3, x4, x5⟩ := six Q.out.box
              obtain ⟨z0, z1, z2, z3, z4, z5⟩ := six Q.out.res
              have zf0 := Q.out.res.free 0
              have zf1 := Q.out.res.free 1
              have zf2 := Q.out.res.free 2
              have zf3 := Q.out.res.free 3
              have zf4 := Q.out.res.free 4
              have zf5 := Q.out.res.free 5
              have RF := Lib.hid ((((((Q.out.res.put 0 (.int .i64 (y0 : Int))).put 1 (.int .i64 (yc : Int))).put 2 (.int .i64 (yp : Int))).put 3 (.int .i64 (yh : Int))).put 4 (.slice T tl.length tc)).put 5 (.slice A l.length c))
              have KF := Lib.hid (((((((Keeps.refl (fun k => k = w.heap.size) wr).setCell (p := ⟨w.heap.size, 0, none⟩) (fun _ => rfl) (.int .i64 (y0 : Int))).setCell (p := ⟨w.heap.size, 1, none⟩) (fun _ => rfl) (.int .i64 (yc : Int))).setCell (p := ⟨w.heap.size, 2, none⟩) (fun _ => rfl) (.int .i64 (yp : Int))).setCell (p := ⟨w.heap.size, 3, none⟩) (fun _ => rfl) (.int .i64 (yh : Int))).setCell (p := ⟨w.heap.size, 4, none⟩) (fun _ => rfl) (.slice T tl.length tc)).setCell (p := ⟨w.heap.size, 5, none⟩) (fun _ => rfl) (.slice A l.length c))
              go_wp2_with fail
              refine bodyPost_ret (results_cell rfl _ w.heap.size rfl (#[.int .i64 (y0 : Int), .int .i64 (yc : Int), .int .i64 (yp : Int), .int .i64 (yh : Int), .slice T tl.length tc, .slice A l.length c]) _ RF.out _ Tryz.underlying40 rfl (by kernel_rfl)) rfl ?_
              have hlo := Q.out.lo
              refine ⟨⟨y0, yc, yp, yh, tl, l⟩, T, A, tc, c, by rw [kndV_mk], own_keepsS OT.out KF.out (fun k hb e => own_not OT.out Q.out.res (by decide) (by rw [hb, e])), ⟨cells, OUp.kind OlE_k UP.out KF.out (t' := 40) (fun k e => by rw [e]; exact ⟨_, _, Q.out.res⟩) (by unfold OlEt; decide) (by decide)⟩, ⟨by show tl.length ≤ _; omega, by show l.length ≤ _; omega, HS.out⟩, ⟨j, _, ?_, by have := HJ.out; have := HI6.out; omega, Q.out.rd.calm KF.out (fun k hk e => by omega)⟩, Q.out.keeps.and KF.out (fun k hk e => by omega)⟩
              have q1 : Goes (listP 1 effP) (b.take en) _ _ _ _ l := G6.out.seq (by rw [Int.toNat_natCast]; exact GL.out)
              have q2 : Goes (listP 1 (numP 2)) (b.take en) i4 F4 _ _ tl := G5.out.seq (by rw [Int.toNat_natCast]; exact GT.out)
              exact G1.out.seq (G2.out.seq (G3.out.seq (G4.out.seq (q2.seq (q1.map fun e => (⟨y0, yc, yp, yh, tl, e⟩ : Knd))))))
          | none =>
            unfold rfI at a1
            unfold rfE at a3
            simp only [] at a1 a3
            by_cases hlt : l.length < n2
            · have OW := Lib.hid UP.out.own
              have QD := Lib.hid (Q.out.past ((Keeps.refl (fun _ => False) wr).drew))
              have OD := Lib.hid (own_keepsS OW.out ((Keeps.refl (fun _ => False) wr).drew) (fun _ _ => id))
              have hT0 : Hid (wr.drew.cell? ⟨xb, 5, none⟩ = some (.slice A l.length c)) := Lib.hid (QD.out.box.cellAt 5)
              have HC := Lib.hid (effectRd_ref QD.out.rd)
              have HBASE : Hid (w.heap.size ≤ wr.drew.heap.size) := Lib.hid QD.out.keeps.size
              replace OT := Lib.hid (own_keepsS OT.out ((Keeps.refl (fun _ => False) wr).drew) (fun _ _ => id))
              replace UP := Lib.hid (UP.out.keeps ((Keeps.refl (fun _ => False) wr).drew) (fun _ _ => id))
              clear Q OW
              go_wp2_with fail
              refine wp_region_upTo 5 (fun _ => True) (fun W => W.cell? ⟨xb, 5, none⟩ = some (.slice A l.length c)) (by kernel_rfl) ?_
              refine upTo_take (i := 0) (v := ?v13) rfl (by kernel_rfl) (by kernel_rfl) (by kernel_rfl) (fun _ _ _ h => by first | exact h | exact absurd h.1 (fun e => by cases e)) (by decide) (Or.inl ⟨by rfl, ?hy13⟩) (trivial) (fun _ => hT0.out) ?rest13
              case hy13 =>
                intro w hSw
                clear hSw
                go_simp
                try with_reducible rfl
              go_simp
              refine upTo_load (i := 1) (v := ?v14) rfl (by kernel_rfl) (by kernel_rfl) (by kernel_rfl) (fun _ _ _ h => by first | exact h | exact absurd h.1 (fun e => by cases e)) (by decide) (by kernel_rfl) (by kernel_rfl) (Or.inl ⟨by rfl, ?hy14⟩) (trivial) (hT0.out) ?rest14
              case hy14 =>
                intro w hSw
                obtain qh := hSw
                go_simp
                try with_reducible rfl
              go_simp
              refine upTo_take (i := 2) (v := ?v15) rfl (by kernel_rfl) (by kernel_rfl) (by kernel_rfl) (fun _ _ _ h => by first | exact h | exact absurd h.1 (fun e => by cases e)) (by decide) (Or.inl ⟨by rfl, ?hy15⟩) (trivial) (fun _ => hT0.out) ?rest15
              case hy15 =>
                intro w hSw
                clear hSw
                go_simp
                try with_reducible rfl
              go_simp
              refine upTo_next (i := 3) (by kernel_rfl) rfl ?_
              intro K hK
              go_simp
              refine (HC.out).mono ?_
              rintro r V1 ⟨y, Y1, Y2, y1, y2, rfl, hE1, hE2, hfew, ⟨j1, H1, hh1, hj1, hr⟩, hk⟩
              have HEL : Hid (OlE V1 w.heap.size [.int .i64 y.on, .slice Y1 y.slots.length y1, .slice Y2 y.code.length y2, .int .i64 y.bound] y) := Lib.hid ⟨Y1, Y2, y1, y2, rfl, hE1.less HBASE.out, hE2.less HBASE.out⟩
              have HG1 := Lib.hid hh1
              have HFEW := Lib.hid hfew
              unfold effV
              clear hE1 hE2 hfew hh1
              have Q1 := Lib.hid (QD.out.call hk hr)
              have O1 := Lib.hid (own_call QD.out OD.out hk)
              replace OT := Lib.hid (own_call QD.out OT.out hk)
              replace UP := Lib.hid (UP.out.keeps hk (fun k hk e => by have := QD.out.lo; omega))
              have hT1 : Hid (V1.cell? ⟨xb, 5, none⟩ = some (.slice A l.length c)) := Lib.hid (Q1.out.box.cellAt 5)
              replace HBASE := Lib.hid (Nat.le_trans HBASE.out hk.size)
              clear hr hk HC hT0 QD OD
              refine hK.out _ _ (trivial) (fun _ => hT1.out) ?_
              clear hK K
              go_simp
              have ka := (Keeps.refl (fun _ => False) V1).alloc (.cells #[.int .i64 y.on, .slice Y1 y.slots.length y1, .slice Y2 y.code.length y2, .int .i64 y.bound] 43)
              have Q2 := Lib.hid (Q1.out.past ka)
              have O2 := Lib.hid (own_keepsS O1.out ka (fun _ _ => id))
              have HL := Lib.hid (Lies.row (fr := (0, 0)) (xs := [.int .i64 y.on, .slice Y1 y.slots.length y1, .slice Y2 y.code.length y2, .int .i64 y.bound]) (Whole.made V1 43 #[.int .i64 y.on, .slice Y1 y.slots.length y1, .slice Y2 y.code.length y2, .int .i64 y.bound]) (Nat.lt_succ_self _))
              replace OT := Lib.hid (own_keepsS OT.out ka (fun _ _ => id))
              replace UP := Lib.hid (UP.out.keeps ka (fun _ _ => id))
              replace HEL := Lib.hid (HEL.out.keeps ka (fun _ _ => id))
              have HB2 := Lib.hid (Nat.le_trans HBASE.out ka.size)
              clear ka Q1 O1 HBASE
              refine upTo_next (i := 4) (by kernel_rfl) rfl ?_
              intro K hK
              go_simp
              refine hK.out _ _ (trivial) (fun _ => Q2.out.box.cellAt 5) ?_
              clear hK K
              go_simp
              refine upTo_next (i := 5) (by kernel_rfl) rfl ?_
              intro K hK
              refine stepIfT (by rfl) ?_
              refine wp_append_cells _ _ _ 38 rfl w.heap.size 43 (.agg #[.int .i64 0, .slice none 0 0, .slice none 0 0, .int .i64 0]) 4 64 Tryz.underlying38 info_effD rfl (by decide) (.slice A l.length c) l.length (cells) rfl O2.out (V1.heap.size + 1) (some ⟨V1.heap.size, 0, none⟩) 1 1 [.int .i64 y.on, .slice Y1 y.slots.length y1, .slice Y2 y.code.length y2, .int .i64 y.bound] rfl HL.out rfl (fun u hu => by simp only [List.mem_cons, List.not_mem_nil, or_false] at hu; rcases hu with rfl | rfl | rfl | rfl <;> rfl) (by simp only [maxLen]; omega) (by omega) HB2.out ?_
              intro A2 c2 V3 own5 hg5 hor5 _ _
              have Q3 := Lib.hid (Q2.out.grow O2.out hg5 (by decide))
              replace OT := Lib.hid (own_keepsTy OT.out ((Keeps.refl (fun k => (Value.slice A l.length c).ownBlock = some k) _).grown hg5 (fun _ e _ => e)) (own_ofTy O2.out) (by decide))
              have O3 := Lib.hid own5
              have Q4 := Lib.hid (Q3.out.put 5 (.slice A2 (l.length + 1) c2))
              have O4 := Lib.hid (own_put Q3.out O3.out (by decide) 5 (.slice A2 (l.length + 1) c2))
              have f5 := Q3.out.box.free 5
              have c5 := Q3.out.box.cellAt 5
              replace OT := Lib.hid (own_put Q3.out OT.out (by decide) 5 (.slice A2 (l.length + 1) c2))
              have GROWN := Lib.hid hg5
              have OLDROW := O2
              clear own5 hor5 hT1 HL HB2 O2
              refine hK.out _ _ (trivial) (fun h => absurd h (by decide)) ?_
              clear hK K
              go_simp
              refine upTo_take (i := 6) (v := ?v16) rfl (by kernel_rfl) (by kernel_rfl) (by kernel_rfl) (fun _ _ _ h => by first | exact h | exact absurd h.1 (fun e => by cases e)) (by decide) (Or.inl ⟨by rfl, ?hy16⟩) (trivial) (fun h => absurd h (by decide)) ?rest16
              case hy16 =>
                intro w hSw
                clear hSw
                go_simp
                try with_reducible rfl
              go_simp
              refine upTo_next (i := 7) (by kernel_rfl) rfl ?_
              intro K hK
              go_simp
              refine hK.out _ _ (trivial) (fun h => absurd h (by decide)) ?_
              clear hK K
              go_simp
              refine upTo_done (by kernel_rfl) ?_ _
              have hlen : (l ++ [y]).length = l.length + 1 := by simp
              have UP3 := OUp.push OlE_k (by unfold OlEt; decide) UP.out rfl HEL.out GROWN.out O3.out
              have UPN : Hid (UPe _ w.heap.size (.slice A2 (l ++ [y]).length c2) (l ++ [y]) _) := Lib.hid (OUp.kind OlE_k (by rw [hlen]; exact UP3) ((Keeps.refl (fun k => k = xb) _).setCell (p := ⟨xb, 5, none⟩) (fun _ => rfl) (.slice A2 (l.length + 1) c2)) (t' := 40) (fun k e => by rw [e]; exact ⟨_, _, Q3.out.box⟩) (by unfold OlEt; decide) (by decide))
              have QN : Hid (Rw w _ rb g off cap b j1 en H1 40 w.heap.size xb #[.int .i64 0, .int .i64 0, .int .i64 0, .int .i64 0, .slice none 0 0, .slice none 0 0] #[.int .i64 (y0 : Int), .int .i64 (yc : Int), .int .i64 (yp : Int), .int .i64 (yh : Int), .slice T tl.length tc, .slice A2 (l ++ [y]).length c2]) := Lib.hid (by rw [hlen]; exact Q4.out)
              have GN : Hid (Goes (repP effP (l ++ [y]).length) (b.take en) i6 F6 j1 H1 (l ++ [y])) := Lib.hid (by rw [hlen]; exact GL.out.snoc HG1.out)
              have HJ' : Hid (i6 ≤ j1) := Lib.hid (by have := HJ.out; omega)
              have HS' : Hid (∀ x ∈ l ++ [y], EffFew x) := Lib.hid fun x hx => by
                rcases List.mem_append.1 hx with hx | hx
                · exact HS.out x hx
                · rw [List.mem_singleton.1 hx]; exact HFEW.out
              clear UP3 UP HEL Q3 O3 Q4 O4 GL HG1 HJ HS HFEW f5 c5 GROWN OLDROW Q2
              go_wp2_with fail
              exact ⟨⟨l ++ [y], _, A2, c2, j1, H1, by omega, by rw [hlen]; go_num, QN, OT, UPN, GN, HJ', HS'⟩, by simp [intOf]; omega⟩
            · obtain hle : l.length = n2 := by omega
              replace GL : Hid (Goes (repP effP n2) (b.take en) i6 F6 j none l) := Lib.hid (by rw [← hle]; exact GL.out)
              clear hle
              obtain ⟨x0, x1, x2, x3, x4, x5⟩ := six Q.out.box
              obtain ⟨z0, z1, z2, z3, z4, z5⟩ := six Q.out.res
              have zf0 := Q.out.res.free 0
              have zf1 := Q.out.res.free 1
              have zf2 := Q.out.res.free 2
              have zf3 := Q.out.res.free 3
              have zf4 := Q.out.res.free 4
              have zf5 := Q.out.res.free 5
              have RF := Lib.hid ((((((Q.out.res.put 0 (.int .i64 (y0 : Int))).put 1 (.int .i64 (yc : Int))).put 2 (.int .i64 (yp : Int))).put 3 (.int .i64 (yh : Int))).put 4 (.slice T tl.length tc)).put 5 (.slice A l.length c))
              have KF := Lib.hid (((((((Keeps.refl (fun k => k = w.heap.size) wr).setCell (p := ⟨w.heap.size, 0, none⟩) (fun _ => rfl) (.int .i64 (y0 : Int))).setCell (p := ⟨w.heap.size, 1, none⟩) (fun _ => rfl) (.int .i64 (yc : Int))).setCell (p := ⟨w.heap.size, 2, none⟩) (fun _ => rfl) (.int .i64 (yp : Int))).setCell (p := ⟨w.heap.size, 3, none⟩) (fun _ => rfl) (.int .i64 (yh : Int))).setCell (p := ⟨w.heap.size, 4, none⟩) (fun _ => rfl) (.slice T tl.length tc)).setCell (p := ⟨w.heap.size, 5, none⟩) (fun _ => rfl) (.slice A l.length c))
              go_wp2_with fail
              refine bodyPost_ret (results_cell rfl _ w.heap.size rfl (#[.int .i64 (y0 : Int), .int .i64 (yc : Int), .int .i64 (yp : Int), .int .i64 (yh : Int), .slice T tl.length tc, .slice A l.length c]) _ RF.out _ Tryz.underlying40 rfl (by kernel_rfl)) rfl ?_
              have hlo := Q.out.lo
              refine ⟨⟨y0, yc, yp, yh, tl, l⟩, T, A, tc, c, by rw [kndV_mk], own_keepsS OT.out KF.out (fun k hb e => own_not OT.out Q.out.res (by decide) (by rw [hb, e])), ⟨cells, OUp.kind OlE_k UP.out KF.out (t' := 40) (fun k e => by rw [e]; exact ⟨_, _, Q.out.res⟩) (by unfold OlEt; decide) (by decide)⟩, ⟨by show tl.length ≤ _; omega, by show l.length ≤ _; omega, HS.out⟩, ⟨j, _, ?_, by have := HJ.out; have := HI6.out; omega, Q.out.rd.calm KF.out (fun k hk e => by omega)⟩, Q.out.keeps.and KF.out (fun k hk e => by omega)⟩
              have q1 : Goes (listP 1 effP) (b.take en) _ _ _ _ l := G6.out.seq (by rw [Int.toNat_natCast]; exact GL.out)
              have q2 : Goes (listP 1 (numP 2)) (b.take en) i4 F4 _ _ tl := G5.out.seq (by rw [Int.toNat_natCast]; exact GT.out)
              exact G1.out.seq (G2.out.seq (G3.out.seq (G4.out.seq (q2.seq (q1.map fun e => (⟨y0, yc, yp, yh, tl, e⟩ : Knd))))))
end Go.Proofs.YtcmbdnjcfneinaaGreatDoor
