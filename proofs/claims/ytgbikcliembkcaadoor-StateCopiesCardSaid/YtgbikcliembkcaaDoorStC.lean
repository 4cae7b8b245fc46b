/-
  The law StateCopies: the walk. Conditions: lengths within 10 ^ 15.
-/
import Derived.Test.YtgbikcliembkcaaDoorStMd
import Derived.Test.YtgbikcliembkcaaDoorWk
namespace Go.Proofs.YtgbikcliembkcaaDoor
open Go.RowKit
def stC (s : St) (Ap Ac Az : Option Addr) (cp cc cz : Nat) : Array Value := #[.slice Ap s.players.length cp, .slice Ac s.cards.length cc, .slice Az s.zones.length cz, .int .i32 s.turn, .int .i64 s.whose, .int .i8 s.fin, .int .i64 s.winner]
/-- The two states that came in, in their boxes. -/
structure Src2 (w W : World) (s t : St) (Ap Ac Az Bp Bc Bz : Option Addr) (cp cc cz dp dc dz : Nat) : Prop where
  keeps : Keeps (fun _ => False) w W
  b1 : Whole W w.heap.size 32 (stC s Ap Ac Az cp cc cz)
  b2 : Whole W (w.heap.size + 1) 32 (stC t Bp Bc Bz dp dc dz)
  i1 : StIn W W.heap.size s Ap Ac Az
  i2 : StIn W W.heap.size t Bp Bc Bz
theorem Src2.calm {w W W' : World} {s t : St} {Ap Ac Az Bp Bc Bz : Option Addr} {cp cc cz dp dc dz : Nat} (h : Src2 w W s t Ap Ac Az Bp Bc Bz cp cc cz dp dc dz) (hk : Keeps (fun _ => False) W W') : Src2 w W' s t Ap Ac Az Bp Bc Bz cp cc cz dp dc dz :=
  ⟨h.keeps.trans hk, h.b1.keeps hk id, h.b2.keeps hk id, h.i1.past hk, h.i2.past hk⟩
/-- The lists of a state that lies in memory. -/
def lsW (s : St) (gp gc gz : Nat) (bs : Nat → Nat) : Lists := ⟨⟨some ⟨gp, 0, none⟩, s.players.length, s.players.length + 64⟩, ⟨some ⟨gc, 0, none⟩, s.cards.length, s.cards.length + 64⟩, ⟨some ⟨gz, 0, none⟩, s.zones.length, s.zones.length + 64⟩, (List.range s.zones.length).map (fun j => ⟨some ⟨bs j, 0, none⟩, (s.zones.getD j []).length, (wideL (s.zones.getD j [])).length⟩)⟩
def lsC (s : St) (Ap Ac Az : Option Addr) (cp cc cz : Nat) (cells : List Value) : Lists := ⟨⟨Ap, s.players.length, cp⟩, ⟨Ac, s.cards.length, cc⟩, ⟨Az, s.zones.length, cz⟩, cells.map slOf⟩
/-- A state in a box, and its lists in a stretch of memory. -/
structure Boxed (W : World) (b lo hi : Nat) (s : St) (Ap Ac Az : Option Addr) (cp cc cz : Nat) (x : Lists) : Prop where
  box : Whole W b 32 (stC s Ap Ac Az cp cc cz)
  lists : ListsAt W lo hi x
  lies : StIn W W.heap.size s Ap Ac Az
  inside : hi ≤ W.heap.size
theorem Boxed.calm {W W' : World} {b lo hi : Nat} {s : St} {Ap Ac Az : Option Addr} {cp cc cz : Nat} {x : Lists} (h : Boxed W b lo hi s Ap Ac Az cp cc cz x) (hk : Keeps (fun _ => False) W W') : Boxed W' b lo hi s Ap Ac Az cp cc cz x :=
  ⟨h.box.keeps hk id, h.lists.calm hk h.inside, h.lies.past hk, Nat.le_trans h.inside hk.size⟩
theorem Boxed.made {W : World} {lo : Nat} {s : St} {Ap Ac Az : Option Addr} {cp cc cz : Nat} {x : Lists} (h : ListsAt W lo W.heap.size x) (hi : StIn W W.heap.size s Ap Ac Az) : Boxed (W.alloc (.cells (stC s Ap Ac Az cp cc cz) 32)) W.heap.size lo W.heap.size s Ap Ac Az cp cc cz x := by
  have hk : Keeps (fun _ => False) W (W.alloc (.cells (stC s Ap Ac Az cp cc cz) 32)) := (Keeps.refl _ _).alloc _
  exact ⟨Whole.made _ _ _, h.calm hk (Nat.le_refl _), hi.past hk, hk.size⟩
/-- All five states. -/
structure Five (w W : World) (s t : St) (Ap Ac Az Bp Bc Bz : Option Addr) (cp cc cz dp dc dz gp gc gz : Nat) (cs : Array Value) (bs : Nat → Nat) (bi ba bb li hi la ha lb hb : Nat) (A1 D1 Z1 A2 D2 Z2 : Option Addr) (c1 d1 z1 c2 d2 z2 : Nat) (cells1 cells2 : List Value) : Prop where
  src : Src2 w W s t Ap Ac Az Bp Bc Bz cp cc cz dp dc dz
  inn : Boxed W bi li hi s (some ⟨gp, 0, none⟩) (some ⟨gc, 0, none⟩) (some ⟨gz, 0, none⟩) (s.players.length + 64) (s.cards.length + 64) (s.zones.length + 64) (lsW s gp gc gz bs)
  a : Boxed W ba la ha s A1 D1 Z1 c1 d1 z1 (lsC s A1 D1 Z1 c1 d1 z1 cells1)
  b : Boxed W bb lb hb s A2 D2 Z2 c2 d2 z2 (lsC s A2 D2 Z2 c2 d2 z2 cells2)
  wide : WideIn W li s gp gc gz cs bs
theorem Five.calm {w W W' : World} {s t : St} {Ap Ac Az Bp Bc Bz : Option Addr} {cp cc cz dp dc dz gp gc gz : Nat} {cs : Array Value} {bs : Nat → Nat} {bi ba bb li hi la ha lb hb : Nat} {A1 D1 Z1 A2 D2 Z2 : Option Addr} {c1 d1 z1 c2 d2 z2 : Nat} {cells1 cells2 : List Value} (h : Five w W s t Ap Ac Az Bp Bc Bz cp cc cz dp dc dz gp gc gz cs bs bi ba bb li hi la ha lb hb A1 D1 Z1 A2 D2 Z2 c1 d1 z1 c2 d2 z2 cells1 cells2) (hk : Keeps (fun _ => False) W W') : Five w W' s t Ap Ac Az Bp Bc Bz cp cc cz dp dc dz gp gc gz cs bs bi ba bb li hi la ha lb hb A1 D1 Z1 A2 D2 Z2 c1 d1 z1 c2 d2 z2 cells1 cells2 :=
  ⟨h.src.calm hk, h.inn.calm hk, h.a.calm hk, h.b.calm hk, h.wide.keeps hk (fun _ _ => id)⟩
set_option maxRecDepth 100000 in
set_option maxHeartbeats 40000000 in
theorem stateCopies_any (s t : St) (Ap Ac Az Bp Bc Bz : Option Addr) (cp cc cz dp dc dz : Nat) (w : World) (hx : StIn w w.heap.size s Ap Ac Az) (hy : StIn w w.heap.size t Bp Bc Bz) (hs : StBig s) (ht : StBig t) :
    Calls Tryd.prog 4 #[stV s Ap Ac Az cp cc cz, stV t Bp Bc Bz dp dc dz] w fun e w' => e = .returned (.bool true) ∧ Keeps (fun _ => False) w w' := by
  have HL := fun w (hx : StIn w w.heap.size s Ap Ac Az) => longS_any s Ap Ac Az w.heap.size cp cc cz w hx (Nat.le_refl _) hs.players hs.cards hs.zones hs.rows
  have HL2 := fun w (hx : StIn w w.heap.size t Bp Bc Bz) => longS_any t Bp Bc Bz w.heap.size dp dc dz w hx (Nat.le_refl _) ht.players ht.cards ht.zones ht.rows
  have HWD := fun w (hx : StIn w w.heap.size s Ap Ac Az) (h : StSmall s) => wideState_any s Ap Ac Az w.heap.size cp cc cz w hx (Nat.le_refl _) h
  have S0 : Hid (Src2 w ((w.alloc (.cells (stC s Ap Ac Az cp cc cz) 32)).alloc (.cells (stC t Bp Bc Bz dp dc dz) 32)) s t Ap Ac Az Bp Bc Bz cp cc cz dp dc dz) := Lib.hid (by
    have hk : Keeps (fun _ => False) w ((w.alloc (.cells (stC s Ap Ac Az cp cc cz) 32)).alloc (.cells (stC t Bp Bc Bz dp dc dz) 32)) := ((Keeps.refl _ _).alloc _).alloc _
    refine ⟨hk, (Whole.made _ _ _).alloc _, ?_, hx.past hk, hy.past hk⟩
    have h2 := Whole.made (w.alloc (.cells (stC s Ap Ac Az cp cc cz) 32)) 32 (stC t Bp Bc Bz dp dc dz)
    rw [show (w.alloc (.cells (stC s Ap Ac Az cp cc cz) 32)).heap.size = w.heap.size + 1 by simp] at h2
    exact h2)
  unfold stV at *
  unfold stC at S0
  have S1 := S0
  clear hx hy
  obtain ⟨W0, hW0⟩ : ∃ z, z = (w.alloc (.cells #[.slice Ap s.players.length cp, .slice Ac s.cards.length cc, .slice Az s.zones.length cz, .int .i32 s.turn, .int .i64 s.whose, .int .i8 s.fin, .int .i64 s.winner] 32)).alloc (.cells #[.slice Bp t.players.length dp, .slice Bc t.cards.length dc, .slice Bz t.zones.length dz, .int .i32 t.turn, .int .i64 t.whose, .int .i8 t.fin, .int .i64 t.winner] 32) := ⟨_, rfl⟩
  rw [← hW0] at S1
  clear S0
  go_enter Tryd.func4, Tryd.ntmps4
  obtain ⟨a0, a1, a2, a3, a4, a5, a6, f0, f1, f2, f3, f4, f5, f6⟩ := seven S1.out.b1
  rw [hW0] at a0 a1 a2 a3 a4 a5 a6
  go_wp2_with fail
  rw [← hW0]
  clear a0 a1 a2 a3 a4 a5 a6 f0 f1 f2 f3 f4 f5 f6 hW0
  refine (HL W0 S1.out.i1).mono ?_
  rintro e w1 ⟨rfl, k1⟩
  have S2 := Lib.hid (S1.out.calm k1)
  clear S1 k1 HL
  by_cases hb : 16777216 < (stSizeTo s : Int)
  · rw [decide_eq_true hb]
    clear hb
    go_wp2_with fail
    go_ret
    exact ⟨rfl, S2.out.keeps⟩
  rw [decide_eq_false hb]
  have SM := Lib.hid (small_of_size (stSizeTo_small (s := s) (by omega)))
  clear hb
  obtain ⟨a0, a1, a2, a3, a4, a5, a6, f0, f1, f2, f3, f4, f5, f6⟩ := seven S2.out.b2
  go_wp2_with fail
  clear a0 a1 a2 a3 a4 a5 a6 f0 f1 f2 f3 f4 f5 f6
  refine (HL2 w1 S2.out.i2).mono ?_
  rintro e w2 ⟨rfl, k2⟩
  have S3 := Lib.hid (S2.out.calm k2)
  clear S2 k2 HL2
  by_cases hb : 16777216 < (stSizeTo t : Int)
  · rw [decide_eq_true hb]
    clear hb
    go_wp2_with fail
    go_ret
    exact ⟨rfl, S3.out.keeps⟩
  rw [decide_eq_false hb]
  have TM := Lib.hid (small_of_size (stSizeTo_small (s := t) (by omega)))
  clear hb
  obtain ⟨a0, a1, a2, a3, a4, a5, a6, f0, f1, f2, f3, f4, f5, f6⟩ := seven S3.out.b1
  go_wp2_with fail
  clear a0 a1 a2 a3 a4 a5 a6 f0 f1 f2 f3 f4 f5 f6
  refine (HWD w2 S3.out.i1 SM.out).mono ?_
  rintro e w3 ⟨gp, gc, gz, cs, bs, rfl, hw, k3⟩
  have S4 := Lib.hid (S3.out.calm k3)
  have hin23 : w2.heap.size ≤ w3.heap.size := k3.size
  have L3 := Lib.hid (ListsAt.of_wide hw SM.out)
  have I3 := Lib.hid hw.lies
  have WW := Lib.hid hw
  have hin2 : w.heap.size + 1 < w2.heap.size := S3.out.b2.inside
  clear S3 HWD hw
  go_wp2_with fail
  obtain ⟨w4, hw4⟩ : ∃ z, z = w3.alloc (.cells #[.slice (some ⟨gp, 0, none⟩) s.players.length (s.players.length + 64), .slice (some ⟨gc, 0, none⟩) s.cards.length (s.cards.length + 64), .slice (some ⟨gz, 0, none⟩) s.zones.length (s.zones.length + 64), .int .i32 s.turn, .int .i64 s.whose, .int .i8 s.fin, .int .i64 s.winner] 32) := ⟨_, rfl⟩
  have k4 : Keeps (fun _ => False) w3 w4 := by rw [hw4]; exact (Keeps.refl _ _).alloc _
  have BI : Hid (Boxed w4 w3.heap.size w2.heap.size w3.heap.size s (some ⟨gp, 0, none⟩) (some ⟨gc, 0, none⟩) (some ⟨gz, 0, none⟩) (s.players.length + 64) (s.cards.length + 64) (s.zones.length + 64) (lsW s gp gc gz bs)) := Lib.hid (by rw [hw4]; exact Boxed.made L3.out I3.out)
  have S5 := Lib.hid (S4.out.calm k4)
  have WI : Hid (WideIn w4 w2.heap.size s gp gc gz cs bs) := Lib.hid (WW.out.keeps k4 (fun _ _ => id))
  have hin3 : w3.heap.size < w4.heap.size := BI.out.box.inside
  rw [← hw4]
  clear hw4 k4 S4 L3 I3 WW
  have HCP := stCopy_at s (some ⟨gp, 0, none⟩) (some ⟨gc, 0, none⟩) (some ⟨gz, 0, none⟩) (s.players.length + 64) (s.cards.length + 64) (s.zones.length + 64) w4 BI.out.lies SM.out
  unfold stV at HCP
  refine HCP.mono ?_
  clear HCP
  rintro e w5 ⟨A1, D1, Z1, c1, d1, z1, cells1, rfl, hc1, hap1, k5⟩
  have L5 := Lib.hid (ListsAt.of_copy hc1 hap1 SM.out)
  have I5 := Lib.hid hc1.lies
  clear hc1 hap1
  have S6 := Lib.hid (S5.out.calm k5)
  have BI5 := Lib.hid (BI.out.calm k5)
  have WI5 := Lib.hid (WI.out.keeps k5 (fun _ _ => id))
  have hin5 : w4.heap.size ≤ w5.heap.size := k5.size
  clear S5 BI WI k5
  obtain ⟨a0, a1, a2, a3, a4, a5, a6, f0, f1, f2, f3, f4, f5, f6⟩ := seven (BI5.out.box.alloc (.cells #[.slice A1 s.players.length c1, .slice D1 s.cards.length d1, .slice Z1 s.zones.length z1, .int .i32 s.turn, .int .i64 s.whose, .int .i8 s.fin, .int .i64 s.winner] 32))
  clear f0 f1 f2 f3 f4 f5 f6
  go_wp2_with fail
  clear a0 a1 a2 a3 a4 a5 a6
  obtain ⟨w6, hw6⟩ : ∃ z, z = w5.alloc (.cells #[.slice A1 s.players.length c1, .slice D1 s.cards.length d1, .slice Z1 s.zones.length z1, .int .i32 s.turn, .int .i64 s.whose, .int .i8 s.fin, .int .i64 s.winner] 32) := ⟨_, rfl⟩
  have k6 : Keeps (fun _ => False) w5 w6 := by rw [hw6]; exact (Keeps.refl _ _).alloc _
  have BA : Hid (Boxed w6 w5.heap.size w4.heap.size w5.heap.size s A1 D1 Z1 c1 d1 z1 (lsC s A1 D1 Z1 c1 d1 z1 cells1)) := Lib.hid (by rw [hw6]; exact Boxed.made L5.out I5.out)
  have S7 := Lib.hid (S6.out.calm k6)
  have BI6 := Lib.hid (BI5.out.calm k6)
  have WI6 : Hid (WideIn w6 w2.heap.size s gp gc gz cs bs) := Lib.hid (WI5.out.keeps k6 (fun _ _ => id))
  have hin6 : w5.heap.size < w6.heap.size := BA.out.box.inside
  rw [← hw6]
  clear hw6 k6 S6 L5 I5 BI5 WI5
  have HCP := stCopy_at s (some ⟨gp, 0, none⟩) (some ⟨gc, 0, none⟩) (some ⟨gz, 0, none⟩) (s.players.length + 64) (s.cards.length + 64) (s.zones.length + 64) w6 BI6.out.lies SM.out
  unfold stV at HCP
  refine HCP.mono ?_
  clear HCP
  rintro e w7 ⟨A2, D2, Z2, c2, d2, z2, cells2, rfl, hc2, hap2, k7⟩
  have L7 := Lib.hid (ListsAt.of_copy hc2 hap2 SM.out)
  have I7 := Lib.hid hc2.lies
  clear hc2 hap2
  have hin7 : w6.heap.size ≤ w7.heap.size := k7.size
  obtain ⟨w8, hw8⟩ : ∃ z, z = w7.alloc (.cells #[.slice A2 s.players.length c2, .slice D2 s.cards.length d2, .slice Z2 s.zones.length z2, .int .i32 s.turn, .int .i64 s.whose, .int .i8 s.fin, .int .i64 s.winner] 32) := ⟨_, rfl⟩
  have k8 : Keeps (fun _ => False) w7 w8 := by rw [hw8]; exact (Keeps.refl _ _).alloc _
  have BB : Hid (Boxed w8 w7.heap.size w6.heap.size w7.heap.size s A2 D2 Z2 c2 d2 z2 (lsC s A2 D2 Z2 c2 d2 z2 cells2)) := Lib.hid (by rw [hw8]; exact Boxed.made L7.out I7.out)
  have hin8 : w7.heap.size < w8.heap.size := BB.out.box.inside
  have k78 := k7.trans k8
  have S9 := Lib.hid (S7.out.calm k78)
  have BI8 := Lib.hid (BI6.out.calm k78)
  have BA8 := Lib.hid (BA.out.calm k78)
  have WI8 : Hid (WideIn w8 w2.heap.size s gp gc gz cs bs) := Lib.hid (WI6.out.keeps k78 (fun _ _ => id))
  clear k7 k8 k78 S7 BI6 BA WI6 L7 I7
  obtain ⟨a0, a1, a2, a3, a4, a5, a6, f0, f1, f2, f3, f4, f5, f6⟩ := seven BA8.out.box
  obtain ⟨b0, b1, b2, b3, b4, b5, b6, g0, g1, g2, g3, g4, g5, g6⟩ := seven S9.out.b1
  rw [hw8] at a0 a1 a2 a3 a4 a5 a6 b0 b1 b2 b3 b4 b5 b6
  go_wp2_with fail
  rw [← hw8]
  clear hw8 a0 a1 a2 a3 a4 a5 a6 f0 f1 f2 f3 f4 f5 f6 b0 b1 b2 b3 b4 b5 b6 g0 g1 g2 g3 g4 g5 g6
  have F0 : Hid (Five w w8 s t Ap Ac Az Bp Bc Bz cp cc cz dp dc dz gp gc gz cs bs w3.heap.size w5.heap.size w7.heap.size w2.heap.size w3.heap.size w4.heap.size w5.heap.size w6.heap.size w7.heap.size A1 D1 Z1 A2 D2 Z2 c1 d1 z1 c2 d2 z2 cells1 cells2) := Lib.hid ⟨S9.out, BI8.out, BA8.out, BB.out, WI8.out⟩
  clear S9 BI8 BA8 BB WI8
  generalize w2.heap.size = n2 at *
  generalize w3.heap.size = n3 at *
  generalize w4.heap.size = n4 at *
  generalize w5.heap.size = n5 at *
  generalize w6.heap.size = n6 at *
  generalize w7.heap.size = n7 at *
  have HE := eqState_any s s A1 D1 Z1 Ap Ac Az w8.heap.size c1 d1 z1 cp cc cz w8 F0.out.a.lies F0.out.src.i1 (Nat.le_refl _) SM.out
  unfold stV at HE
  simp only [decide_true] at HE
  refine HE.mono ?_
  clear HE
  rintro e w9 ⟨rfl, k9⟩
  have F1 := Lib.hid (F0.out.calm k9)
  clear F0 k9
  obtain ⟨a0, a1, a2, a3, a4, a5, a6, f0, f1, f2, f3, f4, f5, f6⟩ := seven F1.out.b.box
  obtain ⟨b0, b1, b2, b3, b4, b5, b6, g0, g1, g2, g3, g4, g5, g6⟩ := seven F1.out.src.b1
  go_wp2_with fail
  clear a0 a1 a2 a3 a4 a5 a6 f0 f1 f2 f3 f4 f5 f6 b0 b1 b2 b3 b4 b5 b6 g0 g1 g2 g3 g4 g5 g6
  have HE := eqState_any s s A2 D2 Z2 Ap Ac Az w9.heap.size c2 d2 z2 cp cc cz w9 F1.out.b.lies F1.out.src.i1 (Nat.le_refl _) SM.out
  unfold stV at HE
  simp only [decide_true] at HE
  refine HE.mono ?_
  clear HE
  rintro e wa ⟨rfl, ka⟩
  have F2 := Lib.hid (F1.out.calm ka)
  clear F1 ka
  obtain ⟨a0, a1, a2, a3, a4, a5, a6, f0, f1, f2, f3, f4, f5, f6⟩ := seven F2.out.inn.box
  obtain ⟨b0, b1, b2, b3, b4, b5, b6, g0, g1, g2, g3, g4, g5, g6⟩ := seven F2.out.src.b1
  go_wp2_with fail
  clear a0 a1 a2 a3 a4 a5 a6 f0 f1 f2 f3 f4 f5 f6 b0 b1 b2 b3 b4 b5 b6 g0 g1 g2 g3 g4 g5 g6
  have HE := eqState_any s s (some ⟨gp, 0, none⟩) (some ⟨gc, 0, none⟩) (some ⟨gz, 0, none⟩) Ap Ac Az wa.heap.size (s.players.length + 64) (s.cards.length + 64) (s.zones.length + 64) cp cc cz wa F2.out.inn.lies F2.out.src.i1 (Nat.le_refl _) SM.out
  unfold stV at HE
  simp only [decide_true] at HE
  refine HE.mono ?_
  clear HE
  rintro e wb ⟨rfl, kb⟩
  have F3 := Lib.hid (F2.out.calm kb)
  clear F2 kb
  obtain ⟨a0, a1, a2, a3, a4, a5, a6, f0, f1, f2, f3, f4, f5, f6⟩ := seven F3.out.inn.box
  go_wp2_with fail
  clear a0 a1 a2 a3 a4 a5 a6 f0 f1 f2 f3 f4 f5 f6
  have HE := spareState_any s gp gc gz n2 cs bs wb F3.out.wide SM.out
  unfold stV at HE
  refine HE.mono ?_
  clear HE
  rintro e wc ⟨rfl, kc⟩
  have F4 := Lib.hid (F3.out.calm kc)
  clear F3 kc
  go_wp2_with fail
  have HFs : ∀ W, Keeps (fun _ => False) wc W → W.cell? ⟨w.heap.size, 0, none⟩ = some (.slice Ap s.players.length cp) ∧ W.cell? ⟨w.heap.size, 1, none⟩ = some (.slice Ac s.cards.length cc) ∧ W.cell? ⟨w.heap.size, 2, none⟩ = some (.slice Az s.zones.length cz) ∧ W.cell? ⟨w.heap.size, 3, none⟩ = some (.int .i32 s.turn) ∧ W.cell? ⟨w.heap.size, 4, none⟩ = some (.int .i64 s.whose) ∧ W.cell? ⟨w.heap.size, 5, none⟩ = some (.int .i8 s.fin) ∧ W.cell? ⟨w.heap.size, 6, none⟩ = some (.int .i64 s.winner) := fun W hW => by
    obtain ⟨h0, h1, h2, h3, h4, h5, h6, _⟩ := seven (F4.out.calm hW).src.b1
    exact ⟨h0, h1, h2, h3, h4, h5, h6⟩
  have HFt : ∀ W, Keeps (fun _ => False) wc W → W.cell? ⟨(w.heap.size + 1), 0, none⟩ = some (.slice Bp t.players.length dp) ∧ W.cell? ⟨(w.heap.size + 1), 1, none⟩ = some (.slice Bc t.cards.length dc) ∧ W.cell? ⟨(w.heap.size + 1), 2, none⟩ = some (.slice Bz t.zones.length dz) ∧ W.cell? ⟨(w.heap.size + 1), 3, none⟩ = some (.int .i32 t.turn) ∧ W.cell? ⟨(w.heap.size + 1), 4, none⟩ = some (.int .i64 t.whose) ∧ W.cell? ⟨(w.heap.size + 1), 5, none⟩ = some (.int .i8 t.fin) ∧ W.cell? ⟨(w.heap.size + 1), 6, none⟩ = some (.int .i64 t.winner) := fun W hW => by
    obtain ⟨h0, h1, h2, h3, h4, h5, h6, _⟩ := seven (F4.out.calm hW).src.b2
    exact ⟨h0, h1, h2, h3, h4, h5, h6⟩
  have HFi : ∀ W, Keeps (fun _ => False) wc W → W.cell? ⟨n3, 0, none⟩ = some (.slice (some ⟨gp, 0, none⟩) s.players.length (s.players.length + 64)) ∧ W.cell? ⟨n3, 1, none⟩ = some (.slice (some ⟨gc, 0, none⟩) s.cards.length (s.cards.length + 64)) ∧ W.cell? ⟨n3, 2, none⟩ = some (.slice (some ⟨gz, 0, none⟩) s.zones.length (s.zones.length + 64)) ∧ W.cell? ⟨n3, 3, none⟩ = some (.int .i32 s.turn) ∧ W.cell? ⟨n3, 4, none⟩ = some (.int .i64 s.whose) ∧ W.cell? ⟨n3, 5, none⟩ = some (.int .i8 s.fin) ∧ W.cell? ⟨n3, 6, none⟩ = some (.int .i64 s.winner) := fun W hW => by
    obtain ⟨h0, h1, h2, h3, h4, h5, h6, _⟩ := seven (F4.out.calm hW).inn.box
    exact ⟨h0, h1, h2, h3, h4, h5, h6⟩
  have HFa : ∀ W, Keeps (fun _ => False) wc W → W.cell? ⟨n5, 0, none⟩ = some (.slice A1 s.players.length c1) ∧ W.cell? ⟨n5, 1, none⟩ = some (.slice D1 s.cards.length d1) ∧ W.cell? ⟨n5, 2, none⟩ = some (.slice Z1 s.zones.length z1) ∧ W.cell? ⟨n5, 3, none⟩ = some (.int .i32 s.turn) ∧ W.cell? ⟨n5, 4, none⟩ = some (.int .i64 s.whose) ∧ W.cell? ⟨n5, 5, none⟩ = some (.int .i8 s.fin) ∧ W.cell? ⟨n5, 6, none⟩ = some (.int .i64 s.winner) := fun W hW => by
    obtain ⟨h0, h1, h2, h3, h4, h5, h6, _⟩ := seven (F4.out.calm hW).a.box
    exact ⟨h0, h1, h2, h3, h4, h5, h6⟩
  have HFb : ∀ W, Keeps (fun _ => False) wc W → W.cell? ⟨n7, 0, none⟩ = some (.slice A2 s.players.length c2) ∧ W.cell? ⟨n7, 1, none⟩ = some (.slice D2 s.cards.length d2) ∧ W.cell? ⟨n7, 2, none⟩ = some (.slice Z2 s.zones.length z2) ∧ W.cell? ⟨n7, 3, none⟩ = some (.int .i32 s.turn) ∧ W.cell? ⟨n7, 4, none⟩ = some (.int .i64 s.whose) ∧ W.cell? ⟨n7, 5, none⟩ = some (.int .i8 s.fin) ∧ W.cell? ⟨n7, 6, none⟩ = some (.int .i64 s.winner) := fun W hW => by
    obtain ⟨h0, h1, h2, h3, h4, h5, h6, _⟩ := seven (F4.out.calm hW).b.box
    exact ⟨h0, h1, h2, h3, h4, h5, h6⟩
  obtain ⟨dd, hdd⟩ : ∃ z, z = decide (s = t) := ⟨_, rfl⟩
  have HDD := Lib.hid hdd
  clear hdd
  have HS1 : Hid (∀ W, Keeps (fun _ => False) wc W → Calls Tryd.prog 20 #[.agg #[.slice A1 s.players.length c1, .slice D1 s.cards.length d1, .slice Z1 s.zones.length z1, .int .i32 s.turn, .int .i64 s.whose, .int .i8 s.fin, .int .i64 s.winner], .agg #[.slice A2 s.players.length c2, .slice D2 s.cards.length d2, .slice Z2 s.zones.length z2, .int .i32 s.turn, .int .i64 s.whose, .int .i8 s.fin, .int .i64 s.winner]] W fun e w' => e = .returned (.bool true) ∧ Keeps (fun _ => False) W w') := Lib.hid (fun W hW => by
    have h := same_any s s A1 D1 Z1 A2 D2 Z2 W.heap.size c1 d1 z1 c2 d2 z2 W (F4.out.calm hW).a.lies (F4.out.calm hW).b.lies (Nat.le_refl _) SM.out
    unfold stV at h
    simpa using h)
  have HS2 : Hid (∀ W, Keeps (fun _ => False) wc W → Calls Tryd.prog 20 #[.agg #[.slice (some ⟨gp, 0, none⟩) s.players.length (s.players.length + 64), .slice (some ⟨gc, 0, none⟩) s.cards.length (s.cards.length + 64), .slice (some ⟨gz, 0, none⟩) s.zones.length (s.zones.length + 64), .int .i32 s.turn, .int .i64 s.whose, .int .i8 s.fin, .int .i64 s.winner], .agg #[.slice A1 s.players.length c1, .slice D1 s.cards.length d1, .slice Z1 s.zones.length z1, .int .i32 s.turn, .int .i64 s.whose, .int .i8 s.fin, .int .i64 s.winner]] W fun e w' => e = .returned (.bool true) ∧ Keeps (fun _ => False) W w') := Lib.hid (fun W hW => by
    have h := same_any s s (some ⟨gp, 0, none⟩) (some ⟨gc, 0, none⟩) (some ⟨gz, 0, none⟩) A1 D1 Z1 W.heap.size (s.players.length + 64) (s.cards.length + 64) (s.zones.length + 64) c1 d1 z1 W (F4.out.calm hW).inn.lies (F4.out.calm hW).a.lies (Nat.le_refl _) SM.out
    unfold stV at h
    simpa using h)
  have HEQ : Hid (∀ W, Keeps (fun _ => False) wc W → Calls Tryd.prog 9 #[.agg #[.slice Ap s.players.length cp, .slice Ac s.cards.length cc, .slice Az s.zones.length cz, .int .i32 s.turn, .int .i64 s.whose, .int .i8 s.fin, .int .i64 s.winner], .agg #[.slice Bp t.players.length dp, .slice Bc t.cards.length dc, .slice Bz t.zones.length dz, .int .i32 t.turn, .int .i64 t.whose, .int .i8 t.fin, .int .i64 t.winner]] W fun e w' => e = .returned (.bool dd) ∧ Keeps (fun _ => False) W w') := Lib.hid (fun W hW => by
    have h := eqState_any s t Ap Ac Az Bp Bc Bz W.heap.size cp cc cz dp dc dz W (F4.out.calm hW).src.i1 (F4.out.calm hW).src.i2 (Nat.le_refl _) SM.out
    unfold stV at h
    rw [← HDD.out] at h
    exact h)
  have HCS : Hid (∀ W, Keeps (fun _ => False) wc W → Calls Tryd.prog 21 #[.agg #[.slice Bp t.players.length dp, .slice Bc t.cards.length dc, .slice Bz t.zones.length dz, .int .i32 t.turn, .int .i64 t.whose, .int .i8 t.fin, .int .i64 t.winner]] W fun e w' => ∃ Aq Ad Ay q1 q2 q3, e = .returned (.agg #[.slice Aq t.players.length q1, .slice Ad t.cards.length q2, .slice Ay t.zones.length q3, .int .i32 t.turn, .int .i64 t.whose, .int .i8 t.fin, .int .i64 t.winner]) ∧ StIn w' w'.heap.size t Aq Ad Ay ∧ Keeps (fun _ => False) W w') := Lib.hid (fun W hW => by
    have h := copyState_any t Bp Bc Bz W.heap.size dp dc dz W (F4.out.calm hW).src.i2 (Nat.le_refl _) TM.out
    unfold stV at h
    refine h.mono ?_
    rintro e w' ⟨Aq, Ad, Ay, q1, q2, q3, _, he, hc, hk⟩
    exact ⟨Aq, Ad, Ay, q1, q2, q3, he, hc.lies, hk⟩)
  have HS3 : Hid (∀ (Aq Ad Ay : Option Addr) (q1 q2 q3 : Nat) (W : World), Keeps (fun _ => False) wc W → StIn W W.heap.size t Aq Ad Ay → Calls Tryd.prog 20 #[.agg #[.slice (some ⟨gp, 0, none⟩) s.players.length (s.players.length + 64), .slice (some ⟨gc, 0, none⟩) s.cards.length (s.cards.length + 64), .slice (some ⟨gz, 0, none⟩) s.zones.length (s.zones.length + 64), .int .i32 s.turn, .int .i64 s.whose, .int .i8 s.fin, .int .i64 s.winner], .agg #[.slice Aq t.players.length q1, .slice Ad t.cards.length q2, .slice Ay t.zones.length q3, .int .i32 t.turn, .int .i64 t.whose, .int .i8 t.fin, .int .i64 t.winner]] W fun e w' => e = .returned (.bool dd) ∧ Keeps (fun _ => False) W w') := Lib.hid (fun Aq Ad Ay q1 q2 q3 W hW hq => by
    have h := same_any s t (some ⟨gp, 0, none⟩) (some ⟨gc, 0, none⟩) (some ⟨gz, 0, none⟩) Aq Ad Ay W.heap.size (s.players.length + 64) (s.cards.length + 64) (s.zones.length + 64) q1 q2 q3 W (F4.out.calm hW).inn.lies hq (Nat.le_refl _) SM.out
    unfold stV at h
    rw [← HDD.out] at h
    exact h)
  have HS4 : Hid (∀ (Aq Ad Ay : Option Addr) (q1 q2 q3 : Nat) (W : World), Keeps (fun _ => False) wc W → StIn W W.heap.size t Aq Ad Ay → Calls Tryd.prog 20 #[.agg #[.slice Aq t.players.length q1, .slice Ad t.cards.length q2, .slice Ay t.zones.length q3, .int .i32 t.turn, .int .i64 t.whose, .int .i8 t.fin, .int .i64 t.winner], .agg #[.slice (some ⟨gp, 0, none⟩) s.players.length (s.players.length + 64), .slice (some ⟨gc, 0, none⟩) s.cards.length (s.cards.length + 64), .slice (some ⟨gz, 0, none⟩) s.zones.length (s.zones.length + 64), .int .i32 s.turn, .int .i64 s.whose, .int .i8 s.fin, .int .i64 s.winner]] W fun e w' => e = .returned (.bool dd) ∧ Keeps (fun _ => False) W w') := Lib.hid (fun Aq Ad Ay q1 q2 q3 W hW hq => by
    have h := same_any t s Aq Ad Ay (some ⟨gp, 0, none⟩) (some ⟨gc, 0, none⟩) (some ⟨gz, 0, none⟩) W.heap.size q1 q2 q3 (s.players.length + 64) (s.cards.length + 64) (s.zones.length + 64) W hq (F4.out.calm hW).inn.lies (Nat.le_refl _) TM.out
    unfold stV at h
    rw [show decide (t = s) = dd by rw [HDD.out]; exact decide_eq_decide.2 eq_comm] at h
    exact h)
  have hbb : ∀ (b : Bool) w, (binOp .neq 4 (.bool b) (.bool b)).run Tryd.prog w = .ok (.bool false) w := fun b w => by cases b <;> kernel_rfl
  refine region_cut (fun _ a' w' => (∃ u0 u1 u9 u10 u11 u12 u13 u14 u15 u16 u17 u18 u19 u20 u21 u22 u23 u24 u25 u26 u27 u28 u29 u30 u31 u32 u33 u34 u35 u36 u37 u38 u39 u40 u41 u42 u43 u44 u45 u46 u47 u48 u49 u50 u51 u52 u53 u54 u55 u56 u57 u58 u59 u60 u61 u62 u63 u64 u65 u66 u67 u68 u69 u70 : Value, a' = {tmps := #[u0, u1, .pointer (some ⟨w.heap.size, 0, none⟩), .pointer (some ⟨(w.heap.size + 1), 0, none⟩), .bool false, .pointer (some ⟨n3, 0, none⟩), .pointer (some ⟨n5, 0, none⟩), .pointer (some ⟨n7, 0, none⟩), undef, u9, u10, u11, u12, u13, u14, u15, u16, u17, u18, u19, u20, u21, u22, u23, u24, u25, u26, u27, u28, u29, u30, u31, u32, u33, u34, u35, u36, u37, u38, u39, u40, u41, u42, u43, u44, u45, u46, u47, u48, u49, u50, u51, u52, u53, u54, u55, u56, u57, u58, u59, u60, u61, u62, u63, u64, u65, u66, u67, u68, u69, u70, .bool false, undef, undef, undef, undef, undef, undef, undef, undef, undef, undef, undef, undef, undef, undef, undef, undef], defers := []}) ∧ Keeps (fun _ => False) wc w') ?_ ?_
  · skip
    refine wp_region_held_drew (S := fun W => Keeps (fun _ => False) wc W) (by kernel_rfl) ((Keeps.refl _ wc).drew) ?_
    intro hSn
    refine wpAnyH_take (i := 0) (v := ?v1) rfl (by kernel_rfl) (by kernel_rfl) (by kernel_rfl) (fun _ _ _ h => by first | exact h | exact absurd h.1 (fun e => by cases e)) (Or.inl ⟨by rfl, ?hy1⟩) (by assumption) ?rest1
    case hy1 =>
      intro w hSw
      obtain ⟨m0, m1, m2, m3, m4, m5, m6⟩ := HFa w hSw
      go_simp
      try with_reducible rfl
    go_simp
    refine wpAnyH_take (i := 1) (v := ?v2) rfl (by kernel_rfl) (by kernel_rfl) (by kernel_rfl) (fun _ _ _ h => by first | exact h | exact absurd h.1 (fun e => by cases e)) (Or.inl ⟨by rfl, ?hy2⟩) (by assumption) ?rest2
    case hy2 =>
      intro w hSw
      obtain ⟨m0, m1, m2, m3, m4, m5, m6⟩ := HFb w hSw
      go_simp
      try with_reducible rfl
    go_simp
    refine wpAnyH_ready (rs := [2]) (by kernel_rfl) (by simp) ?_
    refine AllReadyH.cons rfl (fun K hK => ?_) AllReadyH.nil
    go_simp
    refine (HS1.out _ hSn).mono ?_
    rintro e x1 ⟨rfl, k1⟩
    refine hK.out _ _ (hSn.trans k1) (fun hSn => ?_)
    clear hK K
    go_simp
    refine wpAnyH_take (i := 3) (v := ?v3) rfl (by kernel_rfl) (by kernel_rfl) (by kernel_rfl) (fun _ _ _ h => by first | exact h | exact absurd h.1 (fun e => by cases e)) (Or.inl ⟨by rfl, ?hy3⟩) (by assumption) ?rest3
    case hy3 =>
      intro w hSw
      skip
      go_simp
      try with_reducible rfl
    go_simp
    refine wpAnyH_take (i := 4) (v := ?v4) rfl (by kernel_rfl) (by kernel_rfl) (by kernel_rfl) (fun _ _ _ h => by first | exact h | exact absurd h.1 (fun e => by cases e)) (Or.inl ⟨by rfl, ?hy4⟩) (by assumption) ?rest4
    case hy4 =>
      intro w hSw
      skip
      go_simp
      try with_reducible rfl
    go_simp
    refine wpAnyH_take (i := 5) (v := ?v5) rfl (by kernel_rfl) (by kernel_rfl) (by kernel_rfl) (fun _ _ _ h => by first | exact h | exact absurd h.1 (fun e => by cases e)) (Or.inl ⟨by rfl, ?hy5⟩) (by assumption) ?rest5
    case hy5 =>
      intro w hSw
      obtain ⟨m0, m1, m2, m3, m4, m5, m6⟩ := HFi w hSw
      go_simp
      try with_reducible rfl
    go_simp
    refine wpAnyH_take (i := 6) (v := ?v6) rfl (by kernel_rfl) (by kernel_rfl) (by kernel_rfl) (fun _ _ _ h => by first | exact h | exact absurd h.1 (fun e => by cases e)) (Or.inl ⟨by rfl, ?hy6⟩) (by assumption) ?rest6
    case hy6 =>
      intro w hSw
      obtain ⟨m0, m1, m2, m3, m4, m5, m6⟩ := HFa w hSw
      go_simp
      try with_reducible rfl
    go_simp
    refine wpAnyH_ready (rs := [7]) (by kernel_rfl) (by simp) ?_
    refine AllReadyH.cons rfl (fun K hK => ?_) AllReadyH.nil
    go_simp
    refine (HS2.out _ hSn).mono ?_
    rintro e x2 ⟨rfl, k2⟩
    refine hK.out _ _ (hSn.trans k2) (fun hSn => ?_)
    clear hK K
    go_simp
    refine wpAnyH_take (i := 8) (v := ?v7) rfl (by kernel_rfl) (by kernel_rfl) (by kernel_rfl) (fun _ _ _ h => by first | exact h | exact absurd h.1 (fun e => by cases e)) (Or.inl ⟨by rfl, ?hy7⟩) (by assumption) ?rest7
    case hy7 =>
      intro w hSw
      skip
      go_simp
      try with_reducible rfl
    go_simp
    refine wpAnyH_take (i := 9) (v := ?v8) rfl (by kernel_rfl) (by kernel_rfl) (by kernel_rfl) (fun _ _ _ h => by first | exact h | exact absurd h.1 (fun e => by cases e)) (Or.inl ⟨by rfl, ?hy8⟩) (by assumption) ?rest8
    case hy8 =>
      intro w hSw
      skip
      go_simp
      try with_reducible rfl
    go_simp
    refine wpAnyH_take (i := 10) (v := ?v9) rfl (by kernel_rfl) (by kernel_rfl) (by kernel_rfl) (fun _ _ _ h => by first | exact h | exact absurd h.1 (fun e => by cases e)) (Or.inl ⟨by rfl, ?hy9⟩) (by assumption) ?rest9
    case hy9 =>
      intro w hSw
      skip
      go_simp
      try with_reducible rfl
    go_simp
    refine wpAnyH_take (i := 11) (v := ?v10) rfl (by kernel_rfl) (by kernel_rfl) (by kernel_rfl) (fun _ _ _ h => by first | exact h | exact absurd h.1 (fun e => by cases e)) (Or.inl ⟨by rfl, ?hy10⟩) (by assumption) ?rest10
    case hy10 =>
      intro w hSw
      obtain ⟨m0, m1, m2, m3, m4, m5, m6⟩ := HFi w hSw
      go_simp
      try with_reducible rfl
    go_simp
    refine wpAnyH_take (i := 12) (v := ?v11) rfl (by kernel_rfl) (by kernel_rfl) (by kernel_rfl) (fun _ _ _ h => by first | exact h | exact absurd h.1 (fun e => by cases e)) (Or.inl ⟨by rfl, ?hy11⟩) (by assumption) ?rest11
    case hy11 =>
      intro w hSw
      obtain ⟨m0, m1, m2, m3, m4, m5, m6⟩ := HFt w hSw
      go_simp
      try with_reducible rfl
    go_simp
    refine wpAnyH_take (i := 15) (v := ?v12) rfl (by kernel_rfl) (by kernel_rfl) (by kernel_rfl) (fun _ _ _ h => by first | exact h | exact absurd h.1 (fun e => by cases e)) (Or.inl ⟨by rfl, ?hy12⟩) (by assumption) ?rest12
    case hy12 =>
      intro w hSw
      obtain ⟨m0, m1, m2, m3, m4, m5, m6⟩ := HFs w hSw
      go_simp
      try with_reducible rfl
    go_simp
    refine wpAnyH_take (i := 16) (v := ?v13) rfl (by kernel_rfl) (by kernel_rfl) (by kernel_rfl) (fun _ _ _ h => by first | exact h | exact absurd h.1 (fun e => by cases e)) (Or.inl ⟨by rfl, ?hy13⟩) (by assumption) ?rest13
    case hy13 =>
      intro w hSw
      obtain ⟨m0, m1, m2, m3, m4, m5, m6⟩ := HFt w hSw
      go_simp
      try with_reducible rfl
    go_simp
    refine wpAnyH_ready (rs := [13]) (by kernel_rfl) (by simp) ?_
    refine AllReadyH.cons rfl (fun K hK => ?_) AllReadyH.nil
    go_simp
    refine (HCS.out _ hSn).mono ?_
    rintro e x1 ⟨Aq, Ad, Ay, q1, q2, q3, rfl, hq, kq⟩
    have hQ := Lib.hid hq
    clear hq
    have hSq := hSn.trans kq
    refine hK.out _ _ (hSn.trans kq) (fun hSn => ?_)
    clear hK K
    go_simp
    refine wpAnyH_ready (rs := [14]) (by kernel_rfl) (by simp) ?_
    refine AllReadyH.cons rfl (fun K hK => ?_) AllReadyH.nil
    go_simp
    refine (HS3.out Aq Ad Ay q1 q2 q3 _ hSn hQ.out).mono ?_
    rintro e x2 ⟨rfl, ks⟩
    refine hK.out _ _ (hSn.trans ks) (fun hSn => ?_)
    clear hK K
    go_simp
    refine wpAnyH_ready (rs := [17]) (by kernel_rfl) (by simp) ?_
    refine AllReadyH.cons rfl (fun K hK => ?_) AllReadyH.nil
    go_simp
    refine (HEQ.out _ hSn).mono ?_
    rintro e x3 ⟨rfl, ke⟩
    refine hK.out _ _ (hSn.trans ke) (fun hSn => ?_)
    clear hK K
    go_simp
    refine wpAnyH_take (i := 18) (v := ?v14) rfl (by kernel_rfl) (by kernel_rfl) (by kernel_rfl) (fun _ _ _ h => by first | exact h | exact absurd h.1 (fun e => by cases e)) (Or.inl ⟨by rfl, ?hy14⟩) (by assumption) ?rest14
    case hy14 =>
      intro w hSw
      skip
      go_simp
      try with_reducible rfl
    go_simp
    refine wpAnyH_take (i := 19) (v := ?v15) rfl (by kernel_rfl) (by kernel_rfl) (by kernel_rfl) (fun _ _ _ h => by first | exact h | exact absurd h.1 (fun e => by cases e)) (Or.inl ⟨by rfl, ?hy15⟩) (by assumption) ?rest15
    case hy15 =>
      intro w hSw
      skip
      go_simp
      try with_reducible rfl
    go_simp
    refine wpAnyH_take (i := 20) (v := ?v16) rfl (by kernel_rfl) (by kernel_rfl) (by kernel_rfl) (fun _ _ _ h => by first | exact h | exact absurd h.1 (fun e => by cases e)) (Or.inl ⟨by rfl, ?hy16⟩) (by assumption) ?rest16
    case hy16 =>
      intro w hSw
      skip
      go_simp
      try with_reducible rfl
    go_simp
    refine wpAnyH_take (i := 21) (v := ?v17) rfl (by kernel_rfl) (by kernel_rfl) (by kernel_rfl) (fun _ _ _ h => by first | exact h | exact absurd h.1 (fun e => by cases e)) (Or.inl ⟨by rfl, ?hy17⟩) (by assumption) ?rest17
    case hy17 =>
      intro w hSw
      obtain ⟨m0, m1, m2, m3, m4, m5, m6⟩ := HFt w hSw
      go_simp
      try with_reducible rfl
    go_simp
    refine wpAnyH_take (i := 23) (v := ?v18) rfl (by kernel_rfl) (by kernel_rfl) (by kernel_rfl) (fun _ _ _ h => by first | exact h | exact absurd h.1 (fun e => by cases e)) (Or.inl ⟨by rfl, ?hy18⟩) (by assumption) ?rest18
    case hy18 =>
      intro w hSw
      obtain ⟨m0, m1, m2, m3, m4, m5, m6⟩ := HFi w hSw
      go_simp
      try with_reducible rfl
    go_simp
    refine wpAnyH_take (i := 25) (v := ?v19) rfl (by kernel_rfl) (by kernel_rfl) (by kernel_rfl) (fun _ _ _ h => by first | exact h | exact absurd h.1 (fun e => by cases e)) (Or.inl ⟨by rfl, ?hy19⟩) (by assumption) ?rest19
    case hy19 =>
      intro w hSw
      obtain ⟨m0, m1, m2, m3, m4, m5, m6⟩ := HFs w hSw
      go_simp
      try with_reducible rfl
    go_simp
    refine wpAnyH_take (i := 26) (v := ?v20) rfl (by kernel_rfl) (by kernel_rfl) (by kernel_rfl) (fun _ _ _ h => by first | exact h | exact absurd h.1 (fun e => by cases e)) (Or.inl ⟨by rfl, ?hy20⟩) (by assumption) ?rest20
    case hy20 =>
      intro w hSw
      obtain ⟨m0, m1, m2, m3, m4, m5, m6⟩ := HFt w hSw
      go_simp
      try with_reducible rfl
    go_simp
    refine wpAnyH_ready (rs := [22]) (by kernel_rfl) (by simp) ?_
    refine AllReadyH.cons rfl (fun K hK => ?_) AllReadyH.nil
    go_simp
    refine (HCS.out _ hSn).mono ?_
    rintro e x1 ⟨Aq, Ad, Ay, q1, q2, q3, rfl, hq, kq⟩
    have hQ := Lib.hid hq
    clear hq
    have hSq := hSn.trans kq
    refine hK.out _ _ (hSn.trans kq) (fun hSn => ?_)
    clear hK K
    go_simp
    refine wpAnyH_ready (rs := [24]) (by kernel_rfl) (by simp) ?_
    refine AllReadyH.cons rfl (fun K hK => ?_) AllReadyH.nil
    go_simp
    refine (HS4.out Aq Ad Ay q1 q2 q3 _ hSn hQ.out).mono ?_
    rintro e x2 ⟨rfl, ks⟩
    refine hK.out _ _ (hSn.trans ks) (fun hSn => ?_)
    clear hK K
    go_simp
    refine wpAnyH_ready (rs := [27]) (by kernel_rfl) (by simp) ?_
    refine AllReadyH.cons rfl (fun K hK => ?_) AllReadyH.nil
    go_simp
    refine (HEQ.out _ hSn).mono ?_
    rintro e x3 ⟨rfl, ke⟩
    refine hK.out _ _ (hSn.trans ke) (fun hSn => ?_)
    clear hK K
    go_simp
    refine wpAnyH_take (i := 28) (v := ?v21) rfl (by kernel_rfl) (by kernel_rfl) (by kernel_rfl) (fun _ _ _ h => by first | exact h | exact absurd h.1 (fun e => by cases e)) (Or.inl ⟨by rfl, ?hy21⟩) (by assumption) ?rest21
    case hy21 =>
      intro w hSw
      skip
      go_simp
      try with_reducible rfl
    go_simp
    refine wpAnyH_take (i := 29) (v := ?v22) rfl (by kernel_rfl) (by kernel_rfl) (by kernel_rfl) (fun _ _ _ h => by first | exact h | exact absurd h.1 (fun e => by cases e)) (Or.inl ⟨by rfl, ?hy22⟩) (by assumption) ?rest22
    case hy22 =>
      intro w hSw
      skip
      go_simp
      try with_reducible rfl
    go_simp
    refine wpAnyH_done (by kernel_rfl) ?_ _
    exact ⟨rfl, ⟨_, _, _, _, _, _, _, _, _, _, _, _, _, _, _, _, _, _, _, _, _, _, _, _, _, _, _, _, _, _, _, _, _, _, _, _, _, _, _, _, _, _, _, _, _, _, _, _, _, _, _, _, _, _, _, _, _, _, _, _, _, _, _, _, rfl⟩, hSn⟩
  · rintro a' wd ⟨⟨u0, u1, u9, u10, u11, u12, u13, u14, u15, u16, u17, u18, u19, u20, u21, u22, u23, u24, u25, u26, u27, u28, u29, u30, u31, u32, u33, u34, u35, u36, u37, u38, u39, u40, u41, u42, u43, u44, u45, u46, u47, u48, u49, u50, u51, u52, u53, u54, u55, u56, u57, u58, u59, u60, u61, u62, u63, u64, u65, u66, u67, u68, u69, u70, rfl⟩, kd⟩
    have F5 := Lib.hid (F4.out.calm kd)
    clear kd F4 HFs HFt HFi HFa HFb HS1 HS2 HS3 HS4 HEQ HCS
    have hin9 := F5.out.inn.inside
    obtain ⟨wB, hwB⟩ : ∃ z, z = wd.alloc (.cells (bag4 (.slice none 0 0) (.slice none 0 0) (.slice none 0 0) (.slice none 0 0)) 60) := ⟨_, rfl⟩
    have kB : Keeps (fun _ => False) wd wB := by rw [hwB]; exact (Keeps.refl _ _).alloc _
    have hpB : wd.heap.size ≤ wB.heap.size := kB.size
    have hpw : w.heap.size ≤ wd.heap.size := F5.out.src.keeps.size
    have HB := Lib.hid (Bag4.start3 F5.out.a.lists F5.out.b.lists F5.out.inn.lists (by omega) (by omega) (by omega) F5.out.b.inside F5.out.a.inside F5.out.inn.inside)
    have HAB := Lib.hid (Above.of F5.out.a.lists F5.out.b.lists F5.out.inn.lists (n := n2) (by omega) (by omega) (by omega))
    rw [← hwB] at HB
    have F6 := Lib.hid (F5.out.calm kB)
    have hz1 := F5.out.a.lists.len
    have hz2 := F5.out.b.lists.len
    have hz3 := F5.out.inn.lists.len
    have LA := Lib.hid (F6.out.a.lists.lies.up F5.out.a.inside)
    have LB := Lib.hid (F6.out.b.lists.lies.up F5.out.b.inside)
    have LI := Lib.hid (F6.out.inn.lists.lies.up F5.out.inn.inside)
    have BXb := Lib.hid F6.out.b.box
    have BXi := Lib.hid F6.out.inn.box
    have KK := Lib.hid F6.out.src.keeps
    obtain ⟨a0, a1, a2, a3, a4, a5, a6, f0, f1, f2, f3, f4, f5, f6⟩ := seven F6.out.a.box
    clear f0 f1 f2 f3 f4 f5 f6
    clear F5 F6 kB
    rw [hwB] at a0 a1 a2 a3 a4 a5 a6
    unfold bag4 at a0 a1 a2 a3 a4 a5 a6 hwB
    have HZ := Lib.hid (And.intro hz1 (And.intro hz2 hz3))
    have HN := Lib.hid (And.intro hin2 (And.intro hpB hpw))
    clear hin23 hz1 hz2 hz3 hin2 hpB hpw hin3 hin5 hin6 hin7 hin8 hin9
    go_wp2_with fail
    rw [← hwB]
    clear hwB a0 a1 a2 a3 a4 a5 a6
    have hpB := HN.out.2.1
    generalize wd.heap.size = p at *
    have HA := addState4 (lsC s A1 D1 Z1 c1 d1 z1 cells1) s.turn s.whose s.fin s.winner HB.out (by decide) (by decide) (by decide) rfl rfl rfl HZ.out.1 LA.out (fun i q hq _ => next_a hq)
    simp only [lsC] at HA
    refine HA.mono ?_
    clear HA
    rintro e wx1 ⟨rfl, ri1, rp1, rc1, rr1, Ai1, Ap1, Ac1, Ar1, ci1, cp1, cc1, cr1, hb1, l1, l2, l3, l4, kx⟩
    have HB1 := Lib.hid hb1
    have KK1 := Lib.hid (KK.out.and kx (fun b hb hs => by have := hs.1; have := HN.out.2.2; omega))
    have LB1 := Lib.hid (LB.out.bagS kx hpB)
    have LI1 := Lib.hid (LI.out.bagS kx hpB)
    have BXb1 := Lib.hid (BagS.box kx BXb.out)
    have BXi1 := Lib.hid (BagS.box kx BXi.out)
    have hsz1 := Nat.le_trans HN.out.2.1 kx.size
    have HZ1 := Lib.hid hsz1
    have HQ1 : Hid (rp1.length = 1 ∧ rc1.length = 1 ∧ rr1.length = 1) := Lib.hid ⟨l1, l2, l3⟩
    have HR1 := Lib.hid l4
    clear hsz1
    clear hb1 kx l1 l2 l3 l4 HB KK LA LB LI BXb BXi hpB
    obtain ⟨a0, a1, a2, a3, a4, a5, a6, f0, f1, f2, f3, f4, f5, f6⟩ := seven BXb1.out
    clear f0 f1 f2 f3 f4 f5 f6
    go_wp2_with fail
    clear a0 a1 a2 a3 a4 a5 a6
    have HA := addState4 (lsC s A2 D2 Z2 c2 d2 z2 cells2) s.turn s.whose s.fin s.winner HB1.out (by have h1 := HQ1.out.1; omega) (by have h1 := HQ1.out.2.1; omega) (by have h1 := HQ1.out.2.2; omega) (by rw [HQ1.out.1]; rfl) (by rw [HQ1.out.2.1]; rfl) (by rw [HQ1.out.2.2]; rfl) HZ.out.2.1 LB1.out (fun i q hq hl => next_b HR1.out hl hq)
    simp only [lsC] at HA
    refine HA.mono ?_
    clear HA
    rintro e wx2 ⟨rfl, ri2, rp2, rc2, rr2, Ai2, Ap2, Ac2, Ar2, ci2, cp2, cc2, cr2, hb2, l1, l2, l3, l4, kx⟩
    have HB2 := Lib.hid hb2
    have HQ2 : Hid (rp2.length = 2 ∧ rc2.length = 2 ∧ rr2.length = 2) := Lib.hid ⟨by rw [l1, HQ1.out.1], by rw [l2, HQ1.out.2.1], by rw [l3, HQ1.out.2.2]⟩
    have HR2 := Lib.hid l4
    have KK2 := Lib.hid (KK1.out.and kx (fun b hb hs => by have := hs.1; have := HN.out.2.2; omega))
    have LI2 := Lib.hid (LI1.out.bagS kx HZ1.out)
    have BXi2 := Lib.hid (BagS.box kx BXi1.out)
    clear hb2 kx l1 l2 l3 l4 HB1 KK1 HQ1 LB1 LI1 BXi1 BXb1
    obtain ⟨a0, a1, a2, a3, a4, a5, a6, f0, f1, f2, f3, f4, f5, f6⟩ := seven BXi2.out
    clear f0 f1 f2 f3 f4 f5 f6
    go_wp2_with fail
    clear a0 a1 a2 a3 a4 a5 a6
    have HA := addState4 (lsW s gp gc gz bs) s.turn s.whose s.fin s.winner HB2.out (by have h1 := HQ2.out.1; omega) (by have h1 := HQ2.out.2.1; omega) (by have h1 := HQ2.out.2.2; omega) (by rw [HQ2.out.1]; rfl) (by rw [HQ2.out.2.1]; rfl) (by rw [HQ2.out.2.2]; rfl) HZ.out.2.2 LI2.out (fun i q hq hl => next_c HR1.out HR2.out hl hq)
    simp only [lsW] at HA
    refine HA.mono ?_
    clear HA
    rintro e wx3 ⟨rfl, ri3, rp3, rc3, rr3, Ai3, Ap3, Ac3, Ar3, ci3, cp3, cc3, cr3, hb3, l1, l2, l3, l4, kx⟩
    have HB3 := Lib.hid hb3
    have HQ3 : Hid (rp3.length = 3 ∧ rc3.length = 3 ∧ rr3.length = 3) := Lib.hid ⟨by rw [l1, HQ2.out.1], by rw [l2, HQ2.out.2.1], by rw [l3, HQ2.out.2.2]⟩
    have HR3 := Lib.hid l4
    have KK3 := Lib.hid (KK2.out.and kx (fun b hb hs => by have := hs.1; have := HN.out.2.2; omega))
    clear hb3 kx l1 l2 l3 l4 HB2 KK2 HQ2 LI2 BXi2
    go_wp2_with fail
    refine (apart4 HB3.out).mono ?_
    rintro e wx4 ⟨rfl, kx⟩
    have KK4 := Lib.hid (HB3.out.keep HAB.out KK3.out kx (by have := HN.out.1; omega))
    clear kx HB3 KK3 HAB HN HZ HQ3 HR1 HR2 HR3
    go_wp2_with fail
    refine (works_any wx4).mono ?_
    rintro e wx5 ⟨rfl, kx⟩
    have KK5 := Lib.hid (KK4.out.trans kx)
    clear kx KK4
    go_wp2_with fail
    go_ret
    exact ⟨rfl, KK5.out⟩
end Go.Proofs.YtgbikcliembkcaaDoor
