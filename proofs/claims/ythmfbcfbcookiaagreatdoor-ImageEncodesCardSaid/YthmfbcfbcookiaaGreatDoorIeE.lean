/-
  The law ImageEncodes: the walk. Conditions: lengths within 10 ^ 15; what an argument brings.
-/
import Derived.Test.YthmfbcfbcookiaaGreatDoorIeD
import Derived.Test.YthmfbcfbcookiaaGreatDoorImMh
import Derived.Deep.RegionHeld3
namespace Go.Proofs.YthmfbcfbcookiaaGreatDoor
open Go.RowKit
/-- The state that came in, in its box. -/
structure Sr (w W : World) (s : St) (Ap Ac Az : Option Addr) (cp cc cz : Nat) : Prop where
  keeps : Keeps (fun _ => False) w W
  box : Whole W w.heap.size 27 (stC s Ap Ac Az cp cc cz)
  lies : StIn W W.heap.size s Ap Ac Az
theorem Sr.calm {w W W' : World} {s : St} {Ap Ac Az : Option Addr} {cp cc cz : Nat} (h : Sr w W s Ap Ac Az cp cc cz) (hk : Keeps (fun _ => False) W W') : Sr w W' s Ap Ac Az cp cc cz := ⟨h.keeps.trans hk, h.box.keeps hk id, h.lies.past hk⟩
/-- Its copy of one's own, in a box. -/
structure Wi (W : World) (gi lo : Nat) (s : St) (gp gc gz : Nat) (cs : Array Value) (bs : Nat → Nat) : Prop where
  wide : WideIn W lo s gp gc gz cs bs
  box : Whole W gi 27 (stC s (some ⟨gp, 0, none⟩) (some ⟨gc, 0, none⟩) (some ⟨gz, 0, none⟩) (s.players.length + 64) (s.cards.length + 64) (s.zones.length + 64))
theorem Wi.calm {W W' : World} {gi lo : Nat} {s : St} {gp gc gz : Nat} {cs : Array Value} {bs : Nat → Nat} (h : Wi W gi lo s gp gc gz cs bs) (hk : Keeps (fun _ => False) W W') : Wi W' gi lo s gp gc gz cs bs := ⟨h.wide.keeps hk (fun _ _ => id), h.box.keeps hk id⟩
theorem flat_of_size {s : St} (h : stSizeTo s ≤ 16777216) : s.zones.flatten.length ≤ 1000000000 := by
  have := stSizeTo_small h
  unfold stSize at this
  omega
theorem stC_like {s t : St} (h1 : t.players.length = s.players.length) (h2 : t.cards.length = s.cards.length) (h3 : t.zones = s.zones) (h4 : t.turn = s.turn) (h5 : t.whose = s.whose) (h6 : t.fin = s.fin) (h7 : t.winner = s.winner) (Ap Ac Az : Option Addr) (cp cc cz : Nat) : stC s Ap Ac Az cp cc cz = stC t Ap Ac Az cp cc cz := by
  unfold stC
  rw [h1, h2, h3, h4, h5, h6, h7]
theorem byt_lt {W : World} {n c : Nat} {A : Option Addr} {l : List Byte} (h : Byt W n A c l) : ∀ k, (Value.slice A l.length c).ownBlock = some k → n ≤ k ∧ k < W.heap.size := fun k hk => h.lt k hk
theorem blks_catE {rows : List Sl} {r : Sl} {b : Nat} (h : blks (rows ++ [r]) b) : blks rows b ∨ r.blk = some b := by
  obtain ⟨k, q, hq, hb⟩ := h
  rcases Nat.lt_or_ge k rows.length with hlt | hge
  · rw [List.getElem?_append_left hlt] at hq; exact .inl ⟨k, q, hq, hb⟩
  · rw [List.getElem?_append_right hge, List.getElem?_singleton] at hq
    split at hq
    · injection hq with hq; rw [hq]; exact .inr hb
    · cases hq
theorem blks_snoc {rows : List Sl} {r : Sl} {b : Nat} (h : blks (rows ++ [r]) b) : blks rows b ∨ r.blk = some b := by
  rcases blks_catE h with h | h
  · exact .inl h
  · exact .inr h
set_option maxRecDepth 100000 in
set_option maxHeartbeats 8000000 in
theorem imageEncodes_any (s : St) (Ap Ac Az : Option Addr) (cp cc cz : Nat) (w : World) (hx : StIn w w.heap.size s Ap Ac Az) (hs : StBig s) (ht : in32 s.turn) :
    Calls Tryz.prog 3 #[.agg (stC s Ap Ac Az cp cc cz)] w fun e w' => e = .returned (.bool true) ∧ Keeps (fun _ => False) w w' := by
  obtain ⟨w0, hw0⟩ : ∃ z, z = w.alloc (.cells (stC s Ap Ac Az cp cc cz) 27) := ⟨_, rfl⟩
  have k0 : Keeps (fun _ => False) w w0 := by rw [hw0]; exact (Keeps.refl _ _).alloc _
  have S0 : Hid (Sr w w0 s Ap Ac Az cp cc cz) := Lib.hid ⟨k0, by rw [hw0]; exact Whole.made w _ _, hx.past k0⟩
  have HSZ := Lib.hid (fun W (h : StIn W W.heap.size s Ap Ac Az) => sizeState_any s Ap Ac Az W.heap.size cp cc cz W h (Nat.le_refl _) hs.players hs.cards hs.zones hs.rows)
  unfold stV at HSZ
  have HT := Lib.hid ht
  clear hx k0 hs ht
  unfold stC at hw0
  unfold stC
  go_enter Tryz.func3, Tryz.ntmps3
  go_wp2_with fail
  rw [← hw0]
  clear hw0
  refine (works07_any w0).mono ?_
  rintro e w1 ⟨rfl, k1⟩
  have S1 := Lib.hid (S0.out.calm k1)
  clear S0 k1
  obtain ⟨a0, a1, a2, a3, a4, a5, a6, fa0, fa1, fa2, fa3, fa4, fa5, fa6⟩ := seven S1.out.box
  clear fa0 fa1 fa2 fa3 fa4 fa5 fa6
  go_wp2_with fail
  clear a0 a1 a2 a3 a4 a5 a6
  refine (HSZ.out w1 S1.out.lies).mono ?_
  rintro e w2 ⟨rfl, k2⟩
  have S2 := Lib.hid (S1.out.calm k2)
  clear S1 k2 HSZ
  by_cases hb : 4194304 < (stSizeTo s : Int)
  · have hd : decide (4194304 < (stSizeTo s : Int)) = true := decide_eq_true hb
    generalize stSizeTo s = q at *
    go_wp2_with fail
    go_ret
    exact ⟨rfl, S2.out.keeps⟩
  have hd : decide (4194304 < (stSizeTo s : Int)) = false := decide_eq_false hb
  have SM := Lib.hid (small_of_size (stSizeTo_small (s := s) (by omega)))
  have HF := Lib.hid (flat_of_size (s := s) (by omega))
  clear hb
  generalize stSizeTo s = q at *
  have HWD := Lib.hid (fun W (h : StIn W W.heap.size s Ap Ac Az) => wideState_any s Ap Ac Az W.heap.size cp cc cz W h (Nat.le_refl _) SM.out)
  unfold stV at HWD
  have HEN := Lib.hid (fun W (A D Z : Option Addr) (a d z : Nat) (h : StIn W W.heap.size s A D Z) => encodeAll_any s A D Z a d z W h SM.out HT.out)
  have HRE := Lib.hid (fun W (A D Z : Option Addr) (a d z : Nat) (h : StIn W W.heap.size s A D Z) => refEncodeAll_any s A D Z a d z W h SM.out HT.out HF.out)
  have HSU := Lib.hid (fun W (A D Z : Option Addr) (a d z : Nat) (h : StIn W W.heap.size s A D Z) => sumAll_any s A D Z a d z W h SM.out HT.out)
  have HRS := Lib.hid (fun W (A D Z : Option Addr) (a d z : Nat) (h : StIn W W.heap.size s A D Z) => refSumAll_any s A D Z a d z W h SM.out HT.out HF.out)
  have HLL := eL_len s
  unfold stC at HEN HRE HSU HRS
  generalize eL s = l at *
  generalize eE s = er at *
  generalize eN s = nn at *
  obtain ⟨a0, a1, a2, a3, a4, a5, a6, fa0, fa1, fa2, fa3, fa4, fa5, fa6⟩ := seven S2.out.box
  clear fa0 fa1 fa2 fa3 fa4 fa5 fa6
  go_wp2_with fail
  clear hd
  clear a0 a1 a2 a3 a4 a5 a6
  refine (HWD.out w2 S2.out.lies).mono ?_
  rintro e w3 ⟨gp, gc, gz, cs, bs, rfl, hw, k3⟩
  obtain ⟨w4, hw4⟩ : ∃ z, z = w3.alloc (.cells #[.slice (some ⟨gp, 0, none⟩) s.players.length (s.players.length + 64), .slice (some ⟨gc, 0, none⟩) s.cards.length (s.cards.length + 64), .slice (some ⟨gz, 0, none⟩) s.zones.length (s.zones.length + 64), .int .i32 s.turn, .int .i64 s.whose, .int .i8 s.fin, .int .i64 s.winner] 27) := ⟨_, rfl⟩
  have k4 : Keeps (fun _ => False) w3 w4 := by rw [hw4]; exact (Keeps.refl _ _).alloc _
  have S4 := Lib.hid (S2.out.calm (k3.trans k4))
  have D4 : Hid (Wi w4 w3.heap.size w2.heap.size s gp gc gz cs bs) := Lib.hid ⟨hw.keeps k4 (fun _ _ => id), by rw [hw4]; exact Whole.made w3 _ _⟩
  have hlo : w.heap.size ≤ w2.heap.size := S2.out.keeps.size
  have hgc : w2.heap.size ≤ gc := hw.newc
  have hgp : w2.heap.size ≤ gp := hw.newp
  have hin3 : w2.heap.size ≤ w3.heap.size := k3.size
  clear hw k3 k4 S2 HWD
  generalize w2.heap.size = n2 at *
  obtain ⟨a0, a1, a2, a3, a4, a5, a6, fa0, fa1, fa2, fa3, fa4, fa5, fa6⟩ := seven D4.out.box
  clear fa0 fa1 fa2 fa3 fa4 fa5 fa6
  rw [hw4] at a0 a1 a2 a3 a4 a5 a6
  go_wp2_with fail
  rw [← hw4]
  clear a0 a1 a2 a3 a4 a5 a6
  clear hw4
  generalize w3.heap.size = gi at *
  refine (HEN.out w4 _ _ _ _ _ _ D4.out.wide.lies).mono ?_
  rintro e w5 ⟨A1, c1, rfl, hb, hk⟩
  have S5 := Lib.hid (S4.out.calm hk)
  have D5 := Lib.hid (D4.out.calm hk)
  have P5 := Lib.hid hb
  have L1 := Lib.hid (byt_lt hb)
  have hz5 : w4.heap.size ≤ w5.heap.size := hk.size
  have hz4 : gi < w4.heap.size := D4.out.box.inside
  clear hb hk S4 D4
  obtain ⟨a0, a1, a2, a3, a4, a5, a6, fa0, fa1, fa2, fa3, fa4, fa5, fa6⟩ := seven D5.out.box
  clear fa0 fa1 fa2 fa3 fa4 fa5 fa6
  go_wp2_with fail
  clear a0 a1 a2 a3 a4 a5 a6
  refine (HEN.out w5 _ _ _ _ _ _ D5.out.wide.lies).mono ?_
  rintro e w6 ⟨A2, c2, rfl, hb, hk⟩
  have S6 := Lib.hid (S5.out.calm hk)
  have D6 := Lib.hid (D5.out.calm hk)
  have P6 := Lib.hid (own_keepsS P5.out hk (fun _ _ => id))
  have Q6 := Lib.hid hb
  have L2 := Lib.hid (byt_lt hb)
  have hz6 : w5.heap.size ≤ w6.heap.size := hk.size
  clear hb hk S5 D5 P5
  obtain ⟨a0, a1, a2, a3, a4, a5, a6, fa0, fa1, fa2, fa3, fa4, fa5, fa6⟩ := seven D6.out.box
  clear fa0 fa1 fa2 fa3 fa4 fa5 fa6
  go_wp2_with fail
  clear a0 a1 a2 a3 a4 a5 a6
  refine (HSU.out w6 _ _ _ _ _ _ D6.out.wide.lies).mono ?_
  rintro e w7 ⟨rfl, hk⟩
  have S7 := Lib.hid (S6.out.calm hk)
  have D7 := Lib.hid (D6.out.calm hk)
  have P7 := Lib.hid (own_keepsS P6.out hk (fun _ _ => id))
  have Q7 := Lib.hid (own_keepsS Q6.out hk (fun _ _ => id))
  have hz7 : w6.heap.size ≤ w7.heap.size := hk.size
  clear hk S6 D6 P6 Q6
  obtain ⟨a0, a1, a2, a3, a4, a5, a6, fa0, fa1, fa2, fa3, fa4, fa5, fa6⟩ := seven S7.out.box
  clear fa0 fa1 fa2 fa3 fa4 fa5 fa6
  go_wp2_with fail
  clear a0 a1 a2 a3 a4 a5 a6
  refine (HRE.out w7 _ _ _ _ _ _ S7.out.lies).mono ?_
  rintro e w8 ⟨A3, c3, rfl, hb, hk⟩
  have S8 := Lib.hid (S7.out.calm hk)
  have D8 := Lib.hid (D7.out.calm hk)
  have P8 := Lib.hid (own_keepsS P7.out hk (fun _ _ => id))
  have Q8 := Lib.hid (own_keepsS Q7.out hk (fun _ _ => id))
  have hz8 : w7.heap.size ≤ w8.heap.size := hk.size
  have R8 := Lib.hid hb
  clear hb
  clear hk S7 D7 P7 Q7
  obtain ⟨a0, a1, a2, a3, a4, a5, a6, fa0, fa1, fa2, fa3, fa4, fa5, fa6⟩ := seven S8.out.box
  clear fa0 fa1 fa2 fa3 fa4 fa5 fa6
  go_wp2_with fail
  clear a0 a1 a2 a3 a4 a5 a6
  refine (HRS.out w8 _ _ _ _ _ _ S8.out.lies).mono ?_
  rintro e w9 ⟨rfl, hk⟩
  have S9 := Lib.hid (S8.out.calm hk)
  have D9 := Lib.hid (D8.out.calm hk)
  have P9 := Lib.hid (own_keepsS P8.out hk (fun _ _ => id))
  have Q9 := Lib.hid (own_keepsS Q8.out hk (fun _ _ => id))
  have hz9 : w8.heap.size ≤ w9.heap.size := hk.size
  have R9 := Lib.hid (own_keepsS R8.out hk (fun _ _ => id))
  clear R8
  clear hk S8 D8 P8 Q8
  obtain ⟨a0, a1, a2, a3, a4, a5, a6, fa0, fa1, fa2, fa3, fa4, fa5, fa6⟩ := seven D9.out.box
  clear fa0 fa1 fa2 fa3 fa4 fa5 fa6
  obtain ⟨b0, b1, b2, b3, b4, b5, b6, fb0, fb1, fb2, fb3, fb4, fb5, fb6⟩ := seven S9.out.box
  clear fb0 fb1 fb2 fb3 fb4 fb5 fb6
  go_wp2_with fail
  clear a0 a1 a2 a3 a4 a5 a6
  clear b0 b1 b2 b3 b4 b5 b6
  have HEQ := Lib.hid (fun W (h1 : StIn W W.heap.size s (some ⟨gp, 0, none⟩) (some ⟨gc, 0, none⟩) (some ⟨gz, 0, none⟩)) (h2 : StIn W W.heap.size s Ap Ac Az) => eqState_any s s (some ⟨gp, 0, none⟩) (some ⟨gc, 0, none⟩) (some ⟨gz, 0, none⟩) Ap Ac Az W.heap.size (s.players.length + 64) (s.cards.length + 64) (s.zones.length + 64) cp cc cz W h1 h2 (Nat.le_refl _) SM.out)
  unfold stV at HEQ
  simp only [decide_true] at HEQ
  refine (HEQ.out w9 D9.out.wide.lies S9.out.lies).mono ?_
  rintro e wa ⟨rfl, hk⟩
  have Sa := Lib.hid (S9.out.calm hk)
  have Da := Lib.hid (D9.out.calm hk)
  have Pa := Lib.hid (own_keepsS P9.out hk (fun _ _ => id))
  have Qa := Lib.hid (own_keepsS Q9.out hk (fun _ _ => id))
  have hza : w9.heap.size ≤ wa.heap.size := hk.size
  have Ra := Lib.hid (own_keepsS R9.out hk (fun _ _ => id))
  clear R9
  clear hk S9 D9 P9 Q9
  obtain ⟨a0, a1, a2, a3, a4, a5, a6, fa0, fa1, fa2, fa3, fa4, fa5, fa6⟩ := seven Da.out.box
  clear fa0 fa1 fa2 fa3 fa4 fa5 fa6
  go_wp2_with fail
  clear a0 a1 a2 a3 a4 a5 a6
  have HSP := Lib.hid (fun W (h : WideIn W n2 s gp gc gz cs bs) => spareState_any s gp gc gz n2 cs bs W h SM.out)
  unfold stV at HSP
  refine (HSP.out wa Da.out.wide).mono ?_
  rintro e wb ⟨rfl, hk⟩
  have Sb := Lib.hid (Sa.out.calm hk)
  have Db := Lib.hid (Da.out.calm hk)
  have Pb := Lib.hid (own_keepsS Pa.out hk (fun _ _ => id))
  have Qb := Lib.hid (own_keepsS Qa.out hk (fun _ _ => id))
  have hzb : wa.heap.size ≤ wb.heap.size := hk.size
  have Rb := Lib.hid (own_keepsS Ra.out hk (fun _ _ => id))
  clear Ra
  clear hk Sa Da Pa Qa
  have q1 : (er != er) = false := by simp
  have q2 : (nn != nn) = false := by simp
  go_wp2_with fail
  have HEB := Lib.hid (fun W (A B : Option Addr) (c d : Nat) (h1 : Lies W W.heap.size A (bytesV l)) (h2 : Lies W W.heap.size B (bytesV l)) => eqBytes_any l l A B W.heap.size W.heap.size c d W h1 h2 (by omega))
  simp only [decide_true] at HEB
  refine (HEB.out wb _ _ _ _ (own_lies Pb.out) (own_lies Rb.out)).mono ?_
  rintro e wc ⟨rfl, hbe⟩
  have hk : Keeps (fun _ => False) wb wc := keepsAll hbe
  have Rc := Lib.hid (own_keepsS Rb.out hk (fun _ _ => id))
  clear hbe Rb
  have Sc := Lib.hid (Sb.out.calm hk)
  have Dc := Lib.hid (Db.out.calm hk)
  have Pc := Lib.hid (own_keepsS Pb.out hk (fun _ _ => id))
  have Qc := Lib.hid (own_keepsS Qb.out hk (fun _ _ => id))
  have hzc : wb.heap.size ≤ wc.heap.size := hk.size
  clear hk Sb Db Pb Qb
  go_wp2_with fail
  refine (HEB.out wc _ _ _ _ (own_lies Qc.out) (own_lies Rc.out)).mono ?_
  rintro e wd ⟨rfl, hbe⟩
  have hk : Keeps (fun _ => False) wc wd := keepsAll hbe
  clear hbe Rc
  have Sd := Lib.hid (Sc.out.calm hk)
  have Dd := Lib.hid (Dc.out.calm hk)
  have Pd := Lib.hid (own_keepsS Pc.out hk (fun _ _ => id))
  have Qd := Lib.hid (own_keepsS Qc.out hk (fun _ _ => id))
  have hzd : wc.heap.size ≤ wd.heap.size := hk.size
  clear hk Sc Dc Pc Qc
  clear q1 q2 HEB HEQ HSP HEN HRE HSU HRS
  have O0 := Lib.hid (On.of Dd.out.wide Sd.out.keeps Dd.out.box Pd.out Qd.out)
  have hgc2 : w.heap.size ≤ gc := by omega
  have hgp2 : w.heap.size ≤ gp := by omega
  have HZ : Hid (w.heap.size ≤ w4.heap.size ∧ w4.heap.size ≤ w5.heap.size ∧ w6.heap.size ≤ wd.heap.size ∧ w5.heap.size ≤ w6.heap.size) := Lib.hid ⟨by omega, by omega, by omega, by omega⟩
  clear Sd Dd Pd Qd hz4 hz5 hz6 hz7 hz8 hz9 hza hzb hzc hzd hlo hgc hgp hin3
  have HND0 : Hid (w6.heap.size ≤ wd.heap.size) := Lib.hid HZ.out.2.2.1
  generalize w4.heap.size = n4 at *
  generalize w5.heap.size = n5 at *
  generalize w6.heap.size = n6 at *
  have hncl := SM.out.cards
  have hnpl := SM.out.players
  generalize (flat Pl.cells (widePl s.players)).toArray = pc0 at *
  generalize (flat Cd.cells (wideCd s.cards)).toArray = cc0 at *
  go_wp2_with fail
  go_loopw [16] (fun vi wr => ∃ (i : Nat) (pc cc : Array Value), i ≤ s.cards.length ∧ vi = .int .i64 i ∧ Hid (On w wr s gi gp gc gz pc cc cs bs A1 A2 c1 c2 l n4 n5) ∧ Hid (n6 ≤ wr.heap.size)) (fun vi _ => s.cards.length - (intOf vi).toNat)
  case atStart => exact ⟨0, _, _, by omega, rfl, O0, HND0⟩
  case round =>
    clear O0 HND0
    obtain ⟨i, pc, cc, hi, rfl, OO, HND⟩ := hrel
    obtain ⟨a0, a1, a2, a3, a4, a5, a6, fa0, fa1, fa2, fa3, fa4, fa5, fa6⟩ := seven OO.out.box
    clear fa0 fa1 fa2 fa3 fa4 fa5 fa6
    by_cases hlt : i < s.cards.length
    · obtain ⟨c, hc⟩ := OO.out.cds i hlt
      have hzc : wr.cell? ⟨gc, i * 6 + 2, none⟩ = some (.int .i32 c.power) := (OO.out.cd.cellAt _).trans (hc 2 (by decide))
      have hfz := OO.out.cd.free (i * 6 + 2)
      have HOC := fun z => OO.out.card hgc2 i z
      have hne : gi ≠ gc := OO.out.box |> fun h => by
        intro e
        subst e
        exact absurd (h.symm.trans OO.out.cd) (by intro h; injection h with h; injection h with _ h _; exact absurd h (by decide))
      have hne2 : gc ≠ gi := hne.symm
      have HOD := Lib.hid HOC
      clear HOC hc
      go_wp2_with fail
      refine wp_region_held_drew (S := fun W => W.cell? ⟨gi, 1, none⟩ = some (.slice (some ⟨gc, 0, none⟩) s.cards.length (s.cards.length + 64))) (by kernel_rfl) (a1) ?_
      intro hSn
      have hzd : wr.drew.cell? ⟨gc, i * 6 + 2, none⟩ = some (.int .i32 c.power) := hzc
      have hfd : wr.drew.frozen? ⟨gc, i * 6 + 2, none⟩ = false := hfz
      have OD := Lib.hid (fun z => (HOD.out z))
      clear hzc hfz a0 a1 a2 a3 a4 a5 a6
      refine wpAnyH_take (i := 0) (v := ?v1) rfl (by kernel_rfl) (by kernel_rfl) (by kernel_rfl) (fun _ _ _ h => by first | exact h | exact absurd h.1 (fun e => by cases e)) (Or.inl ⟨by rfl, ?hy1⟩) (by assumption) ?rest1
      case hy1 =>
        intro w hSw
        have s1 := hSw
        go_simp
        try with_reducible rfl
      go_simp
      refine wpAnyH_take (i := 1) (v := ?v2) rfl (by kernel_rfl) (by kernel_rfl) (by kernel_rfl) (fun _ _ _ h => by first | exact h | exact absurd h.1 (fun e => by cases e)) (Or.inl ⟨by rfl, ?hy2⟩) (by assumption) ?rest2
      case hy2 =>
        intro w hSw
        have s1 := hSw
        go_simp
        try with_reducible rfl
      go_simp
      refine wpAnyH_take (i := 2) (v := ?v3) rfl (by kernel_rfl) (by kernel_rfl) (by kernel_rfl) (fun _ _ _ h => by first | exact h | exact absurd h.1 (fun e => by cases e)) (Or.inl ⟨by rfl, ?hy3⟩) (by assumption) ?rest3
      case hy3 =>
        intro w hSw
        have s1 := hSw
        go_simp
        try with_reducible rfl
      go_simp
      refine wpAnyH_take (i := 3) (v := ?v4) rfl (by kernel_rfl) (by kernel_rfl) (by kernel_rfl) (fun _ _ _ h => by first | exact h | exact absurd h.1 (fun e => by cases e)) (Or.inl ⟨by rfl, ?hy4⟩) (by assumption) ?rest4
      case hy4 =>
        intro w hSw
        have s1 := hSw
        go_simp
        try with_reducible rfl
      go_simp
      refine wpAnyH_take (i := 4) (v := ?v5) rfl (by kernel_rfl) (by kernel_rfl) (by kernel_rfl) (fun _ _ _ h => by first | exact h | exact absurd h.1 (fun e => by cases e)) (Or.inl ⟨by rfl, ?hy5⟩) (by assumption) ?rest5
      case hy5 =>
        intro w hSw
        have s1 := hSw
        go_simp
        try with_reducible rfl
      go_simp
      refine wpAnyH_take (i := 5) (v := ?v6) rfl (by kernel_rfl) (by kernel_rfl) (by kernel_rfl) (fun _ _ _ h => by first | exact h | exact absurd h.1 (fun e => by cases e)) (Or.inl ⟨by rfl, ?hy6⟩) (by assumption) ?rest6
      case hy6 =>
        intro w hSw
        have s1 := hSw
        go_simp
        try with_reducible rfl
      go_simp
      refine wpAnyH_take (i := 6) (v := ?v7) rfl (by kernel_rfl) (by kernel_rfl) (by kernel_rfl) (fun _ _ _ h => by first | exact h | exact absurd h.1 (fun e => by cases e)) (Or.inl ⟨by rfl, ?hy7⟩) (by assumption) ?rest7
      case hy7 =>
        intro w hSw
        have s1 := hSw
        go_simp
        try with_reducible rfl
      go_simp
      refine wpAnyH_take (i := 7) (v := ?v8) rfl (by kernel_rfl) (by kernel_rfl) (by kernel_rfl) (fun _ _ _ h => by first | exact h | exact absurd h.1 (fun e => by cases e)) (Or.inl ⟨by rfl, ?hy8⟩) (by assumption) ?rest8
      case hy8 =>
        intro w hSw
        have s1 := hSw
        go_simp
        try with_reducible rfl
      go_simp
      refine wpAnyH_ready (rs := [8]) (by kernel_rfl) (by simp) ?_
      refine AllReadyH.cons rfl (fun K hK => ?_) AllReadyH.nil
      go_simp
      refine hK.out _ _ (hSn) (fun hSn => ?_)
      clear hK K
      go_simp
      refine wpAnyH_take (i := 9) (v := ?v9) rfl (by kernel_rfl) (by kernel_rfl) (by kernel_rfl) (fun _ _ _ h => by first | exact h | exact absurd h.1 (fun e => by cases e)) (Or.inl ⟨by rfl, ?hy9⟩) (by assumption) ?rest9
      case hy9 =>
        intro w hSw
        have s1 := hSw
        go_simp
        try with_reducible rfl
      go_simp
      refine wpAnyH_take (i := 10) (v := ?v10) rfl (by kernel_rfl) (by kernel_rfl) (by kernel_rfl) (fun _ _ _ h => by first | exact h | exact absurd h.1 (fun e => by cases e)) (Or.inl ⟨by rfl, ?hy10⟩) (by assumption) ?rest10
      case hy10 =>
        intro w hSw
        have s1 := hSw
        go_simp
        try with_reducible rfl
      go_simp
      refine wpAnyH_take (i := 11) (v := ?v11) rfl (by kernel_rfl) (by kernel_rfl) (by kernel_rfl) (fun _ _ _ h => by first | exact h | exact absurd h.1 (fun e => by cases e)) (Or.inl ⟨by rfl, ?hy11⟩) (by assumption) ?rest11
      case hy11 =>
        intro w hSw
        have s1 := hSw
        go_simp
        try with_reducible rfl
      go_simp
      refine wpAnyH_ready (rs := [12]) (by kernel_rfl) (by simp) ?_
      refine AllReadyH.cons rfl (fun K hK => ?_) AllReadyH.nil
      go_simp
      refine hK.out _ _ ((World.cell?_setCell_other _ _ _ _ (by intro e; injection e with e1; first | exact hne e1 | exact hne2 e1)).trans hSn) (fun hSn => ?_)
      clear hK K
      go_simp
      refine wpAnyH_done (by kernel_rfl) ?_ _
      go_wp2_with fail
      go_roundw
      case rel => exact ⟨i + 1, _, _, by omega, by go_num, Lib.hid ((OO.out.calm ((Keeps.refl _ wr).drew)).card hgc2 i _), Lib.hid (by have := HND.out; simp [World.setCell]; exact this)⟩
      case measure => (simp [intOf] <;> omega)
    · obtain rfl : i = s.cards.length := by omega
      clear hlt hi
      go_wp2_with fail
      clear a0 a1 a2 a3 a4 a5 a6
      go_loopw [17] (fun vi wr => ∃ (i : Nat) (pc cc : Array Value), i ≤ s.players.length ∧ vi = .int .i64 i ∧ Hid (On w wr s gi gp gc gz pc cc cs bs A1 A2 c1 c2 l n4 n5) ∧ Hid (n6 ≤ wr.heap.size)) (fun vi _ => s.players.length - (intOf vi).toNat)
      case atStart => exact ⟨0, _, _, by omega, rfl, OO, HND⟩
      case round =>
        clear OO HND
        obtain ⟨i, pc, cc, hi, rfl, OO, HND⟩ := hrel
        obtain ⟨a0, a1, a2, a3, a4, a5, a6, fa0, fa1, fa2, fa3, fa4, fa5, fa6⟩ := seven OO.out.box
        clear fa0 fa1 fa2 fa3 fa4 fa5 fa6
        by_cases hlt : i < s.players.length
        · obtain ⟨c, hc⟩ := OO.out.pls i hlt
          have hzc : wr.cell? ⟨gp, i * 3 + 2, none⟩ = some (.bool c.out) := (OO.out.pl.cellAt _).trans (hc 2 (by decide))
          have hfz := OO.out.pl.free (i * 3 + 2)
          have HOC := fun z => OO.out.player hgp2 i z
          have hne : gi ≠ gp := OO.out.box |> fun h => by
            intro e
            subst e
            exact absurd (h.symm.trans OO.out.pl) (by intro h; injection h with h; injection h with _ h _; exact absurd h (by decide))
          have hne2 : gp ≠ gi := hne.symm
          have HOD := Lib.hid HOC
          clear HOC hc
          go_wp2_with fail
          refine wp_region_held_drew (S := fun W => W.cell? ⟨gi, 0, none⟩ = some (.slice (some ⟨gp, 0, none⟩) s.players.length (s.players.length + 64))) (by kernel_rfl) (a0) ?_
          intro hSn
          have hzd : wr.drew.cell? ⟨gp, i * 3 + 2, none⟩ = some (.bool c.out) := hzc
          have hfd : wr.drew.frozen? ⟨gp, i * 3 + 2, none⟩ = false := hfz
          have OD := Lib.hid (fun z => (HOD.out z))
          clear hzc hfz a0 a1 a2 a3 a4 a5 a6
          refine wpAnyH_take (i := 0) (v := ?v12) rfl (by kernel_rfl) (by kernel_rfl) (by kernel_rfl) (fun _ _ _ h => by first | exact h | exact absurd h.1 (fun e => by cases e)) (Or.inl ⟨by rfl, ?hy12⟩) (by assumption) ?rest12
          case hy12 =>
            intro w hSw
            have s1 := hSw
            go_simp
            try with_reducible rfl
          go_simp
          refine wpAnyH_take (i := 1) (v := ?v13) rfl (by kernel_rfl) (by kernel_rfl) (by kernel_rfl) (fun _ _ _ h => by first | exact h | exact absurd h.1 (fun e => by cases e)) (Or.inl ⟨by rfl, ?hy13⟩) (by assumption) ?rest13
          case hy13 =>
            intro w hSw
            have s1 := hSw
            go_simp
            try with_reducible rfl
          go_simp
          refine wpAnyH_take (i := 2) (v := ?v14) rfl (by kernel_rfl) (by kernel_rfl) (by kernel_rfl) (fun _ _ _ h => by first | exact h | exact absurd h.1 (fun e => by cases e)) (Or.inl ⟨by rfl, ?hy14⟩) (by assumption) ?rest14
          case hy14 =>
            intro w hSw
            have s1 := hSw
            go_simp
            try with_reducible rfl
          go_simp
          refine wpAnyH_take (i := 3) (v := ?v15) rfl (by kernel_rfl) (by kernel_rfl) (by kernel_rfl) (fun _ _ _ h => by first | exact h | exact absurd h.1 (fun e => by cases e)) (Or.inl ⟨by rfl, ?hy15⟩) (by assumption) ?rest15
          case hy15 =>
            intro w hSw
            have s1 := hSw
            go_simp
            try with_reducible rfl
          go_simp
          refine wpAnyH_take (i := 4) (v := ?v16) rfl (by kernel_rfl) (by kernel_rfl) (by kernel_rfl) (fun _ _ _ h => by first | exact h | exact absurd h.1 (fun e => by cases e)) (Or.inl ⟨by rfl, ?hy16⟩) (by assumption) ?rest16
          case hy16 =>
            intro w hSw
            have s1 := hSw
            go_simp
            try with_reducible rfl
          go_simp
          refine wpAnyH_take (i := 5) (v := ?v17) rfl (by kernel_rfl) (by kernel_rfl) (by kernel_rfl) (fun _ _ _ h => by first | exact h | exact absurd h.1 (fun e => by cases e)) (Or.inl ⟨by rfl, ?hy17⟩) (by assumption) ?rest17
          case hy17 =>
            intro w hSw
            have s1 := hSw
            go_simp
            try with_reducible rfl
          go_simp
          refine wpAnyH_take (i := 6) (v := ?v18) rfl (by kernel_rfl) (by kernel_rfl) (by kernel_rfl) (fun _ _ _ h => by first | exact h | exact absurd h.1 (fun e => by cases e)) (Or.inl ⟨by rfl, ?hy18⟩) (by assumption) ?rest18
          case hy18 =>
            intro w hSw
            have s1 := hSw
            go_simp
            try with_reducible rfl
          go_simp
          refine wpAnyH_take (i := 7) (v := ?v19) rfl (by kernel_rfl) (by kernel_rfl) (by kernel_rfl) (fun _ _ _ h => by first | exact h | exact absurd h.1 (fun e => by cases e)) (Or.inl ⟨by rfl, ?hy19⟩) (by assumption) ?rest19
          case hy19 =>
            intro w hSw
            have s1 := hSw
            go_simp
            try with_reducible rfl
          go_simp
          refine wpAnyH_ready (rs := [8]) (by kernel_rfl) (by simp) ?_
          refine AllReadyH.cons rfl (fun K hK => ?_) AllReadyH.nil
          go_simp
          refine hK.out _ _ (hSn) (fun hSn => ?_)
          clear hK K
          go_simp
          refine wpAnyH_take (i := 9) (v := ?v20) rfl (by kernel_rfl) (by kernel_rfl) (by kernel_rfl) (fun _ _ _ h => by first | exact h | exact absurd h.1 (fun e => by cases e)) (Or.inl ⟨by rfl, ?hy20⟩) (by assumption) ?rest20
          case hy20 =>
            intro w hSw
            have s1 := hSw
            go_simp
            try with_reducible rfl
          go_simp
          refine wpAnyH_take (i := 10) (v := ?v21) rfl (by kernel_rfl) (by kernel_rfl) (by kernel_rfl) (fun _ _ _ h => by first | exact h | exact absurd h.1 (fun e => by cases e)) (Or.inl ⟨by rfl, ?hy21⟩) (by assumption) ?rest21
          case hy21 =>
            intro w hSw
            have s1 := hSw
            go_simp
            try with_reducible rfl
          go_simp
          refine wpAnyH_take (i := 11) (v := ?v22) rfl (by kernel_rfl) (by kernel_rfl) (by kernel_rfl) (fun _ _ _ h => by first | exact h | exact absurd h.1 (fun e => by cases e)) (Or.inl ⟨by rfl, ?hy22⟩) (by assumption) ?rest22
          case hy22 =>
            intro w hSw
            have s1 := hSw
            go_simp
            try with_reducible rfl
          go_simp
          refine wpAnyH_ready (rs := [12]) (by kernel_rfl) (by simp) ?_
          refine AllReadyH.cons rfl (fun K hK => ?_) AllReadyH.nil
          go_simp
          refine hK.out _ _ ((World.cell?_setCell_other _ _ _ _ (by intro e; injection e with e1; first | exact hne e1 | exact hne2 e1)).trans hSn) (fun hSn => ?_)
          clear hK K
          go_simp
          refine wpAnyH_done (by kernel_rfl) ?_ _
          go_wp2_with fail
          go_roundw
          case rel => exact ⟨i + 1, _, _, by omega, by go_num, Lib.hid ((OO.out.calm ((Keeps.refl _ wr).drew)).player hgp2 i _), Lib.hid (by have := HND.out; simp [World.setCell]; exact this)⟩
          case measure => (simp [intOf] <;> omega)
        · obtain rfl : i = s.players.length := by omega
          clear hlt hi a0 a1 a2 a3 a4 a5 a6
          obtain ⟨t, e1, e2, e3, e4, e5, e6, e7, hti⟩ := OO.out.lies
          have TI := Lib.hid hti
          have TS : Hid (StSmall t) := Lib.hid ⟨by rw [e1]; exact SM.out.players, by rw [e2]; exact SM.out.cards, by rw [e3]; exact SM.out.zones, by rw [e3]; exact SM.out.rows⟩
          have TF : Hid (t.zones.flatten.length ≤ 1000000000) := Lib.hid (by rw [e3]; exact HF.out)
          have TT : Hid (in32 t.turn) := Lib.hid (by rw [e4]; exact HT.out)
          have TL : Hid (∀ (Ap Ac Az : Option Addr) (cp cc cz : Nat), stC s Ap Ac Az cp cc cz = stC t Ap Ac Az cp cc cz) := Lib.hid (stC_like e1 e2 e3 e4 e5 e6 e7)
          have hlp : s.players.length = t.players.length := e1.symm
          have hlc : s.cards.length = t.cards.length := e2.symm
          have hlz : s.zones.length = t.zones.length := by rw [e3]
          have TBX : Hid (Whole wr gi 27 (stC t (some ⟨gp, 0, none⟩) (some ⟨gc, 0, none⟩) (some ⟨gz, 0, none⟩) (s.players.length + 64) (s.cards.length + 64) (s.zones.length + 64))) := Lib.hid (by rw [← TL.out]; exact OO.out.box)
          have TP := Lib.hid OO.out.a
          have TQ := Lib.hid OO.out.b
          have TK := Lib.hid OO.out.keeps
          rw [hlp]
          clear hti e1 e2 e3 e4 e5 e6 e7 hlp hlc hlz hncl hnpl HF SM
          generalize s.players.length + 64 = y1 at *
          generalize s.cards.length + 64 = y2 at *
          generalize s.zones.length + 64 = y3 at *
          clear OO
          have HCP := Lib.hid (fun W (h : StIn W W.heap.size t (some ⟨gp, 0, none⟩) (some ⟨gc, 0, none⟩) (some ⟨gz, 0, none⟩)) => copyState_any t (some ⟨gp, 0, none⟩) (some ⟨gc, 0, none⟩) (some ⟨gz, 0, none⟩) W.heap.size y1 y2 y3 W h (Nat.le_refl _) TS.out)
          unfold stV at HCP
          have HEN := Lib.hid (fun W (A D Z : Option Addr) (a d z : Nat) (h : StIn W W.heap.size t A D Z) => encodeAll_any t A D Z a d z W h TS.out TT.out)
          have HRE := Lib.hid (fun W (A D Z : Option Addr) (a d z : Nat) (h : StIn W W.heap.size t A D Z) => refEncodeAll_any t A D Z a d z W h TS.out TT.out TF.out)
          have HLM := eL_len t
          unfold stC at HEN HRE
          generalize eL t = m at *
          generalize eE t = fr at *
          obtain ⟨a0, a1, a2, a3, a4, a5, a6, fa0, fa1, fa2, fa3, fa4, fa5, fa6⟩ := seven TBX.out
          clear fa0 fa1 fa2 fa3 fa4 fa5 fa6
          go_wp2_with fail
          clear a0 a1 a2 a3 a4 a5 a6
          refine (HCP.out wr TI.out).mono ?_
          rintro e v1 ⟨Aq, Ad, Ay, q1, q2, q3, qcells, rfl, hq, hk⟩
          have kb := hk.trans ((Keeps.refl _ v1).alloc (.cells (stC t Aq Ad Ay q1 q2 q3) 27))
          have TI1 := Lib.hid (TI.out.past kb)
          have TP1 := Lib.hid (own_keepsS TP.out kb (fun _ _ => id))
          have TQ1 := Lib.hid (own_keepsS TQ.out kb (fun _ _ => id))
          have TK1 := Lib.hid (TK.out.trans kb)
          have TB1 := Lib.hid (TBX.out.keeps kb id)
          have HN1 := Lib.hid (Nat.le_trans HND.out kb.size)
          have OB := Lib.hid (Whole.made v1 27 (stC t Aq Ad Ay q1 q2 q3))
          have OL := Lib.hid (hq.lies.past ((Keeps.refl (fun _ => False) v1).alloc (.cells (stC t Aq Ad Ay q1 q2 q3) 27)))
          obtain ⟨v2, hv2⟩ : ∃ z, z = v1.alloc (.cells (stC t Aq Ad Ay q1 q2 q3) 27) := ⟨_, rfl⟩
          rw [← hv2] at TI1 TP1 TQ1 TK1 TB1 HN1 OB OL
          unfold stC at hv2
          clear hq hk kb TI TP TQ TK TBX HND HCP
          obtain ⟨a0, a1, a2, a3, a4, a5, a6, fa0, fa1, fa2, fa3, fa4, fa5, fa6⟩ := seven TB1.out
          clear fa0 fa1 fa2 fa3 fa4 fa5 fa6
          rw [hv2] at a0 a1 a2 a3 a4 a5 a6
          go_wp2_with fail
          rw [← hv2]
          clear a0 a1 a2 a3 a4 a5 a6 hv2
          refine (HEN.out v2 _ _ _ _ _ _ TI1.out).mono ?_
          rintro e v3 ⟨A4, c4, rfl, hb, hk⟩
          have TP2 := Lib.hid (own_keepsS TP1.out hk (fun _ _ => id))
          have TQ2 := Lib.hid (own_keepsS TQ1.out hk (fun _ _ => id))
          have TR2 := Lib.hid hb
          have TK2 := Lib.hid (TK1.out.trans hk)
          have OB2 := Lib.hid (OB.out.keeps hk id)
          have OL2 := Lib.hid (OL.out.past hk)
          clear hb hk TI1 TP1 TQ1 TK1 TB1 OB OL HEN
          obtain ⟨a0, a1, a2, a3, a4, a5, a6, fa0, fa1, fa2, fa3, fa4, fa5, fa6⟩ := seven OB2.out
          clear fa0 fa1 fa2 fa3 fa4 fa5 fa6
          go_wp2_with fail
          clear a0 a1 a2 a3 a4 a5 a6
          refine (HRE.out v3 _ _ _ _ _ _ OL2.out).mono ?_
          rintro e v4 ⟨A5, c5, rfl, hb, hk⟩
          have TP3 := Lib.hid (own_keepsS TP2.out hk (fun _ _ => id))
          have TQ3 := Lib.hid (own_keepsS TQ2.out hk (fun _ _ => id))
          have TR3 := Lib.hid (own_keepsS TR2.out hk (fun _ _ => id))
          have TW3 := Lib.hid hb
          have TK3 := Lib.hid (TK2.out.trans hk)
          have L4 := Lib.hid (byt_lt TR2.out)
          clear hb hk TP2 TQ2 TR2 TK2 OB2 OL2 HRE
          have q1 : (fr == fr) = true := by simp
          go_wp2_with fail
          have HEB := eqBytes_any m m A4 A5 v4.heap.size v4.heap.size c4 c5 v4 (own_lies TR3.out) (own_lies TW3.out) (by omega)
          simp only [decide_true] at HEB
          refine HEB.mono ?_
          rintro e v5 ⟨rfl, hbe⟩
          have hk : Keeps (fun _ => False) v4 v5 := keepsAll hbe
          have kb := hk.trans ((Keeps.refl _ v5).alloc (.cells bagNone 67))
          have TP4 := Lib.hid (own_keepsS TP3.out kb (fun _ _ => id))
          have TQ4 := Lib.hid (own_keepsS TQ3.out kb (fun _ _ => id))
          have TR4 := Lib.hid (own_keepsS TR3.out kb (fun _ _ => id))
          have TK4 := Lib.hid (TK3.out.trans kb)
          have BG := Lib.hid (BagYn.start v5)
          have PA := Lib.hid (byt_lt (own_keepsS TP3.out hk (fun _ _ => id)))
          have PB := Lib.hid (byt_lt (own_keepsS TQ3.out hk (fun _ _ => id)))
          have PC := Lib.hid (byt_lt (own_keepsS TR3.out hk (fun _ _ => id)))
          have HW5 : Hid (w.heap.size ≤ v5.heap.size) := Lib.hid (TK3.out.trans hk).size
          clear hbe hk kb HEB TP3 TQ3 TR3 TW3 TK3 q1
          unfold bagNone at BG TP4 TQ4 TR4 TK4
          go_wp2_with fail
          generalize v5.alloc (.cells #[.slice none 0 0, .slice none 0 0, .slice none 0 0, .slice none 0 0, .slice none 0 0, .slice none 0 0, .slice none 0 0, .slice none 0 0, .slice none 0 0, .slice none 0 0, .slice none 0 0, .slice none 0 0, .slice none 0 0, .slice none 0 0, .slice none 0 0, .slice none 0 0, .slice none 0 0, .slice none 0 0, .slice none 0 0, .slice none 0 0, .slice none 0 0] 67) = v6 at *
          generalize v5.heap.size = p at *
          generalize v2.heap.size = n7 at *
          have hsl : ∀ (W : World) (n c : Nat) (A : Option Addr) (l : List Byte), Byt W n A c l → W.ownsRow 0 5 1 (Sl.mk A l.length c).val (Sl.mk A l.length c).len (bytesV l) := fun _ _ _ _ _ h => own_base h (fun _ _ => Nat.zero_le _)
          have HSL := Lib.hid hsl
          clear hsl
          have HA := addBytes1 ⟨A1, l.length, c1⟩ BG.out (by decide) (HSL.out _ _ _ _ _ TP4.out) (fun b hb => ⟨fun ⟨_, _, h, _⟩ => by simp at h, (PA.out b hb).2⟩)
          refine HA.mono ?_
          clear HA
          rintro e v7 ⟨rfl, B1, d1, hbg, hk⟩
          have BG1 := Lib.hid hbg
          have TQ5 := Lib.hid (own_keepsS TQ4.out hk (fun b hb e => by have := (PB.out b hb).2; omega))
          have TR5 := Lib.hid (own_keepsS TR4.out hk (fun b hb e => by have := (PC.out b hb).2; omega))
          have TK5 := Lib.hid (TK4.out.and hk (fun b hb e => by have := HW5.out; omega))
          clear hbg hk TP4 TQ4 TR4 TK4 BG
          go_wp2_with fail
          have HA := addBytes1 ⟨A2, l.length, c2⟩ BG1.out (by simp) (HSL.out _ _ _ _ _ TQ5.out) (fun b hb => ⟨fun h => by
            rcases blks_snoc h with h | h
            · obtain ⟨_, _, h, _⟩ := h; simp at h
            · have h1 := L1.out b h; have h2 := (PB.out b hb).1; omega, (PB.out b hb).2⟩)
          refine HA.mono ?_
          clear HA
          rintro e v8 ⟨rfl, B2, d2, hbg, hk⟩
          have BG2 := Lib.hid hbg
          have TR6 := Lib.hid (own_keepsS TR5.out hk (fun b hb e => by have := (PC.out b hb).2; omega))
          have TK6 := Lib.hid (TK5.out.and hk (fun b hb e => by have := HW5.out; omega))
          clear hbg hk TQ5 TR5 TK5 BG1
          go_wp2_with fail
          have HA := addBytes1 ⟨A4, m.length, c4⟩ BG2.out (by simp) (HSL.out _ _ _ _ _ TR6.out) (fun b hb => ⟨fun h => by
            have h2 := (PC.out b hb).1
            have h3 := HN1.out
            have h4 := HZ.out
            rcases blks_snoc h with h | h
            · rcases blks_snoc h with h | h
              · obtain ⟨_, _, h, _⟩ := h; simp at h
              · have h1 := L1.out b h; omega
            · have h1 := L2.out b h; omega, (PC.out b hb).2⟩)
          refine HA.mono ?_
          clear HA
          rintro e v9 ⟨rfl, B3, d3, hbg, hk⟩
          have BG3 := Lib.hid hbg
          have TK7 := Lib.hid (TK6.out.and hk (fun b hb e => by have := HW5.out; omega))
          clear hbg hk TR6 TK6 BG2
          go_wp2_with fail
          refine (BG3.out.apart (by simp) (fun k r hr => by
            have hm := List.mem_of_getElem? hr
            simp only [List.nil_append, List.mem_append, List.mem_singleton] at hm
            rcases hm with (rfl | rfl) | rfl
            · show l.length ≤ _; omega
            · show l.length ≤ _; omega
            · show m.length ≤ _; omega)).mono ?_
          rintro e va ⟨rfl, hk⟩
          have TK8 := Lib.hid (TK7.out.and hk (fun b hb h => by
            have h4 := HZ.out
            have h3 := HN1.out
            rcases blks_snoc h with h | h
            · rcases blks_snoc h with h | h
              · rcases blks_snoc h with h | h
                · obtain ⟨_, _, h, _⟩ := h; simp at h
                · have h1 := L1.out b h; omega
              · have h1 := L2.out b h; omega
            · have h1 := L4.out b h; omega))
          clear hk TK7 BG3
          go_wp2_with fail
          go_ret
          exact ⟨rfl, TK8.out⟩
end Go.Proofs.YthmfbcfbcookiaaGreatDoor
