/-
  The law StateWheres: the walk. Conditions: lengths within 10 ^ 15.
-/
import Derived.Test.YtgbikcliembkcaaWk
namespace Go.Proofs.Ytgbikcliembkcaa
open Go.RowKit
/-- Lengths that a machine bears. -/
structure StBig (s : St) : Prop where
  players : s.players.length ≤ 1000000000000000
  cards : s.cards.length ≤ 1000000000000000
  zones : s.zones.length ≤ 1000000000000000
  rows : ∀ r ∈ s.zones, r.length ≤ 1000000000000000
/-- A state and its marked copy, each in a box. -/
structure Two (w wr : World) (lo : Nat) (s : St) (Ap Ac Az : Option Addr) (cp cc cz gi gp gc gz : Nat) (cs : Array Value) (bs : Nat → Nat) : Prop where
  keeps : Keeps (fun _ => False) w wr
  box : Whole wr w.heap.size 27 #[.slice Ap s.players.length cp, .slice Ac s.cards.length cc, .slice Az s.zones.length cz, .int .i32 s.turn, .int .i64 s.whose, .int .i8 s.fin, .int .i64 s.winner]
  inn : Whole wr gi 27 #[.slice (some ⟨gp, 0, none⟩) s.players.length (s.players.length + 64), .slice (some ⟨gc, 0, none⟩) s.cards.length (s.cards.length + 64), .slice (some ⟨gz, 0, none⟩) s.zones.length (s.zones.length + 64), .int .i32 s.turn, .int .i64 s.whose, .int .i8 s.fin, .int .i64 s.winner]
  src : StIn wr wr.heap.size s Ap Ac Az
  wide : WideIn wr lo s gp gc gz cs bs
theorem Two.calm {w wr w' : World} {lo : Nat} {s : St} {Ap Ac Az : Option Addr} {cp cc cz gi gp gc gz : Nat} {cs : Array Value} {bs : Nat → Nat} (h : Two w wr lo s Ap Ac Az cp cc cz gi gp gc gz cs bs) (hk : Keeps (fun _ => False) wr w') : Two w w' lo s Ap Ac Az cp cc cz gi gp gc gz cs bs :=
  ⟨h.keeps.trans hk, h.box.keeps hk id, h.inn.keeps hk id, h.src.past hk, h.wide.keeps hk (fun _ _ => id)⟩
theorem whereV_same (o : Option (Nat × Nat)) : ∃ z i : Int, ∃ b : Bool, whereV o = .tuple #[.int .i64 z, .int .i64 i, .bool b] := by
  cases o with
  | none => exact ⟨0, 0, false, rfl⟩
  | some p => exact ⟨p.1, p.2, true, rfl⟩
set_option maxRecDepth 100000 in
set_option maxHeartbeats 4000000 in
theorem stateWheres_any (s : St) (Ap Ac Az : Option Addr) (cp cc cz : Nat) (card : Int) (w : World) (hx : StIn w w.heap.size s Ap Ac Az) (hs : StBig s) :
    Calls Try.prog 4 #[stV s Ap Ac Az cp cc cz, .int .i64 card] w fun e w' => e = .returned (.bool true) ∧ Keeps (fun _ => False) w w' := by
  have HL := fun w (hx : StIn w w.heap.size s Ap Ac Az) => longS_any s Ap Ac Az w.heap.size cp cc cz w hx (Nat.le_refl _) hs.players hs.cards hs.zones hs.rows
  have HWD := fun w (hx : StIn w w.heap.size s Ap Ac Az) (h : StSmall s) => wideState_any s Ap Ac Az w.heap.size cp cc cz w hx (Nat.le_refl _) h
  unfold stV at *
  have HM := Lib.hid (Whole.made w 27 #[.slice Ap s.players.length cp, .slice Ac s.cards.length cc, .slice Az s.zones.length cz, .int .i32 s.turn, .int .i64 s.whose, .int .i8 s.fin, .int .i64 s.winner])
  have XX := Lib.hid (hx.past ((Keeps.refl (fun _ => False) w).alloc (.cells #[.slice Ap s.players.length cp, .slice Ac s.cards.length cc, .slice Az s.zones.length cz, .int .i32 s.turn, .int .i64 s.whose, .int .i8 s.fin, .int .i64 s.winner] 27)))
  have KK := Lib.hid ((Keeps.refl (fun _ => False) w).alloc (.cells #[.slice Ap s.players.length cp, .slice Ac s.cards.length cc, .slice Az s.zones.length cz, .int .i32 s.turn, .int .i64 s.whose, .int .i8 s.fin, .int .i64 s.winner] 27))
  clear hx
  go_enter Try.func4, Try.ntmps4
  go_wp2_with fail
  generalize w.alloc (.cells #[.slice Ap s.players.length cp, .slice Ac s.cards.length cc, .slice Az s.zones.length cz, .int .i32 s.turn, .int .i64 s.whose, .int .i8 s.fin, .int .i64 s.winner] 27) = w0 at *
  refine (HL w0 XX.out).mono ?_
  rintro e w1 ⟨rfl, k1⟩
  have HM1 := Lib.hid (HM.out.keeps k1 id)
  have XX1 := Lib.hid (XX.out.past k1)
  have KK1 := Lib.hid (KK.out.trans k1)
  clear HL HM XX KK k1
  by_cases hb : 16777216 < (stSizeTo s : Int)
  · rw [decide_eq_true hb]
    clear hb
    go_wp2_with fail
    go_ret
    exact ⟨rfl, KK1.out⟩
  rw [decide_eq_false hb]
  have hsz := stSizeTo_small (s := s) (by omega)
  have SM := Lib.hid (small_of_size hsz)
  have hfl : s.zones.flatten.length ≤ 1000000000 := by unfold stSize at hsz; omega
  have hcl : s.cards.length ≤ 1000000000 := by unfold stSize at hsz; omega
  have HFL := Lib.hid hfl
  clear hb hsz hfl
  obtain ⟨a0, a1, a2, a3, a4, a5, a6, f0, f1, f2, f3, f4, f5, f6⟩ := seven HM1.out
  go_wp2_with fail
  clear a0 a1 a2 a3 a4 a5 a6 f0 f1 f2 f3 f4 f5 f6
  refine (HWD w1 XX1.out SM.out).mono ?_
  rintro e w2 ⟨gp, gc, gz, cs, bs, rfl, hw, k2⟩
  have HM2 := Lib.hid (HM1.out.keeps k2 id)
  have XX2 := Lib.hid (XX1.out.past k2)
  have KK2 := Lib.hid (KK1.out.trans k2)
  have WI := Lib.hid hw
  clear HWD HM1 XX1 KK1 hw k2
  obtain ⟨a0, a1, a2, a3, a4, a5, a6, f0, f1, f2, f3, f4, f5, f6⟩ := seven HM2.out
  have hgi : w2.heap.size < (w2.alloc (.cells #[.slice (some ⟨gp, 0, none⟩) s.players.length (s.players.length + 64), .slice (some ⟨gc, 0, none⟩) s.cards.length (s.cards.length + 64), .slice (some ⟨gz, 0, none⟩) s.zones.length (s.zones.length + 64), .int .i32 s.turn, .int .i64 s.whose, .int .i8 s.fin, .int .i64 s.winner] 27)).heap.size := by simp
  have T0 : Hid (Two w (w2.alloc (.cells #[.slice (some ⟨gp, 0, none⟩) s.players.length (s.players.length + 64), .slice (some ⟨gc, 0, none⟩) s.cards.length (s.cards.length + 64), .slice (some ⟨gz, 0, none⟩) s.zones.length (s.zones.length + 64), .int .i32 s.turn, .int .i64 s.whose, .int .i8 s.fin, .int .i64 s.winner] 27)) w1.heap.size s Ap Ac Az cp cc cz w2.heap.size gp gc gz cs bs) := Lib.hid ⟨KK2.out.alloc _, HM2.out.alloc _, Whole.made w2 _ _, XX2.out.past ((Keeps.refl (fun _ => False) w2).alloc _), WI.out.keeps ((Keeps.refl (fun _ => False) w2).alloc _) (fun _ _ => id)⟩
  clear KK2 HM2 XX2 WI
  go_wp2_with fail
  clear a0 a1 a2 a3 a4 a5 a6 f0 f1 f2 f3 f4 f5 f6 hgi
  generalize w2.alloc (.cells #[.slice (some ⟨gp, 0, none⟩) s.players.length (s.players.length + 64), .slice (some ⟨gc, 0, none⟩) s.cards.length (s.cards.length + 64), .slice (some ⟨gz, 0, none⟩) s.zones.length (s.zones.length + 64), .int .i32 s.turn, .int .i64 s.whose, .int .i8 s.fin, .int .i64 s.winner] 27) = v0 at *
  generalize w2.heap.size = gi at *
  go_loopw [6] (fun vc wr => ∃ c : Int, -1 ≤ c ∧ c ≤ 301 ∧ vc = .int .i64 c ∧ Hid (Two w wr w1.heap.size s Ap Ac Az cp cc cz gi gp gc gz cs bs)) (fun vc _ => (302 - intOf vc).toNat)
  case atStart => exact ⟨-1, by omega, by omega, rfl, T0⟩
  case round =>
    clear T0
    obtain ⟨c, hc0, hc1, rfl, TT⟩ := hrel
    obtain ⟨a0, a1, a2, a3, a4, a5, a6, f0, f1, f2, f3, f4, f5, f6⟩ := seven TT.out.box
    obtain ⟨b0, b1, b2, b3, b4, b5, b6, e0, e1, e2, e3, e4, e5, e6⟩ := seven TT.out.inn
    by_cases hin : c ≤ (s.cards.length : Int) ∧ c ≤ 300
    · obtain ⟨hi1, hi2⟩ := hin
      have HW1 := Lib.hid (where_any s c (some ⟨gp, 0, none⟩) (some ⟨gc, 0, none⟩) (some ⟨gz, 0, none⟩) wr.heap.size (s.players.length + 64) (s.cards.length + 64) (s.zones.length + 64) wr TT.out.wide.lies (Nat.le_refl _) SM.out)
      have HW2 : Hid (∀ w', Keeps (fun _ => False) wr w' → Calls Try.prog 16 #[stV s Ap Ac Az cp cc cz, .int .i64 c] w' fun e w'' => e = .returned (whereV (whereO s c)) ∧ Keeps (fun _ => False) w' w'') := Lib.hid (fun w' hk => refWhere_any s c Ap Ac Az w'.heap.size cp cc cz w' (TT.out.src.past hk) (Nat.le_refl _) SM.out HFL.out)
      obtain ⟨zv, iv, bv, hv⟩ := whereV_same (whereO s c)
      rw [hv] at HW1
      have HV := Lib.hid hv
      clear hv
      by_cases hneg : c < 0
      · obtain rfl : c = -1 := by omega
        go_wp2_with fail
        clear a0 a1 a2 a3 a4 a5 a6 f0 f1 f2 f3 f4 f5 f6 b0 b1 b2 b3 b4 b5 b6 e0 e1 e2 e3 e4 e5 e6
        refine HW1.out.mono ?_
        rintro e w3 ⟨rfl, k3⟩
        have T3 := Lib.hid (TT.out.calm k3)
        obtain ⟨a0, a1, a2, a3, a4, a5, a6, f0, f1, f2, f3, f4, f5, f6⟩ := seven T3.out.box
        obtain ⟨b0, b1, b2, b3, b4, b5, b6, e0, e1, e2, e3, e4, e5, e6⟩ := seven T3.out.inn
        go_wp2_with fail
        clear a0 a1 a2 a3 a4 a5 a6 f0 f1 f2 f3 f4 f5 f6 b0 b1 b2 b3 b4 b5 b6 e0 e1 e2 e3 e4 e5 e6
        refine (HW2.out w3 k3).mono ?_
        rintro e w4 ⟨rfl, k4⟩
        rw [HV.out]
        have T4 := Lib.hid (T3.out.calm k4)
        clear T3 k3 k4 TT HW1 HW2 HV
        have x1 : (zv != zv) = false := by simp
        have x2 : (iv != iv) = false := by simp
        have x3 : (bv != bv) = false := by cases bv <;> rfl
        have y1 : (zv == zv) = true := by simp
        have y2 : (iv == iv) = true := by simp
        have y3 : (bv == bv) = true := by cases bv <;> rfl
        obtain ⟨a0, a1, a2, a3, a4, a5, a6, f0, f1, f2, f3, f4, f5, f6⟩ := seven T4.out.box
        obtain ⟨b0, b1, b2, b3, b4, b5, b6, e0, e1, e2, e3, e4, e5, e6⟩ := seven T4.out.inn
        go_wp2_with fail
        first
          | exact ⟨⟨0, by omega, by omega, by first | rfl | go_num, T4⟩, by simp [intOf] <;> omega⟩
          | (go_roundw
             case rel => exact ⟨0, by omega, by omega, by first | rfl | go_num, T4⟩
             case measure => simp [intOf]; omega)
      · go_wp2_with fail
        clear a0 a1 a2 a3 a4 a5 a6 f0 f1 f2 f3 f4 f5 f6 b0 b1 b2 b3 b4 b5 b6 e0 e1 e2 e3 e4 e5 e6
        refine HW1.out.mono ?_
        rintro e w3 ⟨rfl, k3⟩
        have T3 := Lib.hid (TT.out.calm k3)
        obtain ⟨a0, a1, a2, a3, a4, a5, a6, f0, f1, f2, f3, f4, f5, f6⟩ := seven T3.out.box
        obtain ⟨b0, b1, b2, b3, b4, b5, b6, e0, e1, e2, e3, e4, e5, e6⟩ := seven T3.out.inn
        go_wp2_with fail
        clear a0 a1 a2 a3 a4 a5 a6 f0 f1 f2 f3 f4 f5 f6 b0 b1 b2 b3 b4 b5 b6 e0 e1 e2 e3 e4 e5 e6
        refine (HW2.out w3 k3).mono ?_
        rintro e w4 ⟨rfl, k4⟩
        rw [HV.out]
        have T4 := Lib.hid (T3.out.calm k4)
        clear T3 k3 k4 TT HW1 HW2 HV
        have x1 : (zv != zv) = false := by simp
        have x2 : (iv != iv) = false := by simp
        have x3 : (bv != bv) = false := by cases bv <;> rfl
        have y1 : (zv == zv) = true := by simp
        have y2 : (iv == iv) = true := by simp
        have y3 : (bv == bv) = true := by cases bv <;> rfl
        obtain ⟨a0, a1, a2, a3, a4, a5, a6, f0, f1, f2, f3, f4, f5, f6⟩ := seven T4.out.box
        obtain ⟨b0, b1, b2, b3, b4, b5, b6, e0, e1, e2, e3, e4, e5, e6⟩ := seven T4.out.inn
        go_wp2_with fail
        first
          | exact ⟨⟨c + 1, by omega, by omega, by first | rfl | go_num, T4⟩, by simp [intOf] <;> omega⟩
          | (go_roundw
             case rel => exact ⟨c + 1, by omega, by omega, by first | rfl | go_num, T4⟩
             case measure => simp [intOf]; omega)
    · have hin' : ¬ (c ≤ (s.cards.length : Int)) ∨ ¬ (c ≤ 300) := by omega
      have HW1 := Lib.hid (where_any s card (some ⟨gp, 0, none⟩) (some ⟨gc, 0, none⟩) (some ⟨gz, 0, none⟩) wr.heap.size (s.players.length + 64) (s.cards.length + 64) (s.zones.length + 64) wr TT.out.wide.lies (Nat.le_refl _) SM.out)
      have HW2 : Hid (∀ w', Keeps (fun _ => False) wr w' → Calls Try.prog 16 #[stV s Ap Ac Az cp cc cz, .int .i64 card] w' fun e w'' => e = .returned (whereV (whereO s card)) ∧ Keeps (fun _ => False) w' w'') := Lib.hid (fun w' hk => refWhere_any s card Ap Ac Az w'.heap.size cp cc cz w' (TT.out.src.past hk) (Nat.le_refl _) SM.out HFL.out)
      obtain ⟨zv, iv, bv, hv⟩ := whereV_same (whereO s card)
      rw [hv] at HW1
      have HV := Lib.hid hv
      clear hv
      by_cases hq : c ≤ (s.cards.length : Int)
      · have hq2 : ¬ (c ≤ 300) := fun h => hin ⟨hq, h⟩
        clear hin hin'
        go_wp2_with fail
        clear a0 a1 a2 a3 a4 a5 a6 f0 f1 f2 f3 f4 f5 f6 b0 b1 b2 b3 b4 b5 b6 e0 e1 e2 e3 e4 e5 e6
        refine HW1.out.mono ?_
        rintro e w3 ⟨rfl, k3⟩
        have T3 := Lib.hid (TT.out.calm k3)
        obtain ⟨a0, a1, a2, a3, a4, a5, a6, f0, f1, f2, f3, f4, f5, f6⟩ := seven T3.out.box
        obtain ⟨b0, b1, b2, b3, b4, b5, b6, e0, e1, e2, e3, e4, e5, e6⟩ := seven T3.out.inn
        go_wp2_with fail
        clear a0 a1 a2 a3 a4 a5 a6 f0 f1 f2 f3 f4 f5 f6 b0 b1 b2 b3 b4 b5 b6 e0 e1 e2 e3 e4 e5 e6
        refine (HW2.out w3 k3).mono ?_
        rintro e w4 ⟨rfl, k4⟩
        rw [HV.out]
        have T4 := Lib.hid (T3.out.calm k4)
        clear T3 k3 k4 TT HW1 HW2 HV
        have x1 : (zv != zv) = false := by simp
        have x2 : (iv != iv) = false := by simp
        have x3 : (bv != bv) = false := by cases bv <;> rfl
        have y1 : (zv == zv) = true := by simp
        have y2 : (iv == iv) = true := by simp
        have y3 : (bv == bv) = true := by cases bv <;> rfl
        obtain ⟨a0, a1, a2, a3, a4, a5, a6, f0, f1, f2, f3, f4, f5, f6⟩ := seven T4.out.box
        obtain ⟨b0, b1, b2, b3, b4, b5, b6, e0, e1, e2, e3, e4, e5, e6⟩ := seven T4.out.inn
        go_wp2_with fail
        clear a0 a1 a2 a3 a4 a5 a6 f0 f1 f2 f3 f4 f5 f6 b0 b1 b2 b3 b4 b5 b6 e0 e1 e2 e3 e4 e5 e6
        refine (eqState_any s s (some ⟨gp, 0, none⟩) (some ⟨gc, 0, none⟩) (some ⟨gz, 0, none⟩) Ap Ac Az w4.heap.size (s.players.length + 64) (s.cards.length + 64) (s.zones.length + 64) cp cc cz w4 T4.out.wide.lies T4.out.src (Nat.le_refl _) SM.out).mono ?_
        rintro e w5 ⟨rfl, k5⟩
        rw [decide_eq_true (rfl : s = s)]
        have T5 := Lib.hid (T4.out.calm k5)
        clear T4 k5
        obtain ⟨a0, a1, a2, a3, a4, a5, a6, f0, f1, f2, f3, f4, f5, f6⟩ := seven T5.out.box
        obtain ⟨b0, b1, b2, b3, b4, b5, b6, e0, e1, e2, e3, e4, e5, e6⟩ := seven T5.out.inn
        go_wp2_with fail
        clear a0 a1 a2 a3 a4 a5 a6 f0 f1 f2 f3 f4 f5 f6 b0 b1 b2 b3 b4 b5 b6 e0 e1 e2 e3 e4 e5 e6
        refine (spareState_any s gp gc gz w1.heap.size cs bs w5 T5.out.wide SM.out).mono ?_
        rintro e w6 ⟨rfl, k6⟩
        have K6 := Lib.hid (T5.out.keeps.trans k6)
        clear T5 k6
        go_wp2_with fail
        refine (works_any w6).mono ?_
        rintro e w7 ⟨rfl, k7⟩
        have K7 := Lib.hid (K6.out.trans k7)
        clear K6 k7
        go_wp2_with fail
        go_ret
        exact ⟨rfl, K7.out⟩
      · clear hin hin'
        go_wp2_with fail
        clear a0 a1 a2 a3 a4 a5 a6 f0 f1 f2 f3 f4 f5 f6 b0 b1 b2 b3 b4 b5 b6 e0 e1 e2 e3 e4 e5 e6
        refine HW1.out.mono ?_
        rintro e w3 ⟨rfl, k3⟩
        have T3 := Lib.hid (TT.out.calm k3)
        obtain ⟨a0, a1, a2, a3, a4, a5, a6, f0, f1, f2, f3, f4, f5, f6⟩ := seven T3.out.box
        obtain ⟨b0, b1, b2, b3, b4, b5, b6, e0, e1, e2, e3, e4, e5, e6⟩ := seven T3.out.inn
        go_wp2_with fail
        clear a0 a1 a2 a3 a4 a5 a6 f0 f1 f2 f3 f4 f5 f6 b0 b1 b2 b3 b4 b5 b6 e0 e1 e2 e3 e4 e5 e6
        refine (HW2.out w3 k3).mono ?_
        rintro e w4 ⟨rfl, k4⟩
        rw [HV.out]
        have T4 := Lib.hid (T3.out.calm k4)
        clear T3 k3 k4 TT HW1 HW2 HV
        have x1 : (zv != zv) = false := by simp
        have x2 : (iv != iv) = false := by simp
        have x3 : (bv != bv) = false := by cases bv <;> rfl
        have y1 : (zv == zv) = true := by simp
        have y2 : (iv == iv) = true := by simp
        have y3 : (bv == bv) = true := by cases bv <;> rfl
        obtain ⟨a0, a1, a2, a3, a4, a5, a6, f0, f1, f2, f3, f4, f5, f6⟩ := seven T4.out.box
        obtain ⟨b0, b1, b2, b3, b4, b5, b6, e0, e1, e2, e3, e4, e5, e6⟩ := seven T4.out.inn
        go_wp2_with fail
        clear a0 a1 a2 a3 a4 a5 a6 f0 f1 f2 f3 f4 f5 f6 b0 b1 b2 b3 b4 b5 b6 e0 e1 e2 e3 e4 e5 e6
        refine (eqState_any s s (some ⟨gp, 0, none⟩) (some ⟨gc, 0, none⟩) (some ⟨gz, 0, none⟩) Ap Ac Az w4.heap.size (s.players.length + 64) (s.cards.length + 64) (s.zones.length + 64) cp cc cz w4 T4.out.wide.lies T4.out.src (Nat.le_refl _) SM.out).mono ?_
        rintro e w5 ⟨rfl, k5⟩
        rw [decide_eq_true (rfl : s = s)]
        have T5 := Lib.hid (T4.out.calm k5)
        clear T4 k5
        obtain ⟨a0, a1, a2, a3, a4, a5, a6, f0, f1, f2, f3, f4, f5, f6⟩ := seven T5.out.box
        obtain ⟨b0, b1, b2, b3, b4, b5, b6, e0, e1, e2, e3, e4, e5, e6⟩ := seven T5.out.inn
        go_wp2_with fail
        clear a0 a1 a2 a3 a4 a5 a6 f0 f1 f2 f3 f4 f5 f6 b0 b1 b2 b3 b4 b5 b6 e0 e1 e2 e3 e4 e5 e6
        refine (spareState_any s gp gc gz w1.heap.size cs bs w5 T5.out.wide SM.out).mono ?_
        rintro e w6 ⟨rfl, k6⟩
        have K6 := Lib.hid (T5.out.keeps.trans k6)
        clear T5 k6
        go_wp2_with fail
        refine (works_any w6).mono ?_
        rintro e w7 ⟨rfl, k7⟩
        have K7 := Lib.hid (K6.out.trans k7)
        clear K6 k7
        go_wp2_with fail
        go_ret
        exact ⟨rfl, K7.out⟩
end Go.Proofs.Ytgbikcliembkcaa
