/-
  The law StateChecks: the walk. Conditions: lengths within 10 ^ 15.
-/
import Derived.Test.YtgbikcliembkcaaStOwn
namespace Go.Proofs.Ytgbikcliembkcaa
open Go.RowKit
set_option maxRecDepth 100000 in
set_option maxHeartbeats 4000000 in
theorem stateChecks_any (s : St) (Ap Ac Az : Option Addr) (cp cc cz : Nat) (w : World) (hx : StIn w w.heap.size s Ap Ac Az) (hs : StBig s) :
    Calls Try.prog 3 #[stV s Ap Ac Az cp cc cz] w fun e w' => e = .returned (.bool true) ∧ Keeps (fun _ => False) w w' := by
  have HL := fun w (hx : StIn w w.heap.size s Ap Ac Az) => longS_any s Ap Ac Az w.heap.size cp cc cz w hx (Nat.le_refl _) hs.players hs.cards hs.zones hs.rows
  have HWD := fun w (hx : StIn w w.heap.size s Ap Ac Az) (h : StSmall s) => wideState_any s Ap Ac Az w.heap.size cp cc cz w hx (Nat.le_refl _) h
  unfold stV at *
  have HM := Lib.hid (Whole.made w 27 #[.slice Ap s.players.length cp, .slice Ac s.cards.length cc, .slice Az s.zones.length cz, .int .i32 s.turn, .int .i64 s.whose, .int .i8 s.fin, .int .i64 s.winner])
  have XX := Lib.hid (hx.past ((Keeps.refl (fun _ => False) w).alloc (.cells #[.slice Ap s.players.length cp, .slice Ac s.cards.length cc, .slice Az s.zones.length cz, .int .i32 s.turn, .int .i64 s.whose, .int .i8 s.fin, .int .i64 s.winner] 27)))
  have KK := Lib.hid ((Keeps.refl (fun _ => False) w).alloc (.cells #[.slice Ap s.players.length cp, .slice Ac s.cards.length cc, .slice Az s.zones.length cz, .int .i32 s.turn, .int .i64 s.whose, .int .i8 s.fin, .int .i64 s.winner] 27))
  have SZ0 : Hid (w.heap.size ≤ (w.alloc (.cells #[.slice Ap s.players.length cp, .slice Ac s.cards.length cc, .slice Az s.zones.length cz, .int .i32 s.turn, .int .i64 s.whose, .int .i8 s.fin, .int .i64 s.winner] 27)).heap.size) := Lib.hid (by simp)
  clear hx
  go_enter Try.func3, Try.ntmps3
  go_wp2_with fail
  generalize w.alloc (.cells #[.slice Ap s.players.length cp, .slice Ac s.cards.length cc, .slice Az s.zones.length cz, .int .i32 s.turn, .int .i64 s.whose, .int .i8 s.fin, .int .i64 s.winner] 27) = w0 at *
  refine (HL w0 XX.out).mono ?_
  rintro e w1 ⟨rfl, k1⟩
  have HM1 := Lib.hid (HM.out.keeps k1 id)
  have XX1 := Lib.hid (XX.out.past k1)
  have KK1 := Lib.hid (KK.out.trans k1)
  have SZ1 : Hid (w.heap.size ≤ w1.heap.size) := Lib.hid (Nat.le_trans SZ0.out k1.size)
  clear HL HM XX KK k1 SZ0
  by_cases hb : 16777216 < (stSizeTo s : Int)
  · rw [decide_eq_true hb]
    clear hb
    go_wp2_with fail
    go_ret
    exact ⟨rfl, KK1.out⟩
  rw [decide_eq_false hb]
  have hsz := stSizeTo_small (s := s) (by omega)
  have SM := Lib.hid (small_of_size hsz)
  have hfl : s.zones.flatten.length ≤ 1000000000 := by unfold stSize at hsz; omega
  have hcl : s.cards.length ≤ 1000000000 := by unfold stSize at hsz; omega
  have hzl : s.zones.length ≤ 1000000000 := by unfold stSize at hsz; omega
  have HFL := Lib.hid hfl
  clear hb hsz hfl
  obtain ⟨a0, a1, a2, a3, a4, a5, a6, f0, f1, f2, f3, f4, f5, f6⟩ := seven HM1.out
  go_wp2_with fail
  clear a0 a1 a2 a3 a4 a5 a6 f0 f1 f2 f3 f4 f5 f6
  refine (HWD w1 XX1.out SM.out).mono ?_
  rintro e w2 ⟨gp, gc, gz, cs, bs, rfl, hw, k2⟩
  have HM2 := Lib.hid (HM1.out.keeps k2 id)
  have XX2 := Lib.hid (XX1.out.past k2)
  have KK2 := Lib.hid (KK1.out.trans k2)
  have WI := Lib.hid hw
  clear HWD HM1 XX1 KK1 hw k2
  obtain ⟨a0, a1, a2, a3, a4, a5, a6, f0, f1, f2, f3, f4, f5, f6⟩ := seven HM2.out
  have T0 : Hid (Two w (w2.alloc (.cells #[.slice (some ⟨gp, 0, none⟩) s.players.length (s.players.length + 64), .slice (some ⟨gc, 0, none⟩) s.cards.length (s.cards.length + 64), .slice (some ⟨gz, 0, none⟩) s.zones.length (s.zones.length + 64), .int .i32 s.turn, .int .i64 s.whose, .int .i8 s.fin, .int .i64 s.winner] 27)) w1.heap.size s Ap Ac Az cp cc cz w2.heap.size gp gc gz cs bs) := Lib.hid ⟨KK2.out.alloc _, HM2.out.alloc _, Whole.made w2 _ _, XX2.out.past ((Keeps.refl (fun _ => False) w2).alloc _), WI.out.keeps ((Keeps.refl (fun _ => False) w2).alloc _) (fun _ _ => id)⟩
  clear KK2 HM2 XX2 WI
  go_wp2_with fail
  clear a0 a1 a2 a3 a4 a5 a6 f0 f1 f2 f3 f4 f5 f6
  generalize w2.alloc (.cells #[.slice (some ⟨gp, 0, none⟩) s.players.length (s.players.length + 64), .slice (some ⟨gc, 0, none⟩) s.cards.length (s.cards.length + 64), .slice (some ⟨gz, 0, none⟩) s.zones.length (s.zones.length + 64), .int .i32 s.turn, .int .i64 s.whose, .int .i8 s.fin, .int .i64 s.winner] 27) = v0 at *
  generalize w2.heap.size = gi at *
  refine (check_any s (some ⟨gp, 0, none⟩) (some ⟨gc, 0, none⟩) (some ⟨gz, 0, none⟩) v0.heap.size (s.players.length + 64) (s.cards.length + 64) (s.zones.length + 64) v0 T0.out.wide.lies (Nat.le_refl _) SM.out).mono ?_
  rintro e w3 ⟨rfl, k3⟩
  have T3 := Lib.hid (T0.out.calm k3)
  clear T0 k3
  obtain ⟨a0, a1, a2, a3, a4, a5, a6, f0, f1, f2, f3, f4, f5, f6⟩ := seven T3.out.box
  obtain ⟨b0, b1, b2, b3, b4, b5, b6, e0, e1, e2, e3, e4, e5, e6⟩ := seven T3.out.inn
  go_wp2_with fail
  clear a0 a1 a2 a3 a4 a5 a6 f0 f1 f2 f3 f4 f5 f6 b0 b1 b2 b3 b4 b5 b6 e0 e1 e2 e3 e4 e5 e6
  refine (refCheck_any s Ap Ac Az w3.heap.size cp cc cz w3 T3.out.src (Nat.le_refl _) SM.out HFL.out).mono ?_
  rintro e w4 ⟨rfl, k4⟩
  have T4 := Lib.hid (T3.out.calm k4)
  clear T3 k4
  obtain ⟨a0, a1, a2, a3, a4, a5, a6, f0, f1, f2, f3, f4, f5, f6⟩ := seven T4.out.box
  obtain ⟨b0, b1, b2, b3, b4, b5, b6, e0, e1, e2, e3, e4, e5, e6⟩ := seven T4.out.inn
  have z1 : ((checkP s).1 != (checkP s).1) = false := by simp
  have z2 : ((checkP s).2 != (checkP s).2) = false := by simp
  have z3 : ((checkP s).1 == (checkP s).1) = true := by simp
  have z4 : ((checkP s).2 == (checkP s).2) = true := by simp
  generalize (checkP s).1 = q1 at *
  generalize (checkP s).2 = q2 at *
  go_wp2_with fail
  clear a0 a1 a2 a3 a4 a5 a6 f0 f1 f2 f3 f4 f5 f6 b0 b1 b2 b3 b4 b5 b6 e0 e1 e2 e3 e4 e5 e6
  refine (eqState_any s s (some ⟨gp, 0, none⟩) (some ⟨gc, 0, none⟩) (some ⟨gz, 0, none⟩) Ap Ac Az w4.heap.size (s.players.length + 64) (s.cards.length + 64) (s.zones.length + 64) cp cc cz w4 T4.out.wide.lies T4.out.src (Nat.le_refl _) SM.out).mono ?_
  rintro e w5 ⟨rfl, k5⟩
  rw [decide_eq_true (rfl : s = s)]
  have T5 := Lib.hid (T4.out.calm k5)
  clear T4 k5
  obtain ⟨a0, a1, a2, a3, a4, a5, a6, f0, f1, f2, f3, f4, f5, f6⟩ := seven T5.out.box
  obtain ⟨b0, b1, b2, b3, b4, b5, b6, e0, e1, e2, e3, e4, e5, e6⟩ := seven T5.out.inn
  go_wp2_with fail
  clear a0 a1 a2 a3 a4 a5 a6 f0 f1 f2 f3 f4 f5 f6 b0 b1 b2 b3 b4 b5 b6 e0 e1 e2 e3 e4 e5 e6
  refine (spareState_any s gp gc gz w1.heap.size cs bs w5 T5.out.wide SM.out).mono ?_
  rintro e w6 ⟨rfl, k6⟩
  have O6 := Lib.hid (Own3.of (T5.out.keeps.trans k6) (T5.out.inn.keeps k6 id) (T5.out.wide.keeps k6 (fun _ _ => id)) SZ1.out)
  clear T5 k6 z1 z2 z3 z4
  generalize (flat Cd.cells (wideCd s.cards)).toArray = cd0 at *
  obtain ⟨b0, b1, b2, b3, b4, b5, b6, e0, e1, e2, e3, e4, e5, e6⟩ := seven O6.out.inn
  go_wp2_with fail
  clear b0 b1 b2 b3 b4 b5 b6 e0 e1 e2 e3 e4 e5 e6
  go_loopw [8] (fun vi wr => ∃ (i : Nat) (cd : Array Value), i ≤ s.cards.length ∧ vi = .int .i64 i ∧ Hid (Own3 w wr s gi gp gc gz cd cs bs)) (fun vi _ => s.cards.length - (intOf vi).toNat)
  case atStart => exact ⟨0, cd0, by omega, rfl, O6⟩
  case round =>
    clear O6
    obtain ⟨i, cd, hi, rfl, OO⟩ := hrel
    obtain ⟨b0, b1, b2, b3, b4, b5, b6, e0, e1, e2, e3, e4, e5, e6⟩ := seven OO.out.inn
    by_cases hlt : i < s.cards.length
    · obtain ⟨c, h6⟩ := OO.out.six i hlt
      have g1 : wr.cell? ⟨gc, i * 6 + 1, none⟩ = some (.int .i64 c.owner) := (OO.out.cards.cellAt _).trans (h6 1 (by decide))
      have g2 := OO.out.cards.free (i * 6 + 1)
      clear h6
      generalize c.owner = ow at *
      go_wp2_with fail
      go_region
      go_wp2_with fail
      refine ⟨⟨i + 1, _, by omega, by first | rfl | go_num, Lib.hid ((OO.out.card i _).calm (Keeps.refl _ _).drew)⟩, by simp [intOf]; omega⟩
    · obtain rfl : i = s.cards.length := by omega
      go_wp2_with fail
      clear b0 b1 b2 b3 b4 b5 b6 e0 e1 e2 e3 e4 e5 e6
      go_loopw [9] (fun vi wr' => ∃ (i : Nat), i ≤ s.zones.length ∧ vi = .int .i64 i ∧ Hid (Own3 w wr' s gi gp gc gz cd cs bs)) (fun vi _ => s.zones.length - (intOf vi).toNat)
      case atStart => exact ⟨0, by omega, rfl, OO⟩
      case round =>
        clear OO
        obtain ⟨i, hi, rfl, OO⟩ := hrel
        obtain ⟨b0, b1, b2, b3, b4, b5, b6, e0, e1, e2, e3, e4, e5, e6⟩ := seven OO.out.inn
        by_cases hlt : i < s.zones.length
        · obtain ⟨n, hn⟩ : ∃ n, (s.zones.map List.length)[i]? = some n := ⟨_, List.getElem?_eq_getElem (by simpa using hlt)⟩
          have hnl : n ≤ 1000000000 := by
            obtain ⟨r, hr, rfl⟩ := List.mem_map.1 (List.mem_of_getElem? hn)
            exact SM.out.rows r hr
          have HN := Lib.hid hn
          clear hn
          go_wp2_with fail
          clear b0 b1 b2 b3 b4 b5 b6 e0 e1 e2 e3 e4 e5 e6
          go_loopw [10] (fun vk wr' => ∃ (k : Nat), k ≤ n ∧ vk = .int .i64 k ∧ Hid (Own3 w wr' s gi gp gc gz cd cs bs)) (fun vk _ => n - (intOf vk).toNat)
          case atStart => exact ⟨0, by omega, rfl, OO⟩
          case round =>
            clear OO
            obtain ⟨k, hk, rfl, OO⟩ := hrel
            obtain ⟨b0, b1, b2, b3, b4, b5, b6, e0, e1, e2, e3, e4, e5, e6⟩ := seven OO.out.inn
            obtain ⟨l, hl, h1, h2, _⟩ := OO.out.zones.row i n HN.out
            have g1 : wr.cell? ⟨gz, i, none⟩ = some (.slice (some ⟨bs i, 0, none⟩) n l.length) := (OO.out.zones.whole.cellAt _).trans h1
            have G := fun (m : Nat) (hm : m < n) => (h2.cellAt m).trans (ints_at l m (by omega))
            have g3 := h2.free k
            have hP := Lib.hid (fun z => (OO.out.zone HN.out k z))
            clear h1 h2
            generalize l.length = ll at *
            generalize bs i = bi at *
            by_cases hkn : 2 * k + 1 < n
            · obtain ⟨m, hm⟩ : ∃ m : Nat, (n : Int) - 1 - (k : Int) = (m : Int) := ⟨n - 1 - k, by omega⟩
              have hmn : m < n := by omega
              have hz := G m hmn
              have hz2 := G k (by omega)
              clear G
              generalize l.getD m 0 = zm at *
              generalize l.getD k 0 = zk at *
              go_wp2_with fail
              go_region
              go_wp2_with fail
              refine ⟨⟨k + 1, by omega, by first | rfl | go_num, Lib.hid ((hP.out zm).calm (Keeps.refl _ _).drew)⟩, by simp [intOf]; omega⟩
            · clear G
              go_wp2_with fail
              refine ⟨⟨i + 1, by omega, by first | rfl | go_num, OO⟩, by simp [intOf]; omega⟩
        · obtain rfl : i = s.zones.length := by omega
          go_wp2_with fail
          obtain ⟨t, ht1, ht2, ht3, ht4, ht5, ht6, ht7, ht⟩ := OO.out.lies
          obtain ⟨hs1, hs2⟩ := small_like SM.out ht1 ht2 ht3 HFL.out
          have hzz : t.zones.length = s.zones.length := by simpa using congrArg List.length ht3
          have HK := Lib.hid OO.out.keeps
          have HT := Lib.hid ht
          have HS := Lib.hid hs1
          have HF := Lib.hid hs2
          have HB := Lib.hid OO.out.inn
          rw [← ht1, ← ht2, ← hzz, ← ht4, ← ht5, ← ht6, ← ht7] at HB
          clear ht hs1 hs2 OO b0 b1 b2 b3 b4 b5 b6 e0 e1 e2 e3 e4 e5 e6
          rw [← ht1, ← ht2, ← hzz, ← ht4, ← ht5, ← ht6, ← ht7]
          refine (check_any t (some ⟨gp, 0, none⟩) (some ⟨gc, 0, none⟩) (some ⟨gz, 0, none⟩) wr.heap.size (t.players.length + 64) (t.cards.length + 64) (t.zones.length + 64) wr HT.out (Nat.le_refl _) HS.out).mono ?_
          rintro e w7 ⟨rfl, k7⟩
          have HT7 := Lib.hid (HT.out.past k7)
          have HB7 := Lib.hid (HB.out.keeps k7 id)
          have HK7 := Lib.hid (HK.out.trans k7)
          clear HT HB HK k7 ht1 ht2 ht3 ht4 ht5 ht6 ht7 hzz
          generalize q1 = q1' at *
          generalize q2 = q2' at *
          have z1 : ((checkP t).1 == (checkP t).1) = true := by simp
          have z2 : ((checkP t).2 == (checkP t).2) = true := by simp
          obtain ⟨b0, b1, b2, b3, b4, b5, b6, e0, e1, e2, e3, e4, e5, e6⟩ := seven HB7.out
          go_wp2_with fail
          clear b0 b1 b2 b3 b4 b5 b6 e0 e1 e2 e3 e4 e5 e6
          refine (copyState_any t (some ⟨gp, 0, none⟩) (some ⟨gc, 0, none⟩) (some ⟨gz, 0, none⟩) w7.heap.size (t.players.length + 64) (t.cards.length + 64) (t.zones.length + 64) w7 HT7.out (Nat.le_refl _) HS.out).mono ?_
          rintro e w8 ⟨Aq, Ad, Ay, cq, cd', cy, cells, rfl, hC, k8⟩
          have HC := Lib.hid hC.lies
          have HK8 := Lib.hid (HK7.out.trans k8)
          clear hC k8 HT7 HK7 HB7
          go_wp2_with fail
          refine (refCheck_any t Aq Ad Ay w8.heap.size cq cd' cy w8 HC.out (Nat.le_refl _) HS.out HF.out).mono ?_
          rintro e w9 ⟨rfl, k9⟩
          have HK9 := Lib.hid (HK8.out.trans k9)
          clear HC HK8 k9
          go_wp2_with fail
          refine (works_any w9).mono ?_
          rintro e w10 ⟨rfl, k10⟩
          have HK10 := Lib.hid (HK9.out.trans k10)
          clear HK9 k10
          go_wp2_with fail
          go_ret
          exact ⟨rfl, HK10.out⟩
end Go.Proofs.Ytgbikcliembkcaa
