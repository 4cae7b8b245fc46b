/-
  DiceDraws: the same draws; the document's Order: the walks. Conditions: Go's own limits.
-/
import Derived.Test.YtalngbdjabjahaaDoorDrawB
import Derived.Test.YtalngbdjabjahaaDoorEqInts
namespace Go.Proofs.YtalngbdjabjahaaDoor
open Go.RowKit
set_option maxHeartbeats 400000 in
theorem sameDraws_any (x y : List Int) (A A' : Option Addr) (B B' cap cap' : Nat) (w : World) (hx : Lies w B A (x.map (Value.int .u64))) (hy : Lies w B' A' (y.map (Value.int .u64))) (hm : x.length ≤ 9223372036854775807) :
    Calls Tryd.prog 48 #[.slice A x.length cap, .slice A' y.length cap'] w fun e w' => e = .returned (.bool (decide (x = y))) ∧ ∃ n, w' = w.drewN n := by
  by_cases hlen : x.length = y.length
  · go_enter Tryd.func48, Tryd.ntmps48
    go_wp2
    go_loopw [5] (fun i wr => ∃ k d : Nat, k ≤ x.length ∧ i = .int .i64 k ∧ x.take k = y.take k ∧ wr = w.drewN d) (fun i _ => x.length - (intOf i).toNat)
    case atStart => exact ⟨0, 0, by omega, rfl, rfl, rfl⟩
    case round =>
      obtain ⟨k, d, hk, rfl, heq, rfl⟩ := hrel
      have HE := Lib.hid heq; clear heq
      by_cases hlt : k < x.length
      · have hlt' : k < y.length := by omega
        obtain ⟨g, off, rfl, _, hc⟩ := hx k _ (map_get x k hlt)
        obtain ⟨g', off', rfl, _, hc'⟩ := hy k _ (map_get y k hlt')
        by_cases hxy : x[k] = y[k]
        · have hs : Hid (x.take (k + 1) = y.take (k + 1)) := Lib.hid (by rw [List.take_succ_eq_append_getElem hlt, List.take_succ_eq_append_getElem hlt', HE.out, hxy])
          have ht : ((x[k] : Int) != y[k]) = false := by rw [hxy]; simp
          have HL := Lib.hid hlen; clear hlen hxy
          go_wp2_with fail
          go_quiet (fail)
          go_wp2
          go_roundw
          case rel => exact ⟨k + 1, _, by omega, by go_num, hs.out, rfl⟩
          case measure => simp [intOf]; omega
        · have ht : ((x[k] : Int) != y[k]) = true := by
            rw [bne_iff_ne]; exact hxy
          have hne : x ≠ y := fun e => hxy (by subst e; rfl)
          go_wp2_with fail
          go_quiet (fail)
          go_wp2
          go_ret
          exact ⟨by simp [hne], _, World.drewN_drewN _ _ _⟩
      · obtain rfl : k = x.length := by omega
        have he : x = y := by have := HE.out; rw [List.take_length, hlen, List.take_length] at this; exact this
        have HF := Lib.hid he; clear he
        go_wp2
        go_ret
        exact ⟨by simp [HF.out], _, rfl⟩
  · have hne : x ≠ y := fun e => hlen (by rw [e])
    go_enter Tryd.func48, Tryd.ntmps48
    go_wp2
    go_ret
    exact ⟨by simp [hne], 0, rfl⟩
theorem rorder_no (g z : Nat) (n : Int) (w : World) (hd : RDiceAt w g z) (h : n < 0) :
    Calls Tryd.prog 46 #[.pointer (some ⟨g, 0, none⟩), .int .i64 n] w fun e w' => e = .returned (.slice none 0 0) ∧ w = w' := by
  have c1 : w.cell? ⟨g, 1, none⟩ = some (.bool true) := hd.cellAt 1
  go_enter Tryd.func46, Tryd.ntmps46
  go_wp2_with fail
  go_ret
  exact ⟨rfl, rfl⟩
def ROrdPost (g n : Nat) (w : World) (R : Option (List Int) × Nat) (e : Ending) (w' : World) : Prop :=
  ∃ l A c, R.1 = some l ∧ l.length = n ∧ e = .returned (.slice A n c) ∧ Lies w' w'.heap.size A (l.map (Value.int .i64)) ∧ RDiceAt w' g R.2 ∧ Keeps (fun b => b = g) w w'
theorem rordPost_of {g n : Nat} {w w' : World} {R : Option (List Int) × Nat} {l : List Int} {z : Nat} {A : Option Addr} {c : Nat} (hR : (some l, z) = R) (hl : l.length = n) (hL : Lies w' w'.heap.size A (l.map (Value.int .i64))) (hd : RDiceAt w' g z) (hk : Keeps (fun b => b = g) w w') : ROrdPost g n w R (.returned (.slice A n c)) w' := by
  subst hR; exact ⟨l, A, c, rfl, hl, rfl, hL, hd, hk⟩
/-- An answer that always serves. -/
def ansOf (qv : Nat → Nat → Nat) (z k : Nat) : Int × Bool := (((qv z k : Nat) : Int), true)
theorem ansOf_ok {qv : Nat → Nat → Nat} (hq : ∀ z i, qv z (i + 2) ≤ i + 1) (z i : Nat) : okAns (ansOf qv z (i + 2)) (i + 1) = true := ok_nat (hq z i)
set_option maxHeartbeats 4000000 in
set_option maxRecDepth 100000 in
theorem rorder_gen (qv nx : Nat → Nat → Nat) (hq : ∀ z i, qv z (i + 2) ≤ i + 1) (g : Nat) (hbl : ∀ z k w, RDiceAt w g z → 1 ≤ k → k ≤ 9223372036854775807 → Calls Tryd.prog 42 #[.pointer (some ⟨g, 0, none⟩), .int .i64 (k : Nat)] w fun e w' => e = .returned (.int .i64 (qv z k : Nat)) ∧ RDiceAt w' g (nx z k) ∧ Keeps (fun b => b = g) w w')
    (z n : Nat) (w : World) (hd : RDiceAt w g z) (hn : n ≤ 65536) (R : Option (List Int) × Nat) (hR : Hid (shuf (ansOf qv) nx (n - 1) (rng n) z = R)) :
    Calls Tryd.prog 46 #[.pointer (some ⟨g, 0, none⟩), .int .i64 n] w (ROrdPost g n w R) := by
  have c1 : w.cell? ⟨g, 1, none⟩ = some (.bool true) := hd.cellAt 1
  have HD := Lib.hid hd
  have hin := hd.inside
  clear hd
  go_enter Tryd.func46, Tryd.ntmps46
  go_wp2_with fail
  clear c1
  refine (first_any n hn _).mono ?_
  rintro e w1 ⟨Al, capl, rfl, hO, hb⟩
  have HOl := Lib.hid hO
  have hk1 : Keeps (fun b => b = g) w w1 := keepsAll hb
  have HK1 := Lib.hid hk1
  have HD1 := Lib.hid (show RDiceAt w1 g z from HD.out.past hb)
  have hs1 := hb.size
  clear hO hb hk1 HD
  obtain ⟨gl, hgl⟩ : ∃ gl : Nat, n < 2 ∨ Al = some ⟨gl, 0, none⟩ ∧ w.heap.size ≤ gl ∧ Row w1 gl (rng n) := by
    by_cases h : n < 2
    · exact ⟨0, .inl h⟩
    · obtain ⟨g', h1, h2, h3, _⟩ := row_of HOl.out (by omega)
      exact ⟨g', .inr ⟨h1, h2, h3⟩⟩
  have HLl : Hid (LiesD w1 (fun b => w.heap.size ≤ b) Al ((rng n).map (Value.int .i64))) := Lib.hid (own_liesD HOl.out fun b hb => (HOl.out.lt b hb).1)
  have HG := Lib.hid hgl; clear hgl HOl
  have hl0 := Lib.hid (rng_length n)
  generalize rng n = l0 at *
  go_wp2_with fail
  go_loopw [6] (fun vi wr => ∃ (i : Nat) (l : List Int) (z' : Nat), i ≤ n ∧ vi = .int .i64 ((i : Int) - 1) ∧ Hid (l.length = n) ∧ Hid (shuf (ansOf qv) nx (i - 1) l z' = R) ∧ Hid (n < 2 ∨ Al = some ⟨gl, 0, none⟩ ∧ w.heap.size ≤ gl ∧ Row wr gl l) ∧ Hid (n < 2 → LiesD wr (fun b => w.heap.size ≤ b) Al (l.map (Value.int .i64))) ∧ Hid (RDiceAt wr g z') ∧ Hid (Keeps (fun b => b = g) w wr)) (fun vi _ => (intOf vi + 1).toNat)
  case atStart => exact ⟨n, l0, z, by omega, rfl, hl0, hR, HG, Lib.hid (fun _ => HLl.out), HD1, HK1⟩
  case round =>
    clear hl0 hR HG HLl HD1 HK1 hs1
    obtain ⟨i, l, z', hi, rfl, hl, HR, HG, HLl, HD, HK⟩ := hrel
    by_cases h1 : i ≤ 1
    · have hz : i - 1 = 0 := by omega
      have HR' := HR.out
      rw [hz, shuf_zero] at HR'
      have HR'' := Lib.hid HR'; clear HR' hz HR
      have HLz : Hid (Lies wr wr.heap.size Al (l.map (Value.int .i64))) := Lib.hid (by
        rcases HG.out with h | ⟨rfl, h2, h3⟩
        · intro k u hu
          obtain ⟨b, e, _, hc⟩ := HLl.out h k u hu
          refine ⟨b, 0, e, ?_, by rw [Nat.zero_add]; exact hc⟩
          exact World.block_lt_of_cell? wr _ hc
        · exact row_lies h3 h3.inside)
      go_wp2_with fail
      go_ret
      exact rordPost_of HR''.out hl.out HLz.out HD.out HK.out
    · obtain ⟨m, rfl⟩ : ∃ m, i = m + 2 := ⟨i - 2, by omega⟩
      have HR1 : Hid (shuf (ansOf qv) nx (m + 1) l z' = R) := HR
      have hR2 := (shuf_yes (ansOf qv) nx (i := m) (l := l) (s := z') (ansOf_ok hq z' m)).symm.trans HR1.out
      have e1 : (ansOf qv z' (m + 2)).1.toNat = qv z' (m + 2) := Int.toNat_natCast _
      rw [e1] at hR2
      have HR2 := Lib.hid hR2
      obtain ⟨hAl, hgw, hRow⟩ := HG.out.resolve_left (by omega)
      subst hAl
      have HRow := Lib.hid hRow
      have hle : qv z' (m + 2) ≤ m + 1 := hq z' m
      have HB := Lib.hid (hbl z' (m + 2) wr HD.out (by omega) (by omega))
      clear hRow HG HR HR1 hR2 e1 HLl HD
      rw [show ((m + 2 : Nat) : Int) - 1 = (m : Int) + 1 by omega]
      have hgg : g ≠ gl := by omega
      go_wp2_with fail
      rw [show ((m : Int) + 1 + 1) = ((m + 2 : Nat) : Int) by omega]
      refine HB.out.mono ?_
      rintro e w2 ⟨rfl, hd2, hk2⟩
      have HD2 := Lib.hid hd2
      have HRow2 : Hid (Row w2 gl l) := Lib.hid (by
        obtain ⟨c, hw, hc⟩ := HRow.out
        exact ⟨c, hw.keeps hk2 (fun e => hgg e.symm), hc⟩)
      have HK2 := Lib.hid (HK.out.trans hk2)
      clear hd2 hk2 HB HRow HK
      generalize qv z' (m + 2) = q at *
      generalize nx z' (m + 2) = z2 at *
      have hlen := hl.out
      obtain ⟨q0, q1, q2, q3, q4, q5⟩ := row_two HRow2.out (i := m + 1) (j := q) (by omega) (by omega)
      have HSW := Lib.hid (row_swp HRow2.out (i := m + 1) (j := q) (by omega) (by omega))
      have hinl := HRow2.out.inside
      have HLn : Hid ((swp l (m + 1) q).length = n) := Lib.hid (by rw [swp_length]; exact hlen)
      clear hlen
      generalize l.getD (m + 1) 0 = y1 at *
      generalize l.getD q 0 = y2 at *
      go_wp2_with fail
      go_roundw
      case rel => exact ⟨m + 1, swp l (m + 1) q, z2, by omega, by go_num, HLn, HR2, Lib.hid (.inr ⟨trivial, hgw, HSW.out⟩), Lib.hid (fun h => absurd h (by omega)), Lib.hid ((HD2.out.putFar hgg _).putFar hgg _), Lib.hid ((HK2.out.setCell (fun h => absurd h (by show ¬ gl < w.heap.size; omega)) _).setCell (fun h => absurd h (by show ¬ gl < w.heap.size; omega)) _)⟩
      case measure => simp [intOf]; omega
theorem rorder_any (g z n : Nat) (w : World) (hd : RDiceAt w g z) (hn : n ≤ 65536) (R : Option (List Int) × Nat) (hR : shuf dans dnxt (n - 1) (rng n) z = R) :
    Calls Tryd.prog 46 #[.pointer (some ⟨g, 0, none⟩), .int .i64 n] w (ROrdPost g n w R) :=
  rorder_gen (fun z k => phi (mix (adv z)) k) dnxt (fun _ _ => phi_le) g (fun z k w hd h1 h2 => rbelow_rel g z k w hd h1 h2) z n w hd hn R (Lib.hid hR)
end Go.Proofs.YtalngbdjabjahaaDoor
