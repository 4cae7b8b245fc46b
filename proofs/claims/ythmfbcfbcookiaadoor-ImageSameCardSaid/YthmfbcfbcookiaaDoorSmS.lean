/-
  state.Same: the walk. Conditions: lengths within 10 ^ 9.
-/
import Derived.Test.YthmfbcfbcookiaaDoorSmE
namespace Go.Proofs.YthmfbcfbcookiaaDoor
open Go.RowKit
/-- Two states, each in a box. -/
structure SameAt (w wr : World) (s t : St) (Ap Ac Az Ap' Ac' Az' : Option Addr) (cp cc cz cp' cc' cz' B : Nat) : Prop where
  keeps : Keeps (fun _ => False) w wr
  box1 : Whole wr w.heap.size 27 #[.slice Ap s.players.length cp, .slice Ac s.cards.length cc, .slice Az s.zones.length cz, .int .i32 s.turn, .int .i64 s.whose, .int .i8 s.fin, .int .i64 s.winner]
  box2 : Whole wr (w.heap.size + 1) 27 #[.slice Ap' t.players.length cp', .slice Ac' t.cards.length cc', .slice Az' t.zones.length cz', .int .i32 t.turn, .int .i64 t.whose, .int .i8 t.fin, .int .i64 t.winner]
  one : StIn wr B s Ap Ac Az
  two : StIn wr B t Ap' Ac' Az'
theorem SameAt.calm {w wr w' : World} {s t : St} {Ap Ac Az Ap' Ac' Az' : Option Addr} {cp cc cz cp' cc' cz' B : Nat} (h : SameAt w wr s t Ap Ac Az Ap' Ac' Az' cp cc cz cp' cc' cz' B) (hk : Keeps (fun _ => False) wr w') (hB : B ≤ w.heap.size) : SameAt w w' s t Ap Ac Az Ap' Ac' Az' cp cc cz cp' cc' cz' B :=
  ⟨h.keeps.trans hk, h.box1.keeps hk id, h.box2.keeps hk id, h.one.keeps hk (fun _ _ => id) (Nat.le_trans hB h.keeps.size), h.two.keeps hk (fun _ _ => id) (Nat.le_trans hB h.keeps.size)⟩
set_option maxRecDepth 100000 in
set_option maxHeartbeats 4000000 in
theorem same_any (s t : St) (Ap Ac Az Ap' Ac' Az' : Option Addr) (B cp cc cz cp' cc' cz' : Nat) (w : World) (hx : StIn w B s Ap Ac Az) (hy : StIn w B t Ap' Ac' Az') (hB : B ≤ w.heap.size) (hs : StSmall s) :
    Calls Tryd.prog 17 #[stV s Ap Ac Az cp cc cz, stV t Ap' Ac' Az' cp' cc' cz'] w fun e w' => e = .returned (.bool (decide (s = t))) ∧ Keeps (fun _ => False) w w' := by
  unfold stV
  have hK := ((Keeps.refl (fun _ => False) w).alloc (.cells #[.slice Ap s.players.length cp, .slice Ac s.cards.length cc, .slice Az s.zones.length cz, .int .i32 s.turn, .int .i64 s.whose, .int .i8 s.fin, .int .i64 s.winner] 27)).alloc (.cells #[.slice Ap' t.players.length cp', .slice Ac' t.cards.length cc', .slice Az' t.zones.length cz', .int .i32 t.turn, .int .i64 t.whose, .int .i8 t.fin, .int .i64 t.winner] 27)
  have KK := Lib.hid hK
  have XX := Lib.hid (hx.keeps hK (fun _ _ => id) hB)
  have YY := Lib.hid (hy.keeps hK (fun _ _ => id) hB)
  clear hx hy
  by_cases h0 : s.turn = t.turn
  rotate_left
  · have hne : s ≠ t := fun e => h0 (congrArg St.turn e)
    have q0 : (s.turn != t.turn) = true := by rw [bne_iff_ne]; exact h0
    clear h0 hK
    go_enter Tryd.func17, Tryd.ntmps17
    go_wp2_with fail
    go_ret
    exact ⟨by rw [decide_eq_false hne]; rfl, KK.out⟩
  have Q0 : Hid ((s.turn != t.turn) = false) := Lib.hid (by rw [h0]; simp)
  have G0 := Lib.hid h0
  clear h0
  by_cases h1 : s.whose = t.whose
  rotate_left
  · have hne : s ≠ t := fun e => h1 (congrArg St.whose e)
    have q1 : (s.whose != t.whose) = true := by rw [bne_iff_ne]; exact h1
    clear h1 hK
    have q0 := Q0.out
    go_enter Tryd.func17, Tryd.ntmps17
    go_wp2_with fail
    go_ret
    exact ⟨by rw [decide_eq_false hne]; rfl, KK.out⟩
  have Q1 : Hid ((s.whose != t.whose) = false) := Lib.hid (by rw [h1]; simp)
  have G1 := Lib.hid h1
  clear h1
  by_cases h2 : s.fin = t.fin
  rotate_left
  · have hne : s ≠ t := fun e => h2 (congrArg St.fin e)
    have q2 : (s.fin != t.fin) = true := by rw [bne_iff_ne]; exact h2
    clear h2 hK
    have q0 := Q0.out
    have q1 := Q1.out
    go_enter Tryd.func17, Tryd.ntmps17
    go_wp2_with fail
    go_ret
    exact ⟨by rw [decide_eq_false hne]; rfl, KK.out⟩
  have Q2 : Hid ((s.fin != t.fin) = false) := Lib.hid (by rw [h2]; simp)
  have G2 := Lib.hid h2
  clear h2
  by_cases h3 : s.winner = t.winner
  rotate_left
  · have hne : s ≠ t := fun e => h3 (congrArg St.winner e)
    have q3 : (s.winner != t.winner) = true := by rw [bne_iff_ne]; exact h3
    clear h3 hK
    have q0 := Q0.out
    have q1 := Q1.out
    have q2 := Q2.out
    go_enter Tryd.func17, Tryd.ntmps17
    go_wp2_with fail
    go_ret
    exact ⟨by rw [decide_eq_false hne]; rfl, KK.out⟩
  have Q3 : Hid ((s.winner != t.winner) = false) := Lib.hid (by rw [h3]; simp)
  have G3 := Lib.hid h3
  clear h3
  have TT : Hid (SameAt w ((w.alloc (.cells #[.slice Ap s.players.length cp, .slice Ac s.cards.length cc, .slice Az s.zones.length cz, .int .i32 s.turn, .int .i64 s.whose, .int .i8 s.fin, .int .i64 s.winner] 27)).alloc (.cells #[.slice Ap' t.players.length cp', .slice Ac' t.cards.length cc', .slice Az' t.zones.length cz', .int .i32 t.turn, .int .i64 t.whose, .int .i8 t.fin, .int .i64 t.winner] 27)) s t Ap Ac Az Ap' Ac' Az' cp cc cz cp' cc' cz' B) := Lib.hid ⟨KK.out, (Whole.made w _ _).alloc _, by
    have h := Whole.made (w.alloc (.cells #[.slice Ap s.players.length cp, .slice Ac s.cards.length cc, .slice Az s.zones.length cz, .int .i32 s.turn, .int .i64 s.whose, .int .i8 s.fin, .int .i64 s.winner] 27)) 27 #[.slice Ap' t.players.length cp', .slice Ac' t.cards.length cc', .slice Az' t.zones.length cz', .int .i32 t.turn, .int .i64 t.whose, .int .i8 t.fin, .int .i64 t.winner]
    rw [show (w.alloc (.cells #[.slice Ap s.players.length cp, .slice Ac s.cards.length cc, .slice Az s.zones.length cz, .int .i32 s.turn, .int .i64 s.whose, .int .i8 s.fin, .int .i64 s.winner] 27)).heap.size = w.heap.size + 1 by simp] at h
    exact h, XX.out, YY.out⟩
  have SS := Lib.hid hs
  have hsp := hs.players
  have hsc := hs.cards
  have hsz := hs.zones
  clear hK XX YY hs
  by_cases hpl : s.players.length = t.players.length
  rotate_left
  · have hne : s ≠ t := fun e => hpl (congrArg (fun s => s.players.length) e)
    have q4 : ((s.players.length : Int) != (t.players.length : Int)) = true := by rw [bne_iff_ne]; omega
    clear hpl
    have q0 := Q0.out
    have q1 := Q1.out
    have q2 := Q2.out
    have q3 := Q3.out
    go_enter Tryd.func17, Tryd.ntmps17
    go_wp2_with fail
    go_ret
    exact ⟨by rw [decide_eq_false hne]; rfl, KK.out⟩
  have Q4 : Hid (((s.players.length : Int) != (t.players.length : Int)) = false) := Lib.hid (by rw [hpl]; simp)
  by_cases hcl : s.cards.length = t.cards.length
  rotate_left
  · have hne : s ≠ t := fun e => hcl (congrArg (fun s => s.cards.length) e)
    have q5 : ((s.cards.length : Int) != (t.cards.length : Int)) = true := by rw [bne_iff_ne]; omega
    have q4 := Q4.out
    have HPL := Lib.hid hpl
    clear hcl hpl
    have q0 := Q0.out
    have q1 := Q1.out
    have q2 := Q2.out
    have q3 := Q3.out
    go_enter Tryd.func17, Tryd.ntmps17
    go_wp2_with fail
    go_ret
    exact ⟨by rw [decide_eq_false hne]; rfl, KK.out⟩
  have Q5 : Hid (((s.cards.length : Int) != (t.cards.length : Int)) = false) := Lib.hid (by rw [hcl]; simp)
  have HPL := Lib.hid hpl
  have HCL := Lib.hid hcl
  clear hpl hcl KK
  have q0 := Q0.out
  have q1 := Q1.out
  have q2 := Q2.out
  have q3 := Q3.out
  have q4 := Q4.out
  have q5 := Q5.out
  go_enter Tryd.func17, Tryd.ntmps17
  go_wp2_with fail
  clear q0 q1 q2 q3 q4 q5
  generalize (w.alloc (.cells #[.slice Ap s.players.length cp, .slice Ac s.cards.length cc, .slice Az s.zones.length cz, .int .i32 s.turn, .int .i64 s.whose, .int .i8 s.fin, .int .i64 s.winner] 27)).alloc (.cells #[.slice Ap' t.players.length cp', .slice Ac' t.cards.length cc', .slice Az' t.zones.length cz', .int .i32 t.turn, .int .i64 t.whose, .int .i8 t.fin, .int .i64 t.winner] 27) = w0 at *
  go_loopw [52] (fun vi wr => ∃ k : Nat, k ≤ s.players.length ∧ vi = .int .i64 k ∧ Hid (s.players.take k = t.players.take k) ∧ Hid (SameAt w wr s t Ap Ac Az Ap' Ac' Az' cp cc cz cp' cc' cz' B)) (fun vi _ => s.players.length - (intOf vi).toNat)
  case atStart => exact ⟨0, by omega, rfl, Lib.hid (by simp), TT⟩
  case round =>
    clear TT
    obtain ⟨k, hk, rfl, HE, TT⟩ := hrel
    obtain ⟨a0, a1, a2, a3, a4, a5, a6, f0, f1, f2, f3, f4, f5, f6⟩ := seven TT.out.box1
    obtain ⟨b0, b1, b2, b3, b4, b5, b6, e0, e1, e2, e3, e4, e5, e6⟩ := seven TT.out.box2
    by_cases hlt : k < s.players.length
    · have hlt' : k < t.players.length := by rw [← HPL.out]; exact hlt
      obtain ⟨g, off, hA, _, k0, k1, k2⟩ := PlLies.cells TT.out.one.players k s.players[k] (List.getElem?_eq_getElem hlt)
      obtain ⟨g', off', hA', _, l0, l1, l2⟩ := PlLies.cells TT.out.two.players k t.players[k] (List.getElem?_eq_getElem hlt')
      subst hA hA'
      have hq := fun w => ne_pl s.players[k] t.players[k] w
      by_cases hxy : s.players[k] = t.players[k]
      · have hs' : Hid (s.players.take (k + 1) = t.players.take (k + 1)) := Lib.hid (by rw [List.take_succ_eq_append_getElem hlt, List.take_succ_eq_append_getElem hlt', HE.out, hxy])
        rw [show (!decide (s.players[k] = t.players[k])) = false by rw [decide_eq_true hxy]; rfl] at hq
        clear hxy
        generalize s.players[k] = c at *
        generalize t.players[k] = c' at *
        go_wp2_with fail
        go_quiet (fail)
        go_wp2_with fail
        exact ⟨⟨k + 1, by omega, by first | rfl | go_num, hs', Lib.hid (TT.out.calm ((Keeps.refl _ wr).drewN _) hB)⟩, by simp [intOf]; omega⟩
      · have hne : s ≠ t := fun e => hxy (by subst e; rfl)
        rw [show (!decide (s.players[k] = t.players[k])) = true by rw [decide_eq_false hxy]; rfl] at hq
        clear hxy
        generalize s.players[k] = c at *
        generalize t.players[k] = c' at *
        go_wp2_with fail
        go_quiet (fail)
        go_wp2_with fail
        go_ret
        exact ⟨by rw [decide_eq_false hne]; rfl, TT.out.keeps.drewN _⟩
    · obtain rfl : k = s.players.length := by omega
      have GP : Hid (s.players = t.players) := Lib.hid (by have := HE.out; rw [List.take_length, HPL.out, List.take_length] at this; exact this)
      clear HE hlt
      go_wp2_with fail
      clear a0 a1 a2 a3 a4 a5 a6 f0 f1 f2 f3 f4 f5 f6 b0 b1 b2 b3 b4 b5 b6 e0 e1 e2 e3 e4 e5 e6
      go_loopw [70] (fun vi wr => ∃ k : Nat, k ≤ s.cards.length ∧ vi = .int .i64 k ∧ Hid (s.cards.take k = t.cards.take k) ∧ Hid (SameAt w wr s t Ap Ac Az Ap' Ac' Az' cp cc cz cp' cc' cz' B)) (fun vi _ => s.cards.length - (intOf vi).toNat)
      case atStart => exact ⟨0, by omega, rfl, Lib.hid (by simp), TT⟩
      case round =>
        clear TT
        obtain ⟨k, hk, rfl, HE, TT⟩ := hrel
        obtain ⟨a0, a1, a2, a3, a4, a5, a6, f0, f1, f2, f3, f4, f5, f6⟩ := seven TT.out.box1
        obtain ⟨b0, b1, b2, b3, b4, b5, b6, e0, e1, e2, e3, e4, e5, e6⟩ := seven TT.out.box2
        by_cases hlt : k < s.cards.length
        · have hlt' : k < t.cards.length := by rw [← HCL.out]; exact hlt
          obtain ⟨g, off, hA, _, k0, k1, k2, k3, k4, k5⟩ := CdLies.cells TT.out.one.cards k s.cards[k] (List.getElem?_eq_getElem hlt)
          obtain ⟨g', off', hA', _, l0, l1, l2, l3, l4, l5⟩ := CdLies.cells TT.out.two.cards k t.cards[k] (List.getElem?_eq_getElem hlt')
          subst hA hA'
          have hq := fun w => ne_cd s.cards[k] t.cards[k] w
          by_cases hxy : s.cards[k] = t.cards[k]
          · have hs' : Hid (s.cards.take (k + 1) = t.cards.take (k + 1)) := Lib.hid (by rw [List.take_succ_eq_append_getElem hlt, List.take_succ_eq_append_getElem hlt', HE.out, hxy])
            rw [show (!decide (s.cards[k] = t.cards[k])) = false by rw [decide_eq_true hxy]; rfl] at hq
            clear hxy
            generalize s.cards[k] = c at *
            generalize t.cards[k] = c' at *
            go_wp2_with fail
            go_quiet (fail)
            go_wp2_with fail
            exact ⟨⟨k + 1, by omega, by first | rfl | go_num, hs', Lib.hid (TT.out.calm ((Keeps.refl _ _).drewN _) hB)⟩, by simp [intOf]; omega⟩
          · have hne : s ≠ t := fun e => hxy (by subst e; rfl)
            rw [show (!decide (s.cards[k] = t.cards[k])) = true by rw [decide_eq_false hxy]; rfl] at hq
            clear hxy
            generalize s.cards[k] = c at *
            generalize t.cards[k] = c' at *
            go_wp2_with fail
            go_quiet (fail)
            go_wp2_with fail
            go_ret
            exact ⟨by rw [decide_eq_false hne]; rfl, TT.out.keeps.drewN _⟩
        · obtain rfl : k = s.cards.length := by omega
          have GC : Hid (s.cards = t.cards) := Lib.hid (by have := HE.out; rw [List.take_length, HCL.out, List.take_length] at this; exact this)
          clear HE hlt
          go_wp2_with fail
          clear a0 a1 a2 a3 a4 a5 a6 f0 f1 f2 f3 f4 f5 f6 b0 b1 b2 b3 b4 b5 b6 e0 e1 e2 e3 e4 e5 e6
          refine (equalR_any s.zones t.zones Az Az' B B cz cz' _ TT.out.one.zones TT.out.two.zones SS.out.zones SS.out.rows).mono ?_
          rintro e w1 ⟨rfl, d3, rfl⟩
          have GE : Hid (decide (s.zones = t.zones) = decide (s = t)) := Lib.hid (decide_eq_decide.2 ⟨fun hp => by
            obtain ⟨p, c, z, a, b, d, f⟩ := s
            obtain ⟨p', c', z', a', b', d', f'⟩ := t
            simp only [St.mk.injEq]
            exact ⟨GP.out, GC.out, hp, G0.out, G1.out, G2.out, G3.out⟩, fun e => congrArg St.zones e⟩)
          go_wp2_with fail
          go_ret
          exact ⟨by rw [← GE.out]; rfl, TT.out.keeps.drewN _⟩
end Go.Proofs.YthmfbcfbcookiaaDoor
