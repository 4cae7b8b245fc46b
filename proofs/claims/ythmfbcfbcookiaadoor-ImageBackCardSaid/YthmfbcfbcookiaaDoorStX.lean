/-
  Do the marks stand behind a state; are two states the same; a copy: the walks. Conditions: lengths within 10 ^ 9.
-/
import Derived.Test.YthmfbcfbcookiaaDoorStW
namespace Go.Proofs.YthmfbcfbcookiaaDoor
open Go.RowKit
set_option maxHeartbeats 2000000 in
theorem eqState_any (s t : St) (Ap Ac Az Ap' Ac' Az' : Option Addr) (B cp cc cz cp' cc' cz' : Nat) (w : World) (hx : StIn w B s Ap Ac Az) (hy : StIn w B t Ap' Ac' Az') (hB : B ≤ w.heap.size) (hs : StSmall s) :
    Calls Tryd.prog 13 #[stV s Ap Ac Az cp cc cz, stV t Ap' Ac' Az' cp' cc' cz'] w fun e w' => e = .returned (.bool (decide (s = t))) ∧ Keeps (fun _ => False) w w' := by
  unfold stV
  have hK := ((Keeps.refl (fun _ => False) w).alloc (.cells #[.slice Ap s.players.length cp, .slice Ac s.cards.length cc, .slice Az s.zones.length cz, .int .i32 s.turn, .int .i64 s.whose, .int .i8 s.fin, .int .i64 s.winner] 27)).alloc (.cells #[.slice Ap' t.players.length cp', .slice Ac' t.cards.length cc', .slice Az' t.zones.length cz', .int .i32 t.turn, .int .i64 t.whose, .int .i8 t.fin, .int .i64 t.winner] 27)
  have KK := Lib.hid hK
  have XX := Lib.hid (hx.keeps hK (fun _ _ => id) hB)
  have YY := Lib.hid (hy.keeps hK (fun _ _ => id) hB)
  clear hx hy
  by_cases h0 : s.turn = t.turn
  rotate_left
  · have hne : s ≠ t := fun e => h0 (congrArg St.turn e)
    have q0 : (s.turn != t.turn) = true := by rw [bne_iff_ne]; exact h0
    clear h0 hK
    go_enter Tryd.func13, Tryd.ntmps13
    go_wp2_with fail
    go_ret
    exact ⟨by rw [decide_eq_false hne]; rfl, KK.out⟩
  have Q0 : Hid ((s.turn != t.turn) = false) := Lib.hid (by rw [h0]; simp)
  have G0 := Lib.hid h0
  clear h0
  by_cases h1 : s.whose = t.whose
  rotate_left
  · have hne : s ≠ t := fun e => h1 (congrArg St.whose e)
    have q1 : (s.whose != t.whose) = true := by rw [bne_iff_ne]; exact h1
    clear h1 hK
    have q0 := Q0.out
    go_enter Tryd.func13, Tryd.ntmps13
    go_wp2_with fail
    go_ret
    exact ⟨by rw [decide_eq_false hne]; rfl, KK.out⟩
  have Q1 : Hid ((s.whose != t.whose) = false) := Lib.hid (by rw [h1]; simp)
  have G1 := Lib.hid h1
  clear h1
  by_cases h2 : s.fin = t.fin
  rotate_left
  · have hne : s ≠ t := fun e => h2 (congrArg St.fin e)
    have q2 : (s.fin != t.fin) = true := by rw [bne_iff_ne]; exact h2
    clear h2 hK
    have q0 := Q0.out
    have q1 := Q1.out
    go_enter Tryd.func13, Tryd.ntmps13
    go_wp2_with fail
    go_ret
    exact ⟨by rw [decide_eq_false hne]; rfl, KK.out⟩
  have Q2 : Hid ((s.fin != t.fin) = false) := Lib.hid (by rw [h2]; simp)
  have G2 := Lib.hid h2
  clear h2
  by_cases h3 : s.winner = t.winner
  rotate_left
  · have hne : s ≠ t := fun e => h3 (congrArg St.winner e)
    have q3 : (s.winner != t.winner) = true := by rw [bne_iff_ne]; exact h3
    clear h3 hK
    have q0 := Q0.out
    have q1 := Q1.out
    have q2 := Q2.out
    go_enter Tryd.func13, Tryd.ntmps13
    go_wp2_with fail
    go_ret
    exact ⟨by rw [decide_eq_false hne]; rfl, KK.out⟩
  have Q3 : Hid ((s.winner != t.winner) = false) := Lib.hid (by rw [h3]; simp)
  have G3 := Lib.hid h3
  clear h3
  have q0 := Q0.out
  have q1 := Q1.out
  have q2 := Q2.out
  have q3 := Q3.out
  go_enter Tryd.func13, Tryd.ntmps13
  go_wp2_with fail
  clear q0 q1 q2 q3
  refine (eqPlayers_any s.players t.players Ap Ap' B B cp cp' _ XX.out.players YY.out.players hs.players).mono ?_
  rintro e w1 ⟨rfl, d1, rfl⟩
  by_cases hp : s.players = t.players
  rotate_left
  · have hne : s ≠ t := fun e => hp (congrArg St.players e)
    rw [decide_eq_false hp]
    clear hp
    go_wp2_with fail
    go_ret
    exact ⟨by rw [decide_eq_false hne]; rfl, KK.out.drewN _⟩
  rw [decide_eq_true hp]
  have G4 := Lib.hid hp
  clear hp
  go_wp2_with fail
  refine (eqCards_any s.cards t.cards Ac Ac' B B cc cc' _ (XX.out.drewN d1).cards (YY.out.drewN d1).cards hs.cards).mono ?_
  rintro e w1 ⟨rfl, d2, rfl⟩
  by_cases hp : s.cards = t.cards
  rotate_left
  · have hne : s ≠ t := fun e => hp (congrArg St.cards e)
    rw [decide_eq_false hp]
    clear hp
    go_wp2_with fail
    go_ret
    exact ⟨by rw [decide_eq_false hne]; rfl, KK.out.drewN _⟩
  rw [decide_eq_true hp]
  have G5 := Lib.hid hp
  clear hp
  go_wp2_with fail
  refine (eqRows_any s.zones t.zones Az Az' B B cz cz' _ (XX.out.drewN (d1 + d2)).zones (YY.out.drewN (d1 + d2)).zones hs.zones hs.rows).mono ?_
  rintro e w1 ⟨rfl, d3, rfl⟩
  by_cases hp : s.zones = t.zones
  rotate_left
  · have hne : s ≠ t := fun e => hp (congrArg St.zones e)
    rw [decide_eq_false hp]
    clear hp
    go_wp2_with fail
    go_ret
    exact ⟨by rw [decide_eq_false hne]; rfl, KK.out.drewN _⟩
  rw [decide_eq_true hp]
  have he : s = t := by
    obtain ⟨p, c, z, a, b, d, f⟩ := s
    obtain ⟨p', c', z', a', b', d', f'⟩ := t
    simp only [St.mk.injEq]
    exact ⟨G4.out, G5.out, hp, G0.out, G1.out, G2.out, G3.out⟩
  have GE := Lib.hid (decide_eq_true he)
  clear hp he
  go_wp2_with fail
  go_ret
  exact ⟨by rw [GE.out]; rfl, KK.out.drewN _⟩
theorem RowsOwn.mono {w : World} {B : Nat} {v : Value} {rows : List (List Int)} {cells : List Value} (h : RowsOwn w B v rows cells) {base' : Nat} (hb : base' ≤ B) : RowsOwn w base' v rows cells :=
  ⟨h.own.mono hb, fun i r hi => by
    obtain ⟨Ai, ci, hc, ho⟩ := h.row i r hi
    exact ⟨Ai, ci, hc, ho.mono hb⟩⟩
/-- A copy of a state, in memory of its own. -/
structure CopyIn (w : World) (lo : Nat) (s : St) (Ap Ac Az : Option Addr) (cp cc cz : Nat) (cells : List Value) : Prop where
  players : w.ownsRow lo 75 3 (.slice Ap s.players.length cp) s.players.length (flat Pl.cells s.players)
  cards : w.ownsRow lo 78 6 (.slice Ac s.cards.length cc) s.cards.length (flat Cd.cells s.cards)
  zones : RowsOwn w lo (.slice Az s.zones.length cz) s.zones cells
theorem CopyIn.lies {w : World} {lo : Nat} {s : St} {Ap Ac Az : Option Addr} {cp cc cz : Nat} {cells : List Value} (h : CopyIn w lo s Ap Ac Az cp cc cz cells) : StIn w w.heap.size s Ap Ac Az :=
  ⟨Lies.flies (fun _ => rfl) (by decide) (own_lies_n h.players), Lies.flies (fun _ => rfl) (by decide) (own_lies_n h.cards), h.zones.lie⟩
theorem CopyIn.keeps {S : Nat → Prop} {w w' : World} {lo : Nat} {s : St} {Ap Ac Az : Option Addr} {cp cc cz : Nat} {cells : List Value} (h : CopyIn w lo s Ap Ac Az cp cc cz cells) (hk : Keeps S w w') (hS : ∀ b, lo ≤ b → ¬ S b) : CopyIn w' lo s Ap Ac Az cp cc cz cells :=
  ⟨own_keepsS h.players hk fun b hb => hS b (h.players.lt b hb).1, own_keepsS h.cards hk fun b hb => hS b (h.cards.lt b hb).1, h.zones.keeps hk hS⟩
end Go.Proofs.YthmfbcfbcookiaaDoor
