/-
  A state where a value says; its size; its copies; are two the same: the walks. Conditions: lengths within 10 ^ 9.
-/
import Derived.Test.YthmfbcfbcookiaaDoorSt
import Derived.Test.YthmfbcfbcookiaaDoorWMa
import Derived.Test.YthmfbcfbcookiaaDoorWMb
import Derived.Test.YthmfbcfbcookiaaDoorWMc
import Derived.Test.YthmfbcfbcookiaaDoorEqRows
import Derived.Test.YthmfbcfbcookiaaDoorWMe
namespace Go.Proofs.YthmfbcfbcookiaaDoor
open Go.RowKit
/-- The value of a state: its three slices, its four numbers. -/
def stV (s : St) (Ap Ac Az : Option Addr) (cp cc cz : Nat) : Value := .agg #[.slice Ap s.players.length cp, .slice Ac s.cards.length cc, .slice Az s.zones.length cz, .int .i32 s.turn, .int .i64 s.whose, .int .i8 s.fin, .int .i64 s.winner]
structure StIn (w : World) (B : Nat) (s : St) (Ap Ac Az : Option Addr) : Prop where
  players : PlLies w B Ap s.players
  cards : CdLies w B Ac s.cards
  zones : RowsLie w B Az s.zones
section
variable {w w' : World} {B : Nat} {s : St} {Ap Ac Az : Option Addr}
theorem StIn.keeps {S : Nat → Prop} (h : StIn w B s Ap Ac Az) (hk : Keeps S w w') (hS : ∀ b, b < B → ¬ S b) (hB : B ≤ w.heap.size := by omega) : StIn w' B s Ap Ac Az := ⟨h.players.keeps hk hS hB, h.cards.keeps hk hS hB, h.zones.keeps hk hS hB⟩
theorem StIn.more {B' : Nat} (h : StIn w B s Ap Ac Az) (hB : B ≤ B') : StIn w B' s Ap Ac Az := ⟨h.players.more hB, h.cards.more hB, h.zones.more hB⟩
theorem StIn.drewN (h : StIn w B s Ap Ac Az) (n : Nat) : StIn (w.drewN n) B s Ap Ac Az := ⟨h.players, h.cards, h.zones⟩
theorem StIn.past (h : StIn w w.heap.size s Ap Ac Az) (hk : Keeps (fun _ => False) w w') : StIn w' w'.heap.size s Ap Ac Az := (h.keeps hk (fun _ _ => id) (Nat.le_refl _)).more hk.size
end
/-- Lengths that a walk bears. -/
structure StSmall (s : St) : Prop where
  players : s.players.length ≤ 1000000000
  cards : s.cards.length ≤ 1000000000
  zones : s.zones.length ≤ 1000000000
  rows : ∀ r ∈ s.zones, r.length ≤ 1000000000
/-- How many things a state holds. -/
def stSize (s : St) : Nat := s.players.length + s.cards.length + (s.zones.length + s.zones.flatten.length)
theorem small_of_size {s : St} (h : stSize s ≤ 16777216) : StSmall s := by
  unfold stSize at h
  refine ⟨by omega, by omega, by omega, fun r hr => ?_⟩
  have : r.length ≤ s.zones.flatten.length := by
    obtain ⟨a, b, e⟩ := List.append_of_mem hr
    rw [e]; simp; omega
  omega
theorem flat_take_next {α : Type} (xs : List (List α)) (i : Nat) (x : List α) (h : xs[i]? = some x) : (xs.take (i + 1)).flatten = (xs.take i).flatten ++ x := by
  rw [List.take_add_one, h]; simp
theorem flat_take_le {α : Type} (xs : List (List α)) (i : Nat) : (xs.take i).flatten.length ≤ xs.flatten.length := by
  conv => rhs; rw [← List.take_append_drop i xs]
  rw [List.flatten_append, List.length_append]; omega
/-- The count of elements, no further than the bound. -/
def sizeTo (n : Nat) : List (List Int) → Nat
  | [] => n
  | r :: l => if n ≤ 16777216 then sizeTo (n + r.length) l else n
theorem sizeTo_small (l : List (List Int)) : ∀ n, sizeTo n l ≤ 16777216 → sizeTo n l = n + l.flatten.length := by
  induction l with
  | nil => intro n _; simp [sizeTo]
  | cons r l ih =>
    intro n h
    unfold sizeTo at h ⊢
    split at h
    · rename_i hn
      rw [if_pos hn, ih _ h]; simp; omega
    · omega
theorem sizeTo_le (l : List (List Int)) (hr : ∀ r ∈ l, r.length ≤ 1000000000000000) : ∀ n, n ≤ 2000000000000000 → sizeTo n l ≤ 2000000000000000 := by
  induction l with
  | nil => intro n h; simpa [sizeTo] using h
  | cons r l ih =>
    intro n h
    unfold sizeTo
    split
    · exact ih (fun r hr' => hr r (by simp [hr'])) _ (by have := hr r (by simp); omega)
    · exact h
set_option maxHeartbeats 1000000 in
theorem sizeRows_any (xs : List (List Int)) (A : Option Addr) (B cap : Nat) (w : World) (hx : RowsLie w B A xs) (hl : xs.length ≤ 1000000000000000) (hr : ∀ r ∈ xs, r.length ≤ 1000000000000000) :
    Calls Tryd.prog 24 #[.slice A xs.length cap] w fun e w' => e = .returned (.int .i64 (sizeTo xs.length xs : Nat)) ∧ w' = w := by
  have HX := Lib.hid hx; clear hx
  go_enter Tryd.func24, Tryd.ntmps24
  go_wp2_with fail
  go_loopw [3, 4] (fun vn vi wr => ∃ (i n : Nat), i ≤ xs.length ∧ vi = .int .i64 i ∧ vn = .int .i64 n ∧ n ≤ 2000000000000000 ∧ Hid (sizeTo n (xs.drop i) = sizeTo xs.length xs) ∧ wr = w) (fun _ vi _ => xs.length - (intOf vi).toNat)
  case atStart => exact ⟨0, xs.length, by omega, rfl, rfl, by omega, Lib.hid rfl, rfl⟩
  case round =>
    obtain ⟨i, n, hi, rfl, rfl, hn, HN, rfl⟩ := hrel
    by_cases hlt : i < xs.length
    · obtain ⟨g, off, Ai, ci, rfl, hg, hc, hl2⟩ := HX.out i xs[i] (List.getElem?_eq_getElem hlt)
      have hri := hr xs[i] (List.getElem_mem hlt)
      have hd : xs.drop i = xs[i] :: xs.drop (i + 1) := List.drop_eq_getElem_cons hlt
      by_cases hb : n ≤ 16777216
      · have HS : Hid (sizeTo (n + xs[i].length) (xs.drop (i + 1)) = sizeTo xs.length xs) := Lib.hid (by have := HN.out; rw [hd, sizeTo, if_pos hb] at this; exact this)
        clear hd
        generalize xs[i] = x at *
        go_wp2_with fail
        go_roundw
        case rel => exact ⟨i + 1, n + x.length, by omega, by go_num, by go_num, by omega, HS, trivial⟩
        case measure => simp [intOf]; omega
      · have HS : Hid (n = sizeTo xs.length xs) := Lib.hid (by have := HN.out; rw [hd, sizeTo, if_neg hb] at this; exact this)
        clear hd
        go_wp2_with fail
        go_ret
        exact ⟨by rw [← HS.out]; rfl, rfl⟩
    · obtain rfl : i = xs.length := by omega
      have HS : Hid (n = sizeTo xs.length xs) := Lib.hid (by have := HN.out; rw [List.drop_length, sizeTo] at this; exact this)
      clear HN
      go_wp2_with fail
      go_ret
      exact ⟨by rw [← HS.out]; rfl, rfl⟩
/-- The size of a state, counted no further than the bound. -/
def stSizeTo (s : St) : Nat := s.players.length + s.cards.length + sizeTo s.zones.length s.zones
theorem stSizeTo_small {s : St} (h : stSizeTo s ≤ 16777216) : stSize s ≤ 16777216 := by
  unfold stSizeTo at h
  have := sizeTo_small s.zones s.zones.length (by omega)
  unfold stSize; omega
set_option maxHeartbeats 1000000 in
theorem sizeState_any (s : St) (Ap Ac Az : Option Addr) (B cp cc cz : Nat) (w : World) (hx : StIn w B s Ap Ac Az) (hB : B ≤ w.heap.size) (h1 : s.players.length ≤ 1000000000000000) (h2 : s.cards.length ≤ 1000000000000000) (h3 : s.zones.length ≤ 1000000000000000) (h4 : ∀ r ∈ s.zones, r.length ≤ 1000000000000000) :
    Calls Tryd.prog 8 #[stV s Ap Ac Az cp cc cz] w fun e w' => e = .returned (.int .i64 (stSizeTo s : Nat)) ∧ Keeps (fun _ => False) w w' := by
  have hz : RowsLie (w.alloc (.cells #[.slice Ap s.players.length cp, .slice Ac s.cards.length cc, .slice Az s.zones.length cz, .int .i32 s.turn, .int .i64 s.whose, .int .i8 s.fin, .int .i64 s.winner] 27)) B Az s.zones := hx.zones.keeps ((Keeps.refl (fun _ => False) w).alloc _) (fun _ _ => id) hB
  have hs := sizeTo_le s.zones h4 s.zones.length (by omega)
  have HS : Hid (stSizeTo s = s.players.length + s.cards.length + sizeTo s.zones.length s.zones) := Lib.hid rfl
  have HC := fun n => sizeRows_any s.zones Az B cz ((w.alloc (.cells #[.slice Ap s.players.length cp, .slice Ac s.cards.length cc, .slice Az s.zones.length cz, .int .i32 s.turn, .int .i64 s.whose, .int .i8 s.fin, .int .i64 s.winner] 27)).drewN n) (hz.drewN n) h3 h4
  generalize sizeTo s.zones.length s.zones = q at *
  unfold stV
  clear hz h4
  go_enter Tryd.func8, Tryd.ntmps8
  go_wp2_with fail
  go_quiet (first | (go_at_call 24; refine Calls.quiet_of_same (HC _)))
  go_wp2_with fail
  go_ret
  refine ⟨?_, ((Keeps.refl _ w).alloc _).drewN _⟩
  rw [HS.out, Int.natCast_add, Int.natCast_add]; rfl
/-- A result that lies in a block of its own. -/
theorem results_cell {P : Program} {fn : Func} {a : Tmp} {t : TypeId} (h : fn.results = #[.cell a t]) (tmps : Array Value) (g : Nat) (hp : tmps.getD a undef = .pointer (some ⟨g, 0, none⟩)) (cs : Array Value) (w : World) (hW : Whole w g t cs) (d : TypeDesc) (hu : P.underlying t = some d)
    (hd : (match d with | .struct _ | .array _ _ => true | _ => false) = true) (hi : (P.info? t).map (·.size) = some cs.size) : (results fn tmps).run P w = .ok (.agg cs) w := by
  have hl := run_loadVar_row (P := P) w g t t cs (0, 0) d hW hu hd hi
  have hp' : tmps[a]?.getD undef = .pointer (some ⟨g, 0, none⟩) := by rw [← Array.getD_eq_getD_getElem?]; exact hp
  simp [results, h, hp', asAddr, hl]
/-- A block of seven cells, known whole. -/
theorem seven {w : World} {g : Nat} {t : TypeId} {a b c d e f h : Value} (H : Whole w g t #[a, b, c, d, e, f, h]) :
    w.cell? ⟨g, 0, none⟩ = some a ∧ w.cell? ⟨g, 1, none⟩ = some b ∧ w.cell? ⟨g, 2, none⟩ = some c ∧ w.cell? ⟨g, 3, none⟩ = some d ∧ w.cell? ⟨g, 4, none⟩ = some e ∧ w.cell? ⟨g, 5, none⟩ = some f ∧ w.cell? ⟨g, 6, none⟩ = some h ∧
    w.frozen? ⟨g, 0, none⟩ = false ∧ w.frozen? ⟨g, 1, none⟩ = false ∧ w.frozen? ⟨g, 2, none⟩ = false ∧ w.frozen? ⟨g, 3, none⟩ = false ∧ w.frozen? ⟨g, 4, none⟩ = false ∧ w.frozen? ⟨g, 5, none⟩ = false ∧ w.frozen? ⟨g, 6, none⟩ = false :=
  ⟨H.cellAt 0, H.cellAt 1, H.cellAt 2, H.cellAt 3, H.cellAt 4, H.cellAt 5, H.cellAt 6, H.free 0, H.free 1, H.free 2, H.free 3, H.free 4, H.free 5, H.free 6⟩
/-- A marked copy of a state. -/
structure WideIn (w : World) (lo : Nat) (s : St) (gp gc gz : Nat) (cs : Array Value) (bs : Nat → Nat) : Prop where
  players : Whole w gp 75 (flat Pl.cells (widePl s.players)).toArray
  cards : Whole w gc 78 (flat Cd.cells (wideCd s.cards)).toArray
  zones : RowsUpto gz (wideR s.zones) w cs bs (s.zones.length + 64)
  newp : lo ≤ gp
  newc : lo ≤ gc
  newz : lo ≤ gz
theorem widePl_head (xs : List Pl) (i : Nat) (c : Pl) (h : xs[i]? = some c) : (widePl xs)[i]? = some c := by
  have hl := (List.getElem?_eq_some_iff.1 h).1
  rw [widePl_low xs i hl, ← h, List.getElem?_eq_getElem hl]
theorem wideCd_head (xs : List Cd) (i : Nat) (c : Cd) (h : xs[i]? = some c) : (wideCd xs)[i]? = some c := by
  have hl := (List.getElem?_eq_some_iff.1 h).1
  rw [wideCd_low xs i hl, ← h, List.getElem?_eq_getElem hl]
theorem RowsUpto.lie {w : World} {g : Nat} {xs : List (List Int)} {cs : Array Value} {bs : Nat → Nat} (h : RowsUpto g (wideR xs) w cs bs (xs.length + 64)) : RowsLie w w.heap.size (some ⟨g, 0, none⟩) xs := fun i r hi => by
  have hl := (List.getElem?_eq_some_iff.1 hi).1
  obtain ⟨h1, h2, h3⟩ := h.row i _ (by omega) (wideR_low xs i r hi)
  refine ⟨g, 0, some ⟨bs i, 0, none⟩, _, rfl, h.whole.inside, by rw [Nat.zero_add, h.whole.cellAt]; exact h1, ?_⟩
  refine Lies.whole h2 (fun k u hu => ?_) h2.inside
  rw [Nat.zero_add]
  have hk : k < r.length := by simpa using (List.getElem?_eq_some_iff.1 hu).1
  rw [wideL_low r k hk]
  simpa [hk] using hu
theorem WideIn.lies {w : World} {lo : Nat} {s : St} {gp gc gz : Nat} {cs : Array Value} {bs : Nat → Nat} (h : WideIn w lo s gp gc gz cs bs) : StIn w w.heap.size s (some ⟨gp, 0, none⟩) (some ⟨gc, 0, none⟩) (some ⟨gz, 0, none⟩) :=
  ⟨FLies.whole (f := Pl.cells) (k := 3) (fun _ => rfl) h.players (widePl_head _) h.players.inside, FLies.whole (f := Cd.cells) (k := 6) (fun _ => rfl) h.cards (wideCd_head _) h.cards.inside, h.zones.lie⟩
theorem RowsUpto.keeps {S : Nat → Prop} {w w' : World} {g i : Nat} {its : List (Nat × List Int)} {cs : Array Value} {bs : Nat → Nat} (h : RowsUpto g its w cs bs i) (hk : Keeps S w w') (hS : ∀ b, g ≤ b → ¬ S b) : RowsUpto g its w' cs bs i :=
  ⟨h.size, h.whole.keeps hk (hS g (Nat.le_refl _)), fun j it hj hit => by
    obtain ⟨h1, h2, h3⟩ := h.row j it hj hit
    exact ⟨h1, h2.keeps hk (hS _ (by omega)), h3⟩, h.rise⟩
theorem WideIn.keeps {S : Nat → Prop} {w w' : World} {lo : Nat} {s : St} {gp gc gz : Nat} {cs : Array Value} {bs : Nat → Nat} (h : WideIn w lo s gp gc gz cs bs) (hk : Keeps S w w') (hS : ∀ b, lo ≤ b → ¬ S b) : WideIn w' lo s gp gc gz cs bs :=
  ⟨h.players.keeps hk (hS _ h.newp), h.cards.keeps hk (hS _ h.newc), h.zones.keeps hk (fun b hb => hS b (Nat.le_trans h.newz hb)), h.newp, h.newc, h.newz⟩
end Go.Proofs.YthmfbcfbcookiaaDoor
/-
  Do the marks stand behind a state; are two states the same; a copy: the walks. Conditions: lengths within 10 ^ 9.
-/
namespace Go.Proofs.YthmfbcfbcookiaaDoor
open Go.RowKit
set_option maxHeartbeats 2000000 in
theorem eqState_any (s t : St) (Ap Ac Az Ap' Ac' Az' : Option Addr) (B cp cc cz cp' cc' cz' : Nat) (w : World) (hx : StIn w B s Ap Ac Az) (hy : StIn w B t Ap' Ac' Az') (hB : B ≤ w.heap.size) (hs : StSmall s) :
    Calls Tryd.prog 13 #[stV s Ap Ac Az cp cc cz, stV t Ap' Ac' Az' cp' cc' cz'] w fun e w' => e = .returned (.bool (decide (s = t))) ∧ Keeps (fun _ => False) w w' := by
  unfold stV
  have hK := ((Keeps.refl (fun _ => False) w).alloc (.cells #[.slice Ap s.players.length cp, .slice Ac s.cards.length cc, .slice Az s.zones.length cz, .int .i32 s.turn, .int .i64 s.whose, .int .i8 s.fin, .int .i64 s.winner] 27)).alloc (.cells #[.slice Ap' t.players.length cp', .slice Ac' t.cards.length cc', .slice Az' t.zones.length cz', .int .i32 t.turn, .int .i64 t.whose, .int .i8 t.fin, .int .i64 t.winner] 27)
  have KK := Lib.hid hK
  have XX := Lib.hid (hx.keeps hK (fun _ _ => id) hB)
  have YY := Lib.hid (hy.keeps hK (fun _ _ => id) hB)
  clear hx hy
  by_cases h0 : s.turn = t.turn
  rotate_left
  · have hne : s ≠ t := fun e => h0 (congrArg St.turn e)
    have q0 : (s.turn != t.turn) = true := by rw [bne_iff_ne]; exact h0
    clear h0 hK
    go_enter Tryd.func13, Tryd.ntmps13
    go_wp2_with fail
    go_ret
    exact ⟨by rw [decide_eq_false hne]; rfl, KK.out⟩
  have Q0 : Hid ((s.turn != t.turn) = false) := Lib.hid (by rw [h0]; simp)
  have G0 := Lib.hid h0
  clear h0
  by_cases h1 : s.whose = t.whose
  rotate_left
  · have hne : s ≠ t := fun e => h1 (congrArg St.whose e)
    have q1 : (s.whose != t.whose) = true := by rw [bne_iff_ne]; exact h1
    clear h1 hK
    have q0 := Q0.out
    go_enter Tryd.func13, Tryd.ntmps13
    go_wp2_with fail
    go_ret
    exact ⟨by rw [decide_eq_false hne]; rfl, KK.out⟩
  have Q1 : Hid ((s.whose != t.whose) = false) := Lib.hid (by rw [h1]; simp)
  have G1 := Lib.hid h1
  clear h1
  by_cases h2 : s.fin = t.fin
  rotate_left
  · have hne : s ≠ t := fun e => h2 (congrArg St.fin e)
    have q2 : (s.fin != t.fin) = true := by rw [bne_iff_ne]; exact h2
    clear h2 hK
    have q0 := Q0.out
    have q1 := Q1.out
    go_enter Tryd.func13, Tryd.ntmps13
    go_wp2_with fail
    go_ret
    exact ⟨by rw [decide_eq_false hne]; rfl, KK.out⟩
  have Q2 : Hid ((s.fin != t.fin) = false) := Lib.hid (by rw [h2]; simp)
  have G2 := Lib.hid h2
  clear h2
  by_cases h3 : s.winner = t.winner
  rotate_left
  · have hne : s ≠ t := fun e => h3 (congrArg St.winner e)
    have q3 : (s.winner != t.winner) = true := by rw [bne_iff_ne]; exact h3
    clear h3 hK
    have q0 := Q0.out
    have q1 := Q1.out
    have q2 := Q2.out
    go_enter Tryd.func13, Tryd.ntmps13
    go_wp2_with fail
    go_ret
    exact ⟨by rw [decide_eq_false hne]; rfl, KK.out⟩
  have Q3 : Hid ((s.winner != t.winner) = false) := Lib.hid (by rw [h3]; simp)
  have G3 := Lib.hid h3
  clear h3
  have q0 := Q0.out
  have q1 := Q1.out
  have q2 := Q2.out
  have q3 := Q3.out
  go_enter Tryd.func13, Tryd.ntmps13
  go_wp2_with fail
  clear q0 q1 q2 q3
  refine (eqPlayers_any s.players t.players Ap Ap' B B cp cp' _ XX.out.players YY.out.players hs.players).mono ?_
  rintro e w1 ⟨rfl, d1, rfl⟩
  by_cases hp : s.players = t.players
  rotate_left
  · have hne : s ≠ t := fun e => hp (congrArg St.players e)
    rw [decide_eq_false hp]
    clear hp
    go_wp2_with fail
    go_ret
    exact ⟨by rw [decide_eq_false hne]; rfl, KK.out.drewN _⟩
  rw [decide_eq_true hp]
  have G4 := Lib.hid hp
  clear hp
  go_wp2_with fail
  refine (eqCards_any s.cards t.cards Ac Ac' B B cc cc' _ (XX.out.drewN d1).cards (YY.out.drewN d1).cards hs.cards).mono ?_
  rintro e w1 ⟨rfl, d2, rfl⟩
  by_cases hp : s.cards = t.cards
  rotate_left
  · have hne : s ≠ t := fun e => hp (congrArg St.cards e)
    rw [decide_eq_false hp]
    clear hp
    go_wp2_with fail
    go_ret
    exact ⟨by rw [decide_eq_false hne]; rfl, KK.out.drewN _⟩
  rw [decide_eq_true hp]
  have G5 := Lib.hid hp
  clear hp
  go_wp2_with fail
  refine (eqRows_any s.zones t.zones Az Az' B B cz cz' _ (XX.out.drewN (d1 + d2)).zones (YY.out.drewN (d1 + d2)).zones hs.zones hs.rows).mono ?_
  rintro e w1 ⟨rfl, d3, rfl⟩
  by_cases hp : s.zones = t.zones
  rotate_left
  · have hne : s ≠ t := fun e => hp (congrArg St.zones e)
    rw [decide_eq_false hp]
    clear hp
    go_wp2_with fail
    go_ret
    exact ⟨by rw [decide_eq_false hne]; rfl, KK.out.drewN _⟩
  rw [decide_eq_true hp]
  have he : s = t := by
    obtain ⟨p, c, z, a, b, d, f⟩ := s
    obtain ⟨p', c', z', a', b', d', f'⟩ := t
    simp only [St.mk.injEq]
    exact ⟨G4.out, G5.out, hp, G0.out, G1.out, G2.out, G3.out⟩
  have GE := Lib.hid (decide_eq_true he)
  clear hp he
  go_wp2_with fail
  go_ret
  exact ⟨by rw [GE.out]; rfl, KK.out.drewN _⟩
theorem RowsOwn.mono {w : World} {B : Nat} {v : Value} {rows : List (List Int)} {cells : List Value} (h : RowsOwn w B v rows cells) {base' : Nat} (hb : base' ≤ B) : RowsOwn w base' v rows cells :=
  ⟨h.own.mono hb, fun i r hi => by
    obtain ⟨Ai, ci, hc, ho⟩ := h.row i r hi
    exact ⟨Ai, ci, hc, ho.mono hb⟩⟩
/-- A copy of a state, in memory of its own. -/
structure CopyIn (w : World) (lo : Nat) (s : St) (Ap Ac Az : Option Addr) (cp cc cz : Nat) (cells : List Value) : Prop where
  players : w.ownsRow lo 75 3 (.slice Ap s.players.length cp) s.players.length (flat Pl.cells s.players)
  cards : w.ownsRow lo 78 6 (.slice Ac s.cards.length cc) s.cards.length (flat Cd.cells s.cards)
  zones : RowsOwn w lo (.slice Az s.zones.length cz) s.zones cells
theorem CopyIn.lies {w : World} {lo : Nat} {s : St} {Ap Ac Az : Option Addr} {cp cc cz : Nat} {cells : List Value} (h : CopyIn w lo s Ap Ac Az cp cc cz cells) : StIn w w.heap.size s Ap Ac Az :=
  ⟨Lies.flies (fun _ => rfl) (by decide) (own_lies_n h.players), Lies.flies (fun _ => rfl) (by decide) (own_lies_n h.cards), h.zones.lie⟩
theorem CopyIn.keeps {S : Nat → Prop} {w w' : World} {lo : Nat} {s : St} {Ap Ac Az : Option Addr} {cp cc cz : Nat} {cells : List Value} (h : CopyIn w lo s Ap Ac Az cp cc cz cells) (hk : Keeps S w w') (hS : ∀ b, lo ≤ b → ¬ S b) : CopyIn w' lo s Ap Ac Az cp cc cz cells :=
  ⟨own_keepsS h.players hk fun b hb => hS b (h.players.lt b hb).1, own_keepsS h.cards hk fun b hb => hS b (h.cards.lt b hb).1, h.zones.keeps hk hS⟩
end Go.Proofs.YthmfbcfbcookiaaDoor
