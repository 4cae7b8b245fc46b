/-
  A state where a value says; its size; its copies; are two the same: the walks. Conditions: lengths within 10 ^ 9.
-/
import Derived.Test.YthmfbcfbcookiaaGreatDoorSt
import Derived.Test.YthmfbcfbcookiaaGreatDoorWMa
import Derived.Test.YthmfbcfbcookiaaGreatDoorWMb
import Derived.Test.YthmfbcfbcookiaaGreatDoorWMc
import Derived.Test.YthmfbcfbcookiaaGreatDoorEqRows
import Derived.Test.YthmfbcfbcookiaaGreatDoorWMe
namespace Go.Proofs.YthmfbcfbcookiaaGreatDoor
open Go.RowKit
/-- The value of a state: its three slices, its four numbers. -/
def stV (s : St) (Ap Ac Az : Option Addr) (cp cc cz : Nat) : Value := .agg #[.slice Ap s.players.length cp, .slice Ac s.cards.length cc, .slice Az s.zones.length cz, .int .i32 s.turn, .int .i64 s.whose, .int .i8 s.fin, .int .i64 s.winner]
structure StIn (w : World) (B : Nat) (s : St) (Ap Ac Az : Option Addr) : Prop where
  players : PlLies w B Ap s.players
  cards : CdLies w B Ac s.cards
  zones : RowsLie w B Az s.zones
section
variable {w w' : World} {B : Nat} {s : St} {Ap Ac Az : Option Addr}
theorem StIn.keeps {S : Nat → Prop} (h : StIn w B s Ap Ac Az) (hk : Keeps S w w') (hS : ∀ b, b < B → ¬ S b) (hB : B ≤ w.heap.size := by omega) : StIn w' B s Ap Ac Az := ⟨h.players.keeps hk hS hB, h.cards.keeps hk hS hB, h.zones.keeps hk hS hB⟩
theorem StIn.more {B' : Nat} (h : StIn w B s Ap Ac Az) (hB : B ≤ B') : StIn w B' s Ap Ac Az := ⟨h.players.more hB, h.cards.more hB, h.zones.more hB⟩
theorem StIn.drewN (h : StIn w B s Ap Ac Az) (n : Nat) : StIn (w.drewN n) B s Ap Ac Az := ⟨h.players, h.cards, h.zones⟩
theorem StIn.past (h : StIn w w.heap.size s Ap Ac Az) (hk : Keeps (fun _ => False) w w') : StIn w' w'.heap.size s Ap Ac Az := (h.keeps hk (fun _ _ => id) (Nat.le_refl _)).more hk.size
end
/-- Lengths that a walk bears. -/
structure StSmall (s : St) : Prop where
  players : s.players.length ≤ 1000000000
  cards : s.cards.length ≤ 1000000000
  zones : s.zones.length ≤ 1000000000
  rows : ∀ r ∈ s.zones, r.length ≤ 1000000000
/-- How many things a state holds. -/
def stSize (s : St) : Nat := s.players.length + s.cards.length + (s.zones.length + s.zones.flatten.length)
theorem small_of_size {s : St} (h : stSize s ≤ 16777216) : StSmall s := by
  unfold stSize at h
  refine ⟨by omega, by omega, by omega, fun r hr => ?_⟩
  have : r.length ≤ s.zones.flatten.length := by
    obtain ⟨a, b, e⟩ := List.append_of_mem hr
    rw [e]; simp; omega
  omega
theorem flat_take_next {α : Type} (xs : List (List α)) (i : Nat) (x : List α) (h : xs[i]? = some x) : (xs.take (i + 1)).flatten = (xs.take i).flatten ++ x := by
  rw [List.take_add_one, h]; simp
theorem flat_take_le {α : Type} (xs : List (List α)) (i : Nat) : (xs.take i).flatten.length ≤ xs.flatten.length := by
  conv => rhs; rw [← List.take_append_drop i xs]
  rw [List.flatten_append, List.length_append]; omega
/-- The count of elements, no further than the bound. -/
def sizeTo (n : Nat) : List (List Int) → Nat
  | [] => n
  | r :: l => if n ≤ 16777216 then sizeTo (n + r.length) l else n
theorem sizeTo_small (l : List (List Int)) : ∀ n, sizeTo n l ≤ 16777216 → sizeTo n l = n + l.flatten.length := by
  induction l with
  | nil => intro n _; simp [sizeTo]
  | cons r l ih =>
    intro n h
    unfold sizeTo at h ⊢
    split at h
    · rename_i hn
      rw [if_pos hn, ih _ h]; simp; omega
    · omega
theorem sizeTo_le (l : List (List Int)) (hr : ∀ r ∈ l, r.length ≤ 1000000000000000) : ∀ n, n ≤ 2000000000000000 → sizeTo n l ≤ 2000000000000000 := by
  induction l with
  | nil => intro n h; simpa [sizeTo] using h
  | cons r l ih =>
    intro n h
    unfold sizeTo
    split
    · exact ih (fun r hr' => hr r (by simp [hr'])) _ (by have := hr r (by simp); omega)
    · exact h
set_option maxHeartbeats 1000000 in
theorem sizeRows_any (xs : List (List Int)) (A : Option Addr) (B cap : Nat) (w : World) (hx : RowsLie w B A xs) (hl : xs.length ≤ 1000000000000000) (hr : ∀ r ∈ xs, r.length ≤ 1000000000000000) :
    Calls Tryz.prog 19 #[.slice A xs.length cap] w fun e w' => e = .returned (.int .i64 (sizeTo xs.length xs : Nat)) ∧ w' = w := by
  have HX := Lib.hid hx; clear hx
  go_enter Tryz.func19, Tryz.ntmps19
  go_wp2_with fail
  go_loopw [3, 4] (fun vn vi wr => ∃ (i n : Nat), i ≤ xs.length ∧ vi = .int .i64 i ∧ vn = .int .i64 n ∧ n ≤ 2000000000000000 ∧ Hid (sizeTo n (xs.drop i) = sizeTo xs.length xs) ∧ wr = w) (fun _ vi _ => xs.length - (intOf vi).toNat)
  case atStart => exact ⟨0, xs.length, by omega, rfl, rfl, by omega, Lib.hid rfl, rfl⟩
  case round =>
    obtain ⟨i, n, hi, rfl, rfl, hn, HN, rfl⟩ := hrel
    by_cases hlt : i < xs.length
    · obtain ⟨g, off, Ai, ci, rfl, hg, hc, hl2⟩ := HX.out i xs[i] (List.getElem?_eq_getElem hlt)
      have hri := hr xs[i] (List.getElem_mem hlt)
      have hd : xs.drop i = xs[i] :: xs.drop (i + 1) := List.drop_eq_getElem_cons hlt
      by_cases hb : n ≤ 16777216
      · have HS : Hid (sizeTo (n + xs[i].length) (xs.drop (i + 1)) = sizeTo xs.length xs) := Lib.hid (by have := HN.out; rw [hd, sizeTo, if_pos hb] at this; exact this)
        clear hd
        generalize xs[i] = x at *
        go_wp2_with fail
        go_roundw
        case rel => exact ⟨i + 1, n + x.length, by omega, by go_num, by go_num, by omega, HS, trivial⟩
        case measure => simp [intOf]; omega
      · have HS : Hid (n = sizeTo xs.length xs) := Lib.hid (by have := HN.out; rw [hd, sizeTo, if_neg hb] at this; exact this)
        clear hd
        go_wp2_with fail
        go_ret
        exact ⟨by rw [← HS.out]; rfl, rfl⟩
    · obtain rfl : i = xs.length := by omega
      have HS : Hid (n = sizeTo xs.length xs) := Lib.hid (by have := HN.out; rw [List.drop_length, sizeTo] at this; exact this)
      clear HN
      go_wp2_with fail
      go_ret
      exact ⟨by rw [← HS.out]; rfl, rfl⟩
/-- The size of a state, counted no further than the bound. -/
def stSizeTo (s : St) : Nat := s.players.length + s.cards.length + sizeTo s.zones.length s.zones
theorem stSizeTo_small {s : St} (h : stSizeTo s ≤ 16777216) : stSize s ≤ 16777216 := by
  unfold stSizeTo at h
  have := sizeTo_small s.zones s.zones.length (by omega)
  unfold stSize; omega
set_option maxHeartbeats 1000000 in
theorem sizeState_any (s : St) (Ap Ac Az : Option Addr) (B cp cc cz : Nat) (w : World) (hx : StIn w B s Ap Ac Az) (hB : B ≤ w.heap.size) (h1 : s.players.length ≤ 1000000000000000) (h2 : s.cards.length ≤ 1000000000000000) (h3 : s.zones.length ≤ 1000000000000000) (h4 : ∀ r ∈ s.zones, r.length ≤ 1000000000000000) :
    Calls Tryz.prog 5 #[stV s Ap Ac Az cp cc cz] w fun e w' => e = .returned (.int .i64 (stSizeTo s : Nat)) ∧ Keeps (fun _ => False) w w' := by
  have hz : RowsLie (w.alloc (.cells #[.slice Ap s.players.length cp, .slice Ac s.cards.length cc, .slice Az s.zones.length cz, .int .i32 s.turn, .int .i64 s.whose, .int .i8 s.fin, .int .i64 s.winner] 27)) B Az s.zones := hx.zones.keeps ((Keeps.refl (fun _ => False) w).alloc _) (fun _ _ => id) hB
  have hs := sizeTo_le s.zones h4 s.zones.length (by omega)
  have HS : Hid (stSizeTo s = s.players.length + s.cards.length + sizeTo s.zones.length s.zones) := Lib.hid rfl
  have HC := fun n => sizeRows_any s.zones Az B cz ((w.alloc (.cells #[.slice Ap s.players.length cp, .slice Ac s.cards.length cc, .slice Az s.zones.length cz, .int .i32 s.turn, .int .i64 s.whose, .int .i8 s.fin, .int .i64 s.winner] 27)).drewN n) (hz.drewN n) h3 h4
  generalize sizeTo s.zones.length s.zones = q at *
  unfold stV
  clear hz h4
  go_enter Tryz.func5, Tryz.ntmps5
  go_wp2_with fail
  go_quiet (first | (go_at_call 19; refine Calls.quiet_of_same (HC _)))
  go_wp2_with fail
  go_ret
  refine ⟨?_, ((Keeps.refl _ w).alloc _).drewN _⟩
  rw [HS.out, Int.natCast_add, Int.natCast_add]; rfl
/-- A result that lies in a block of its own. -/
theorem results_cell {P : Program} {fn : Func} {a : Tmp} {t : TypeId} (h : fn.results = #[.cell a t]) (tmps : Array Value) (g : Nat) (hp : tmps.getD a undef = .pointer (some ⟨g, 0, none⟩)) (cs : Array Value) (w : World) (hW : Whole w g t cs) (d : TypeDesc) (hu : P.underlying t = some d)
    (hd : (match d with | .struct _ | .array _ _ => true | _ => false) = true) (hi : (P.info? t).map (·.size) = some cs.size) : (results fn tmps).run P w = .ok (.agg cs) w := by
  have hl := run_loadVar_row (P := P) w g t t cs (0, 0) d hW hu hd hi
  have hp' : tmps[a]?.getD undef = .pointer (some ⟨g, 0, none⟩) := by rw [← Array.getD_eq_getD_getElem?]; exact hp
  simp [results, h, hp', asAddr, hl]
/-- A block of seven cells, known whole. -/
theorem seven {w : World} {g : Nat} {t : TypeId} {a b c d e f h : Value} (H : Whole w g t #[a, b, c, d, e, f, h]) :
    w.cell? ⟨g, 0, none⟩ = some a ∧ w.cell? ⟨g, 1, none⟩ = some b ∧ w.cell? ⟨g, 2, none⟩ = some c ∧ w.cell? ⟨g, 3, none⟩ = some d ∧ w.cell? ⟨g, 4, none⟩ = some e ∧ w.cell? ⟨g, 5, none⟩ = some f ∧ w.cell? ⟨g, 6, none⟩ = some h ∧
    w.frozen? ⟨g, 0, none⟩ = false ∧ w.frozen? ⟨g, 1, none⟩ = false ∧ w.frozen? ⟨g, 2, none⟩ = false ∧ w.frozen? ⟨g, 3, none⟩ = false ∧ w.frozen? ⟨g, 4, none⟩ = false ∧ w.frozen? ⟨g, 5, none⟩ = false ∧ w.frozen? ⟨g, 6, none⟩ = false :=
  ⟨H.cellAt 0, H.cellAt 1, H.cellAt 2, H.cellAt 3, H.cellAt 4, H.cellAt 5, H.cellAt 6, H.free 0, H.free 1, H.free 2, H.free 3, H.free 4, H.free 5, H.free 6⟩
/-- A marked copy of a state. -/
structure WideIn (w : World) (lo : Nat) (s : St) (gp gc gz : Nat) (cs : Array Value) (bs : Nat → Nat) : Prop where
  players : Whole w gp 44 (flat Pl.cells (widePl s.players)).toArray
  cards : Whole w gc 42 (flat Cd.cells (wideCd s.cards)).toArray
  zones : RowsUpto gz (wideR s.zones) w cs bs (s.zones.length + 64)
  newp : lo ≤ gp
  newc : lo ≤ gc
  newz : lo ≤ gz
theorem widePl_head (xs : List Pl) (i : Nat) (c : Pl) (h : xs[i]? = some c) : (widePl xs)[i]? = some c := by
  have hl := (List.getElem?_eq_some_iff.1 h).1
  rw [widePl_low xs i hl, ← h, List.getElem?_eq_getElem hl]
theorem wideCd_head (xs : List Cd) (i : Nat) (c : Cd) (h : xs[i]? = some c) : (wideCd xs)[i]? = some c := by
  have hl := (List.getElem?_eq_some_iff.1 h).1
  rw [wideCd_low xs i hl, ← h, List.getElem?_eq_getElem hl]
theorem RowsUpto.lie {w : World} {g : Nat} {xs : List (List Int)} {cs : Array Value} {bs : Nat → Nat} (h : RowsUpto g (wideR xs) w cs bs (xs.length + 64)) : RowsLie w w.heap.size (some ⟨g, 0, none⟩) xs := fun i r hi => by
  have hl := (List.getElem?_eq_some_iff.1 hi).1
  obtain ⟨h1, h2, h3⟩ := h.row i _ (by omega) (wideR_low xs i r hi)
  refine ⟨g, 0, some ⟨bs i, 0, none⟩, _, rfl, h.whole.inside, by rw [Nat.zero_add, h.whole.cellAt]; exact h1, ?_⟩
  refine Lies.whole h2 (fun k u hu => ?_) h2.inside
  rw [Nat.zero_add]
  have hk : k < r.length := by simpa using (List.getElem?_eq_some_iff.1 hu).1
  rw [wideL_low r k hk]
  simpa [hk] using hu
theorem WideIn.lies {w : World} {lo : Nat} {s : St} {gp gc gz : Nat} {cs : Array Value} {bs : Nat → Nat} (h : WideIn w lo s gp gc gz cs bs) : StIn w w.heap.size s (some ⟨gp, 0, none⟩) (some ⟨gc, 0, none⟩) (some ⟨gz, 0, none⟩) :=
  ⟨FLies.whole (f := Pl.cells) (k := 3) (fun _ => rfl) h.players (widePl_head _) h.players.inside, FLies.whole (f := Cd.cells) (k := 6) (fun _ => rfl) h.cards (wideCd_head _) h.cards.inside, h.zones.lie⟩
theorem RowsUpto.keeps {S : Nat → Prop} {w w' : World} {g i : Nat} {its : List (Nat × List Int)} {cs : Array Value} {bs : Nat → Nat} (h : RowsUpto g its w cs bs i) (hk : Keeps S w w') (hS : ∀ b, g ≤ b → ¬ S b) : RowsUpto g its w' cs bs i :=
  ⟨h.size, h.whole.keeps hk (hS g (Nat.le_refl _)), fun j it hj hit => by
    obtain ⟨h1, h2, h3⟩ := h.row j it hj hit
    exact ⟨h1, h2.keeps hk (hS _ (by omega)), h3⟩, h.rise⟩
theorem WideIn.keeps {S : Nat → Prop} {w w' : World} {lo : Nat} {s : St} {gp gc gz : Nat} {cs : Array Value} {bs : Nat → Nat} (h : WideIn w lo s gp gc gz cs bs) (hk : Keeps S w w') (hS : ∀ b, lo ≤ b → ¬ S b) : WideIn w' lo s gp gc gz cs bs :=
  ⟨h.players.keeps hk (hS _ h.newp), h.cards.keeps hk (hS _ h.newc), h.zones.keeps hk (fun b hb => hS b (Nat.le_trans h.newz hb)), h.newp, h.newc, h.newz⟩
set_option maxHeartbeats 1000000 in
theorem wideState_any (s : St) (Ap Ac Az : Option Addr) (B cp cc cz : Nat) (w : World) (hx : StIn w B s Ap Ac Az) (hB : B ≤ w.heap.size) (hs : StSmall s) :
    Calls Tryz.prog 6 #[stV s Ap Ac Az cp cc cz] w fun e w' => ∃ gp gc gz cs bs, e = .returned (stV s (some ⟨gp, 0, none⟩) (some ⟨gc, 0, none⟩) (some ⟨gz, 0, none⟩) (s.players.length + 64) (s.cards.length + 64) (s.zones.length + 64)) ∧ WideIn w' w.heap.size s gp gc gz cs bs ∧ Keeps (fun _ => False) w w' := by
  unfold stV
  have hsz : ((w.alloc (.cells #[.slice Ap s.players.length cp, .slice Ac s.cards.length cc, .slice Az s.zones.length cz, .int .i32 s.turn, .int .i64 s.whose, .int .i8 s.fin, .int .i64 s.winner] 27)).alloc (.cells #[.slice none 0 0, .slice none 0 0, .slice none 0 0, .int .i32 0, .int .i64 0, .int .i8 0, .int .i64 0] 27)).heap.size = w.heap.size + 2 := by simp
  have H0 := Lib.hid ((Whole.made w 27 #[.slice Ap s.players.length cp, .slice Ac s.cards.length cc, .slice Az s.zones.length cz, .int .i32 s.turn, .int .i64 s.whose, .int .i8 s.fin, .int .i64 s.winner]).alloc (.cells #[.slice none 0 0, .slice none 0 0, .slice none 0 0, .int .i32 0, .int .i64 0, .int .i8 0, .int .i64 0] 27))
  have R0 := Lib.hid (Whole.made (w.alloc (.cells #[.slice Ap s.players.length cp, .slice Ac s.cards.length cc, .slice Az s.zones.length cz, .int .i32 s.turn, .int .i64 s.whose, .int .i8 s.fin, .int .i64 s.winner] 27)) 27 #[.slice none 0 0, .slice none 0 0, .slice none 0 0, .int .i32 0, .int .i64 0, .int .i8 0, .int .i64 0])
  rw [show (w.alloc (.cells #[.slice Ap s.players.length cp, .slice Ac s.cards.length cc, .slice Az s.zones.length cz, .int .i32 s.turn, .int .i64 s.whose, .int .i8 s.fin, .int .i64 s.winner] 27)).heap.size = w.heap.size + 1 by simp] at R0
  have K0 := Lib.hid (((Keeps.refl (fun _ => False) w).alloc (.cells #[.slice Ap s.players.length cp, .slice Ac s.cards.length cc, .slice Az s.zones.length cz, .int .i32 s.turn, .int .i64 s.whose, .int .i8 s.fin, .int .i64 s.winner] 27)).alloc (.cells #[.slice none 0 0, .slice none 0 0, .slice none 0 0, .int .i32 0, .int .i64 0, .int .i8 0, .int .i64 0] 27))
  go_enter Tryz.func6, Tryz.ntmps6
  go_wp2_with fail
  generalize (w.alloc (.cells #[.slice Ap s.players.length cp, .slice Ac s.cards.length cc, .slice Az s.zones.length cz, .int .i32 s.turn, .int .i64 s.whose, .int .i8 s.fin, .int .i64 s.winner] 27)).alloc (.cells #[.slice none 0 0, .slice none 0 0, .slice none 0 0, .int .i32 0, .int .i64 0, .int .i8 0, .int .i64 0] 27) = w0 at *
  have X0 := Lib.hid (hx.keeps K0.out (fun _ _ => id) hB)
  refine (widePlayers_any s.players Ap cp w0 (X0.out.players.more (by omega)) hs.players).mono ?_
  rintro e w1 ⟨rfl, P1, k1⟩
  obtain ⟨gp, hgp⟩ : ∃ g, g = w0.heap.size := ⟨_, rfl⟩
  rw [← hgp] at P1
  rw [← hgp]
  have NP : Hid (w.heap.size + 2 ≤ gp) := Lib.hid (by omega)
  have X1 := Lib.hid (X0.out.keeps k1 (fun _ _ => id) (by omega))
  have H1 := Lib.hid (H0.out.keeps k1 id)
  have R1 := Lib.hid (R0.out.keeps k1 id)
  have K1 := Lib.hid (K0.out.trans k1)
  have Z1 : Hid (w0.heap.size ≤ w1.heap.size) := Lib.hid k1.size
  clear k1 X0 H0 R0 K0 hx
  clear hgp
  obtain ⟨a0, a1, a2, a3, a4, a5, a6, f0, f1, f2, f3, f4, f5, f6⟩ := seven H1.out
  go_wp2_with fail
  clear a0 a1 a2 a3 a4 a5 a6 f0 f1 f2 f3 f4 f5 f6
  have S1 : Hid (Keeps (fun b => b = w.heap.size) w1 (w1.setCell ⟨w.heap.size, 0, none⟩ (.slice (some ⟨gp, 0, none⟩) s.players.length (s.players.length + 64)))) := Lib.hid ((Keeps.refl (fun b => b = w.heap.size) w1).setCell (p := ⟨w.heap.size, 0, none⟩) (fun _ => rfl) _)
  have H1' := Lib.hid (H1.out.put 0 (.slice (some ⟨gp, 0, none⟩) s.players.length (s.players.length + 64)))
  have E1 : Hid ((w1.setCell ⟨w.heap.size, 0, none⟩ (.slice (some ⟨gp, 0, none⟩) s.players.length (s.players.length + 64))).heap.size = w1.heap.size) := Lib.hid (by simp [World.setCell])
  clear H1
  generalize w1.setCell ⟨w.heap.size, 0, none⟩ (.slice (some ⟨gp, 0, none⟩) s.players.length (s.players.length + 64)) = v1 at *
  have P1' := Lib.hid (P1.keeps S1.out (by have := NP.out; omega))
  have R1' := Lib.hid (R1.out.keeps S1.out (by omega))
  have X1' := Lib.hid (X1.out.keeps S1.out (fun b hb e => by omega) (by have := Z1.out; omega))
  have K1' := Lib.hid (K1.out.and S1.out (fun b hb e => by omega))
  clear P1 R1 X1 K1 S1
  refine (wideCards_any s.cards Ac cc v1 (X1'.out.cards.more (by have := Z1.out; have := E1.out; omega)) hs.cards).mono ?_
  rintro e w2 ⟨rfl, C2, k2⟩
  obtain ⟨gc, hgc⟩ : ∃ g, g = v1.heap.size := ⟨_, rfl⟩
  rw [← hgc] at C2
  rw [← hgc]
  have NC : Hid (w.heap.size + 2 ≤ gc) := Lib.hid (by have := Z1.out; have := E1.out; omega)
  have Z2 : Hid (w.heap.size + 2 ≤ w2.heap.size) := Lib.hid (by have := Z1.out; have := E1.out; have := k2.size; omega)
  have X2 := Lib.hid (X1'.out.keeps k2 (fun _ _ => id) (by have := Z1.out; have := E1.out; omega))
  have H2 := Lib.hid (H1'.out.keeps k2 id)
  have R2 := Lib.hid (R1'.out.keeps k2 id)
  have P2 := Lib.hid (P1'.out.keeps k2 id)
  have K2 := Lib.hid (K1'.out.trans k2)
  clear k2 X1' H1' R1' P1' K1' hgc E1 Z1
  obtain ⟨a0, a1, a2, a3, a4, a5, a6, f0, f1, f2, f3, f4, f5, f6⟩ := seven H2.out
  go_wp2_with fail
  clear a0 a1 a2 a3 a4 a5 a6 f0 f1 f2 f3 f4 f5 f6
  have S2 : Hid (Keeps (fun b => b = w.heap.size) w2 (w2.setCell ⟨w.heap.size, 1, none⟩ (.slice (some ⟨gc, 0, none⟩) s.cards.length (s.cards.length + 64)))) := Lib.hid ((Keeps.refl (fun b => b = w.heap.size) w2).setCell (p := ⟨w.heap.size, 1, none⟩) (fun _ => rfl) _)
  have H2' := Lib.hid (H2.out.put 1 (.slice (some ⟨gc, 0, none⟩) s.cards.length (s.cards.length + 64)))
  have E2 : Hid ((w2.setCell ⟨w.heap.size, 1, none⟩ (.slice (some ⟨gc, 0, none⟩) s.cards.length (s.cards.length + 64))).heap.size = w2.heap.size) := Lib.hid (by simp [World.setCell])
  clear H2
  generalize w2.setCell ⟨w.heap.size, 1, none⟩ (.slice (some ⟨gc, 0, none⟩) s.cards.length (s.cards.length + 64)) = v2 at *
  have C2' := Lib.hid (C2.keeps S2.out (by have := NC.out; omega))
  have P2' := Lib.hid (P2.out.keeps S2.out (by have := NP.out; omega))
  have R2' := Lib.hid (R2.out.keeps S2.out (by omega))
  have X2' := Lib.hid (X2.out.keeps S2.out (fun b hb e => by omega) (by have := Z2.out; omega))
  have K2' := Lib.hid (K2.out.and S2.out (fun b hb e => by omega))
  clear C2 P2 R2 X2 K2 S2
  refine (wideRows_any s.zones Az cz v2 (X2'.out.zones.more (by have := Z2.out; have := E2.out; omega)) hs.zones hs.rows).mono ?_
  rintro e w3 ⟨rfl, k3, cs, bs, U3⟩
  obtain ⟨gz, hgz⟩ : ∃ g, g = v2.heap.size := ⟨_, rfl⟩
  rw [← hgz] at U3
  rw [← hgz]
  have NZ : Hid (w.heap.size + 2 ≤ gz) := Lib.hid (by have := Z2.out; have := E2.out; omega)
  have H3 := Lib.hid (H2'.out.keeps k3 id)
  have R3 := Lib.hid (R2'.out.keeps k3 id)
  have P3 := Lib.hid (P2'.out.keeps k3 id)
  have C3 := Lib.hid (C2'.out.keeps k3 id)
  have K3 := Lib.hid (K2'.out.trans k3)
  have U3' := Lib.hid U3
  clear k3 X2' H2' R2' P2' C2' K2' hgz E2 Z2 U3
  obtain ⟨a0, a1, a2, a3, a4, a5, a6, f0, f1, f2, f3, f4, f5, f6⟩ := seven H3.out
  obtain ⟨b0, b1, b2, b3, b4, b5, b6, e0, e1, e2, e3, e4, e5, e6⟩ := seven R3.out
  have RF := Lib.hid ((((((((R3.out.putFar (p := ⟨w.heap.size, 2, none⟩) (by show w.heap.size + 1 ≠ w.heap.size; omega) (.slice (some ⟨gz, 0, none⟩) s.zones.length (s.zones.length + 64))).put 0 (.slice (some ⟨gp, 0, none⟩) s.players.length (s.players.length + 64))).put 1 (.slice (some ⟨gc, 0, none⟩) s.cards.length (s.cards.length + 64))).put 2 (.slice (some ⟨gz, 0, none⟩) s.zones.length (s.zones.length + 64))).put 3 (.int .i32 s.turn)).put 4 (.int .i64 s.whose)).put 5 (.int .i8 s.fin)).put 6 (.int .i64 s.winner))
  have KF := Lib.hid (((((((((Keeps.refl (fun b => b = w.heap.size ∨ b = w.heap.size + 1) w3).setCell (p := ⟨w.heap.size, 2, none⟩) (fun _ => .inl rfl) (.slice (some ⟨gz, 0, none⟩) s.zones.length (s.zones.length + 64))).setCell (p := ⟨w.heap.size + 1, 0, none⟩) (fun _ => .inr rfl) (.slice (some ⟨gp, 0, none⟩) s.players.length (s.players.length + 64))).setCell (p := ⟨w.heap.size + 1, 1, none⟩) (fun _ => .inr rfl) (.slice (some ⟨gc, 0, none⟩) s.cards.length (s.cards.length + 64))).setCell (p := ⟨w.heap.size + 1, 2, none⟩) (fun _ => .inr rfl) (.slice (some ⟨gz, 0, none⟩) s.zones.length (s.zones.length + 64))).setCell (p := ⟨w.heap.size + 1, 3, none⟩) (fun _ => .inr rfl) (.int .i32 s.turn)).setCell (p := ⟨w.heap.size + 1, 4, none⟩) (fun _ => .inr rfl) (.int .i64 s.whose)).setCell (p := ⟨w.heap.size + 1, 5, none⟩) (fun _ => .inr rfl) (.int .i8 s.fin)).setCell (p := ⟨w.heap.size + 1, 6, none⟩) (fun _ => .inr rfl) (.int .i64 s.winner))
  clear H3 R3
  go_wp2_with fail
  refine bodyPost_ret (results_cell rfl _ (w.heap.size + 1) rfl (#[.slice (some ⟨gp, 0, none⟩) s.players.length (s.players.length + 64), .slice (some ⟨gc, 0, none⟩) s.cards.length (s.cards.length + 64), .slice (some ⟨gz, 0, none⟩) s.zones.length (s.zones.length + 64), .int .i32 s.turn, .int .i64 s.whose, .int .i8 s.fin, .int .i64 s.winner]) _ RF.out _ Tryz.underlying27 rfl (by kernel_rfl)) rfl ?_
  refine ⟨gp, gc, gz, cs, bs, rfl, ⟨P3.out.keeps KF.out (by have := NP.out; omega), C3.out.keeps KF.out (by have := NC.out; omega), U3'.out.keeps KF.out (fun b hb h => by have := NZ.out; omega), by have := NP.out; omega, by have := NC.out; omega, by have := NZ.out; omega⟩, K3.out.and KF.out (fun b hb h => by omega)⟩
end Go.Proofs.YthmfbcfbcookiaaGreatDoor
/-
  Do the marks stand behind a state; are two states the same; a copy: the walks. Conditions: lengths within 10 ^ 9.
-/
namespace Go.Proofs.YthmfbcfbcookiaaGreatDoor
open Go.RowKit
set_option maxHeartbeats 1000000 in
theorem spareState_any (s : St) (gp gc gz lo : Nat) (cs : Array Value) (bs : Nat → Nat) (w : World) (hx : WideIn w lo s gp gc gz cs bs) (hs : StSmall s) :
    Calls Tryz.prog 12 #[stV s (some ⟨gp, 0, none⟩) (some ⟨gc, 0, none⟩) (some ⟨gz, 0, none⟩) (s.players.length + 64) (s.cards.length + 64) (s.zones.length + 64)] w fun e w' => e = .returned (.bool true) ∧ Keeps (fun _ => False) w w' := by
  unfold stV
  have HM := Lib.hid (Whole.made w 27 #[.slice (some ⟨gp, 0, none⟩) s.players.length (s.players.length + 64), .slice (some ⟨gc, 0, none⟩) s.cards.length (s.cards.length + 64), .slice (some ⟨gz, 0, none⟩) s.zones.length (s.zones.length + 64), .int .i32 s.turn, .int .i64 s.whose, .int .i8 s.fin, .int .i64 s.winner])
  have KK := Lib.hid ((Keeps.refl (fun _ => False) w).alloc (.cells #[.slice (some ⟨gp, 0, none⟩) s.players.length (s.players.length + 64), .slice (some ⟨gc, 0, none⟩) s.cards.length (s.cards.length + 64), .slice (some ⟨gz, 0, none⟩) s.zones.length (s.zones.length + 64), .int .i32 s.turn, .int .i64 s.whose, .int .i8 s.fin, .int .i64 s.winner] 27))
  have XX := Lib.hid (hx.keeps KK.out (fun _ _ => id))
  clear hx
  go_enter Tryz.func12, Tryz.ntmps12
  go_wp2_with fail
  generalize w.alloc (.cells #[.slice (some ⟨gp, 0, none⟩) s.players.length (s.players.length + 64), .slice (some ⟨gc, 0, none⟩) s.cards.length (s.cards.length + 64), .slice (some ⟨gz, 0, none⟩) s.zones.length (s.zones.length + 64), .int .i32 s.turn, .int .i64 s.whose, .int .i8 s.fin, .int .i64 s.winner] 27) = w0 at *
  refine (sparePlayers_any gp s.players w0 XX.out.players hs.players).mono ?_
  rintro e w1 ⟨rfl, k1⟩
  have HM1 := Lib.hid (HM.out.keeps k1 id)
  have XX1 := Lib.hid (XX.out.keeps k1 (fun _ _ => id))
  have KK1 := Lib.hid (KK.out.trans k1)
  clear HM XX KK k1
  obtain ⟨a0, a1, a2, a3, a4, a5, a6, f0, f1, f2, f3, f4, f5, f6⟩ := seven HM1.out
  go_wp2_with fail
  clear a0 a1 a2 a3 a4 a5 a6 f0 f1 f2 f3 f4 f5 f6
  refine (spareCards_any gc s.cards w1 XX1.out.cards hs.cards).mono ?_
  rintro e w2 ⟨rfl, k2⟩
  have HM2 := Lib.hid (HM1.out.keeps k2 id)
  have XX2 := Lib.hid (XX1.out.keeps k2 (fun _ _ => id))
  have KK2 := Lib.hid (KK1.out.trans k2)
  clear HM1 XX1 KK1 k2
  obtain ⟨a0, a1, a2, a3, a4, a5, a6, f0, f1, f2, f3, f4, f5, f6⟩ := seven HM2.out
  go_wp2_with fail
  clear a0 a1 a2 a3 a4 a5 a6 f0 f1 f2 f3 f4 f5 f6
  refine (spareRows_any gz s.zones cs bs w2 XX2.out.zones hs.zones hs.rows).mono ?_
  rintro e w3 ⟨rfl, d, rfl⟩
  go_wp2_with fail
  go_ret
  exact ⟨rfl, KK2.out.drewN _⟩
set_option maxHeartbeats 2000000 in
theorem eqState_any (s t : St) (Ap Ac Az Ap' Ac' Az' : Option Addr) (B cp cc cz cp' cc' cz' : Nat) (w : World) (hx : StIn w B s Ap Ac Az) (hy : StIn w B t Ap' Ac' Az') (hB : B ≤ w.heap.size) (hs : StSmall s) :
    Calls Tryz.prog 11 #[stV s Ap Ac Az cp cc cz, stV t Ap' Ac' Az' cp' cc' cz'] w fun e w' => e = .returned (.bool (decide (s = t))) ∧ Keeps (fun _ => False) w w' := by
  unfold stV
  have hK := ((Keeps.refl (fun _ => False) w).alloc (.cells #[.slice Ap s.players.length cp, .slice Ac s.cards.length cc, .slice Az s.zones.length cz, .int .i32 s.turn, .int .i64 s.whose, .int .i8 s.fin, .int .i64 s.winner] 27)).alloc (.cells #[.slice Ap' t.players.length cp', .slice Ac' t.cards.length cc', .slice Az' t.zones.length cz', .int .i32 t.turn, .int .i64 t.whose, .int .i8 t.fin, .int .i64 t.winner] 27)
  have KK := Lib.hid hK
  have XX := Lib.hid (hx.keeps hK (fun _ _ => id) hB)
  have YY := Lib.hid (hy.keeps hK (fun _ _ => id) hB)
  clear hx hy
  by_cases h0 : s.turn = t.turn
  rotate_left
  · have hne : s ≠ t := fun e => h0 (congrArg St.turn e)
    have q0 : (s.turn != t.turn) = true := by rw [bne_iff_ne]; exact h0
    clear h0 hK
    go_enter Tryz.func11, Tryz.ntmps11
    go_wp2_with fail
    go_ret
    exact ⟨by rw [decide_eq_false hne]; rfl, KK.out⟩
  have Q0 : Hid ((s.turn != t.turn) = false) := Lib.hid (by rw [h0]; simp)
  have G0 := Lib.hid h0
  clear h0
  by_cases h1 : s.whose = t.whose
  rotate_left
  · have hne : s ≠ t := fun e => h1 (congrArg St.whose e)
    have q1 : (s.whose != t.whose) = true := by rw [bne_iff_ne]; exact h1
    clear h1 hK
    have q0 := Q0.out
    go_enter Tryz.func11, Tryz.ntmps11
    go_wp2_with fail
    go_ret
    exact ⟨by rw [decide_eq_false hne]; rfl, KK.out⟩
  have Q1 : Hid ((s.whose != t.whose) = false) := Lib.hid (by rw [h1]; simp)
  have G1 := Lib.hid h1
  clear h1
  by_cases h2 : s.fin = t.fin
  rotate_left
  · have hne : s ≠ t := fun e => h2 (congrArg St.fin e)
    have q2 : (s.fin != t.fin) = true := by rw [bne_iff_ne]; exact h2
    clear h2 hK
    have q0 := Q0.out
    have q1 := Q1.out
    go_enter Tryz.func11, Tryz.ntmps11
    go_wp2_with fail
    go_ret
    exact ⟨by rw [decide_eq_false hne]; rfl, KK.out⟩
  have Q2 : Hid ((s.fin != t.fin) = false) := Lib.hid (by rw [h2]; simp)
  have G2 := Lib.hid h2
  clear h2
  by_cases h3 : s.winner = t.winner
  rotate_left
  · have hne : s ≠ t := fun e => h3 (congrArg St.winner e)
    have q3 : (s.winner != t.winner) = true := by rw [bne_iff_ne]; exact h3
    clear h3 hK
    have q0 := Q0.out
    have q1 := Q1.out
    have q2 := Q2.out
    go_enter Tryz.func11, Tryz.ntmps11
    go_wp2_with fail
    go_ret
    exact ⟨by rw [decide_eq_false hne]; rfl, KK.out⟩
  have Q3 : Hid ((s.winner != t.winner) = false) := Lib.hid (by rw [h3]; simp)
  have G3 := Lib.hid h3
  clear h3
  have q0 := Q0.out
  have q1 := Q1.out
  have q2 := Q2.out
  have q3 := Q3.out
  go_enter Tryz.func11, Tryz.ntmps11
  go_wp2_with fail
  clear q0 q1 q2 q3
  refine (eqPlayers_any s.players t.players Ap Ap' B B cp cp' _ XX.out.players YY.out.players hs.players).mono ?_
  rintro e w1 ⟨rfl, d1, rfl⟩
  by_cases hp : s.players = t.players
  rotate_left
  · have hne : s ≠ t := fun e => hp (congrArg St.players e)
    rw [decide_eq_false hp]
    clear hp
    go_wp2_with fail
    go_ret
    exact ⟨by rw [decide_eq_false hne]; rfl, KK.out.drewN _⟩
  rw [decide_eq_true hp]
  have G4 := Lib.hid hp
  clear hp
  go_wp2_with fail
  refine (eqCards_any s.cards t.cards Ac Ac' B B cc cc' _ (XX.out.drewN d1).cards (YY.out.drewN d1).cards hs.cards).mono ?_
  rintro e w1 ⟨rfl, d2, rfl⟩
  by_cases hp : s.cards = t.cards
  rotate_left
  · have hne : s ≠ t := fun e => hp (congrArg St.cards e)
    rw [decide_eq_false hp]
    clear hp
    go_wp2_with fail
    go_ret
    exact ⟨by rw [decide_eq_false hne]; rfl, KK.out.drewN _⟩
  rw [decide_eq_true hp]
  have G5 := Lib.hid hp
  clear hp
  go_wp2_with fail
  refine (eqRows_any s.zones t.zones Az Az' B B cz cz' _ (XX.out.drewN (d1 + d2)).zones (YY.out.drewN (d1 + d2)).zones hs.zones hs.rows).mono ?_
  rintro e w1 ⟨rfl, d3, rfl⟩
  by_cases hp : s.zones = t.zones
  rotate_left
  · have hne : s ≠ t := fun e => hp (congrArg St.zones e)
    rw [decide_eq_false hp]
    clear hp
    go_wp2_with fail
    go_ret
    exact ⟨by rw [decide_eq_false hne]; rfl, KK.out.drewN _⟩
  rw [decide_eq_true hp]
  have he : s = t := by
    obtain ⟨p, c, z, a, b, d, f⟩ := s
    obtain ⟨p', c', z', a', b', d', f'⟩ := t
    simp only [St.mk.injEq]
    exact ⟨G4.out, G5.out, hp, G0.out, G1.out, G2.out, G3.out⟩
  have GE := Lib.hid (decide_eq_true he)
  clear hp he
  go_wp2_with fail
  go_ret
  exact ⟨by rw [GE.out]; rfl, KK.out.drewN _⟩
theorem RowsOwn.mono {w : World} {B : Nat} {v : Value} {rows : List (List Int)} {cells : List Value} (h : RowsOwn w B v rows cells) {base' : Nat} (hb : base' ≤ B) : RowsOwn w base' v rows cells :=
  ⟨h.own.mono hb, fun i r hi => by
    obtain ⟨Ai, ci, hc, ho⟩ := h.row i r hi
    exact ⟨Ai, ci, hc, ho.mono hb⟩⟩
/-- A copy of a state, in memory of its own. -/
structure CopyIn (w : World) (lo : Nat) (s : St) (Ap Ac Az : Option Addr) (cp cc cz : Nat) (cells : List Value) : Prop where
  players : w.ownsRow lo 44 3 (.slice Ap s.players.length cp) s.players.length (flat Pl.cells s.players)
  cards : w.ownsRow lo 42 6 (.slice Ac s.cards.length cc) s.cards.length (flat Cd.cells s.cards)
  zones : RowsOwn w lo (.slice Az s.zones.length cz) s.zones cells
theorem CopyIn.lies {w : World} {lo : Nat} {s : St} {Ap Ac Az : Option Addr} {cp cc cz : Nat} {cells : List Value} (h : CopyIn w lo s Ap Ac Az cp cc cz cells) : StIn w w.heap.size s Ap Ac Az :=
  ⟨Lies.flies (fun _ => rfl) (by decide) (own_lies_n h.players), Lies.flies (fun _ => rfl) (by decide) (own_lies_n h.cards), h.zones.lie⟩
theorem CopyIn.keeps {S : Nat → Prop} {w w' : World} {lo : Nat} {s : St} {Ap Ac Az : Option Addr} {cp cc cz : Nat} {cells : List Value} (h : CopyIn w lo s Ap Ac Az cp cc cz cells) (hk : Keeps S w w') (hS : ∀ b, lo ≤ b → ¬ S b) : CopyIn w' lo s Ap Ac Az cp cc cz cells :=
  ⟨own_keepsS h.players hk fun b hb => hS b (h.players.lt b hb).1, own_keepsS h.cards hk fun b hb => hS b (h.cards.lt b hb).1, h.zones.keeps hk hS⟩
set_option maxHeartbeats 2000000 in
theorem copyState_any (s : St) (Ap Ac Az : Option Addr) (B cp cc cz : Nat) (w : World) (hx : StIn w B s Ap Ac Az) (hB : B ≤ w.heap.size) (hs : StSmall s) :
    Calls Tryz.prog 14 #[stV s Ap Ac Az cp cc cz] w fun e w' => ∃ Aq Ad Ay cq cd cy cells, e = .returned (stV s Aq Ad Ay cq cd cy) ∧ CopyIn w' w.heap.size s Aq Ad Ay cq cd cy cells ∧ Keeps (fun _ => False) w w' := by
  unfold stV
  have hsz : ((w.alloc (.cells #[.slice Ap s.players.length cp, .slice Ac s.cards.length cc, .slice Az s.zones.length cz, .int .i32 s.turn, .int .i64 s.whose, .int .i8 s.fin, .int .i64 s.winner] 27)).alloc (.cells #[.slice none 0 0, .slice none 0 0, .slice none 0 0, .int .i32 0, .int .i64 0, .int .i8 0, .int .i64 0] 27)).heap.size = w.heap.size + 2 := by simp
  have H0 := Lib.hid ((Whole.made w 27 #[.slice Ap s.players.length cp, .slice Ac s.cards.length cc, .slice Az s.zones.length cz, .int .i32 s.turn, .int .i64 s.whose, .int .i8 s.fin, .int .i64 s.winner]).alloc (.cells #[.slice none 0 0, .slice none 0 0, .slice none 0 0, .int .i32 0, .int .i64 0, .int .i8 0, .int .i64 0] 27))
  have R0 := Lib.hid (Whole.made (w.alloc (.cells #[.slice Ap s.players.length cp, .slice Ac s.cards.length cc, .slice Az s.zones.length cz, .int .i32 s.turn, .int .i64 s.whose, .int .i8 s.fin, .int .i64 s.winner] 27)) 27 #[.slice none 0 0, .slice none 0 0, .slice none 0 0, .int .i32 0, .int .i64 0, .int .i8 0, .int .i64 0])
  rw [show (w.alloc (.cells #[.slice Ap s.players.length cp, .slice Ac s.cards.length cc, .slice Az s.zones.length cz, .int .i32 s.turn, .int .i64 s.whose, .int .i8 s.fin, .int .i64 s.winner] 27)).heap.size = w.heap.size + 1 by simp] at R0
  have K0 := Lib.hid (((Keeps.refl (fun _ => False) w).alloc (.cells #[.slice Ap s.players.length cp, .slice Ac s.cards.length cc, .slice Az s.zones.length cz, .int .i32 s.turn, .int .i64 s.whose, .int .i8 s.fin, .int .i64 s.winner] 27)).alloc (.cells #[.slice none 0 0, .slice none 0 0, .slice none 0 0, .int .i32 0, .int .i64 0, .int .i8 0, .int .i64 0] 27))
  go_enter Tryz.func14, Tryz.ntmps14
  go_wp2_with fail
  generalize (w.alloc (.cells #[.slice Ap s.players.length cp, .slice Ac s.cards.length cc, .slice Az s.zones.length cz, .int .i32 s.turn, .int .i64 s.whose, .int .i8 s.fin, .int .i64 s.winner] 27)).alloc (.cells #[.slice none 0 0, .slice none 0 0, .slice none 0 0, .int .i32 0, .int .i64 0, .int .i8 0, .int .i64 0] 27) = w0 at *
  have X0 := Lib.hid (hx.keeps K0.out (fun _ _ => id) hB)
  refine (copyPlayers_any s.players Ap cp w0 (X0.out.players.more (by omega)) hs.players).mono ?_
  rintro e w1 ⟨Aq, cq, rfl, P1, k1⟩
  rw [hsz] at P1
  have X1 := Lib.hid (X0.out.keeps k1 (fun _ _ => id) (by omega))
  have H1 := Lib.hid (H0.out.keeps k1 id)
  have R1 := Lib.hid (R0.out.keeps k1 id)
  have K1 := Lib.hid (K0.out.trans k1)
  have Z1 : Hid (w0.heap.size ≤ w1.heap.size) := Lib.hid k1.size
  clear k1 X0 H0 R0 K0 hx
  obtain ⟨a0, a1, a2, a3, a4, a5, a6, f0, f1, f2, f3, f4, f5, f6⟩ := seven H1.out
  go_wp2_with fail
  clear a0 a1 a2 a3 a4 a5 a6 f0 f1 f2 f3 f4 f5 f6
  have S1 : Hid (Keeps (fun b => b = w.heap.size) w1 (w1.setCell ⟨w.heap.size, 0, none⟩ (.slice Aq s.players.length cq))) := Lib.hid ((Keeps.refl (fun b => b = w.heap.size) w1).setCell (p := ⟨w.heap.size, 0, none⟩) (fun _ => rfl) _)
  have H1' := Lib.hid (H1.out.put 0 (.slice Aq s.players.length cq))
  have E1 : Hid ((w1.setCell ⟨w.heap.size, 0, none⟩ (.slice Aq s.players.length cq)).heap.size = w1.heap.size) := Lib.hid (by simp [World.setCell])
  clear H1
  generalize w1.setCell ⟨w.heap.size, 0, none⟩ (.slice Aq s.players.length cq) = v1 at *
  have P1' := Lib.hid (own_keepsS P1 S1.out (fun b hb e => by have := (P1.lt b hb).1; omega))
  have R1' := Lib.hid (R1.out.keeps S1.out (by omega))
  have X1' := Lib.hid (X1.out.keeps S1.out (fun b hb e => by omega) (by have := Z1.out; omega))
  have K1' := Lib.hid (K1.out.and S1.out (fun b hb e => by omega))
  clear P1 R1 X1 K1 S1
  refine (copyCards_any s.cards Ac cc v1 (X1'.out.cards.more (by have := Z1.out; have := E1.out; omega)) hs.cards).mono ?_
  rintro e w2 ⟨Ad, cd, rfl, C2, k2⟩
  replace C2 := C2.mono (base' := w.heap.size + 2) (by have := Z1.out; have := E1.out; omega)
  have Z2 : Hid (w.heap.size + 2 ≤ w2.heap.size) := Lib.hid (by have := Z1.out; have := E1.out; have := k2.size; omega)
  have X2 := Lib.hid (X1'.out.keeps k2 (fun _ _ => id) (by have := Z1.out; have := E1.out; omega))
  have H2 := Lib.hid (H1'.out.keeps k2 id)
  have R2 := Lib.hid (R1'.out.keeps k2 id)
  have P2 := Lib.hid (own_keepsS P1'.out k2 (fun _ _ => id))
  have K2 := Lib.hid (K1'.out.trans k2)
  clear k2 X1' H1' R1' P1' K1' E1 Z1
  obtain ⟨a0, a1, a2, a3, a4, a5, a6, f0, f1, f2, f3, f4, f5, f6⟩ := seven H2.out
  go_wp2_with fail
  clear a0 a1 a2 a3 a4 a5 a6 f0 f1 f2 f3 f4 f5 f6
  have S2 : Hid (Keeps (fun b => b = w.heap.size) w2 (w2.setCell ⟨w.heap.size, 1, none⟩ (.slice Ad s.cards.length cd))) := Lib.hid ((Keeps.refl (fun b => b = w.heap.size) w2).setCell (p := ⟨w.heap.size, 1, none⟩) (fun _ => rfl) _)
  have H2' := Lib.hid (H2.out.put 1 (.slice Ad s.cards.length cd))
  have E2 : Hid ((w2.setCell ⟨w.heap.size, 1, none⟩ (.slice Ad s.cards.length cd)).heap.size = w2.heap.size) := Lib.hid (by simp [World.setCell])
  clear H2
  generalize w2.setCell ⟨w.heap.size, 1, none⟩ (.slice Ad s.cards.length cd) = v2 at *
  have C2' := Lib.hid (own_keepsS C2 S2.out (fun b hb e => by have := (C2.lt b hb).1; omega))
  have P2' := Lib.hid (own_keepsS P2.out S2.out (fun b hb e => by have := (P2.out.lt b hb).1; omega))
  have R2' := Lib.hid (R2.out.keeps S2.out (by omega))
  have X2' := Lib.hid (X2.out.keeps S2.out (fun b hb e => by omega) (by have := Z2.out; omega))
  have K2' := Lib.hid (K2.out.and S2.out (fun b hb e => by omega))
  clear C2 P2 R2 X2 K2 S2
  refine (copyRows_any s.zones Az cz v2 (X2'.out.zones.more (by have := Z2.out; have := E2.out; omega)) hs.zones hs.rows).mono ?_
  rintro e w3 ⟨Ay, cy, cells, rfl, U3, k3⟩
  replace U3 := U3.mono (base' := w.heap.size + 2) (by have := Z2.out; have := E2.out; omega)
  have H3 := Lib.hid (H2'.out.keeps k3 id)
  have R3 := Lib.hid (R2'.out.keeps k3 id)
  have P3 := Lib.hid (own_keepsS P2'.out k3 (fun _ _ => id))
  have C3 := Lib.hid (own_keepsS C2'.out k3 (fun _ _ => id))
  have K3 := Lib.hid (K2'.out.trans k3)
  have U3' := Lib.hid U3
  clear k3 X2' H2' R2' P2' C2' K2' E2 Z2 U3
  obtain ⟨a0, a1, a2, a3, a4, a5, a6, f0, f1, f2, f3, f4, f5, f6⟩ := seven H3.out
  obtain ⟨b0, b1, b2, b3, b4, b5, b6, e0, e1, e2, e3, e4, e5, e6⟩ := seven R3.out
  have RF := Lib.hid ((((((((R3.out.putFar (p := ⟨w.heap.size, 2, none⟩) (by show w.heap.size + 1 ≠ w.heap.size; omega) (.slice Ay s.zones.length cy)).put 0 (.slice Aq s.players.length cq)).put 1 (.slice Ad s.cards.length cd)).put 2 (.slice Ay s.zones.length cy)).put 3 (.int .i32 s.turn)).put 4 (.int .i64 s.whose)).put 5 (.int .i8 s.fin)).put 6 (.int .i64 s.winner))
  have KF := Lib.hid (((((((((Keeps.refl (fun b => b = w.heap.size ∨ b = w.heap.size + 1) w3).setCell (p := ⟨w.heap.size, 2, none⟩) (fun _ => .inl rfl) (.slice Ay s.zones.length cy)).setCell (p := ⟨w.heap.size + 1, 0, none⟩) (fun _ => .inr rfl) (.slice Aq s.players.length cq)).setCell (p := ⟨w.heap.size + 1, 1, none⟩) (fun _ => .inr rfl) (.slice Ad s.cards.length cd)).setCell (p := ⟨w.heap.size + 1, 2, none⟩) (fun _ => .inr rfl) (.slice Ay s.zones.length cy)).setCell (p := ⟨w.heap.size + 1, 3, none⟩) (fun _ => .inr rfl) (.int .i32 s.turn)).setCell (p := ⟨w.heap.size + 1, 4, none⟩) (fun _ => .inr rfl) (.int .i64 s.whose)).setCell (p := ⟨w.heap.size + 1, 5, none⟩) (fun _ => .inr rfl) (.int .i8 s.fin)).setCell (p := ⟨w.heap.size + 1, 6, none⟩) (fun _ => .inr rfl) (.int .i64 s.winner))
  clear H3 R3
  go_wp2_with fail
  refine bodyPost_ret (results_cell rfl _ (w.heap.size + 1) rfl (#[.slice Aq s.players.length cq, .slice Ad s.cards.length cd, .slice Ay s.zones.length cy, .int .i32 s.turn, .int .i64 s.whose, .int .i8 s.fin, .int .i64 s.winner]) _ RF.out _ Tryz.underlying27 rfl (by kernel_rfl)) rfl ?_
  refine ⟨Aq, Ad, Ay, cq, cd, cy, cells, rfl, ⟨(own_keepsS P3.out KF.out (fun b hb h => by have := (P3.out.lt b hb).1; omega)).mono (by omega), (own_keepsS C3.out KF.out (fun b hb h => by have := (C3.out.lt b hb).1; omega)).mono (by omega), (U3'.out.keeps KF.out (fun b hb h => by omega)).mono (by omega)⟩, K3.out.and KF.out (fun b hb h => by omega)⟩
end Go.Proofs.YthmfbcfbcookiaaGreatDoor
