/-
  rows.Heap of Thing: what goes ahead: the walks. Conditions: lengths within 10 ^ 9.
-/
import Derived.Test.YtbfhbekocgdceaaHaI
import Derived.Deep.RegionHeld3
namespace Go.Proofs.Ytbfhbekocgdceaa
open Go.RowKit
/-- A thing of a heap, and when it came. -/
structure EnT where
  rank : Int
  name : Int
  came : Int
def EnT.cells (e : EnT) : List Value := [.int .i64 e.rank, .int .i64 e.name, .int .i64 e.came]
def ltT (a b : EnT) : Bool := decide (a.rank < b.rank)
def ahT (a b : EnT) : Bool := ltT a b || (!ltT b a && decide (a.came < b.came))
/-- A heap in memory. -/
structure HeapT (w : World) (p : Nat) (A : Option Addr) (c : Nat) (l : List EnT) (came : Int) : Prop where
  box : Whole w p 41 #[.func (.func 12) #[] #[], .slice A l.length c, .int .i64 came]
  own : w.ownsRow (p + 1) 116 3 (.slice A l.length c) l.length (flat EnT.cells l)
theorem HeapT.calm {w w' : World} {p c : Nat} {A : Option Addr} {l : List EnT} {came : Int} {S : Nat → Prop} (h : HeapT w p A c l came) (hk : Keeps S w w') (hp : ¬ S p) (hS : ∀ b, (Value.slice A l.length c).ownBlock = some b → ¬ S b) : HeapT w' p A c l came := by
  refine ⟨h.box.keeps hk hp, ⟨h.own.1, ?_⟩⟩
  rcases h.own.2 with hn | ⟨g, cap, cur, hv, hb, hh, rest⟩
  · exact .inl hn
  · exact .inr ⟨g, cap, cur, hv, hb, (hk.block g (Array.getElem?_eq_some_iff.1 hh).1 (hS g (by rw [hv]; rfl))).trans hh, rest⟩
/-- Where its things lie. -/
theorem HeapT.at_ {w : World} {p c : Nat} {A : Option Addr} {l : List EnT} {came : Int} (h : HeapT w p A c l came) {i : Nat} {e : EnT} (hi : l[i]? = some e) : ∃ g, A = some ⟨g, 0, none⟩ ∧ p < g ∧ g < w.heap.size ∧ ∀ W, Keeps (fun _ => False) w W → W.cell? ⟨g, i * 3, none⟩ = some (.int .i64 e.rank) ∧ W.cell? ⟨g, i * 3 + 1, none⟩ = some (.int .i64 e.name) ∧ W.cell? ⟨g, i * 3 + 2, none⟩ = some (.int .i64 e.came) := by
  have hl := (List.getElem?_eq_some_iff.1 hi).1
  rcases h.own.2 with ⟨_, h0⟩ | ⟨g, cap, cur, hv, hb, hh, _⟩
  · omega
  · injection hv with h1 h2 h3
    subst h1
    have hlt := (Array.getElem?_eq_some_iff.1 hh).1
    refine ⟨g, rfl, by omega, hlt, fun W hk => ?_⟩
    have hc : ∀ j, j < 3 → W.cell? ⟨g, i * 3 + j, none⟩ = e.cells[j]? := fun j hj => by
      rw [hk.cell hlt id]
      have hm : i * 3 + j < l.length * 3 := by omega
      rw [own_cells h.own rfl hm]
      exact flat_get (k := 3) (fun _ => rfl) l i e hi j hj
    exact ⟨hc 0 (by decide), hc 1 (by decide), hc 2 (by decide)⟩
set_option maxRecDepth 100000 in
theorem lessT_any (a b : EnT) (w : World) : Calls Try.prog 12 #[.agg #[.int .i64 a.rank, .int .i64 a.name], .agg #[.int .i64 b.rank, .int .i64 b.name]] w fun e w' => e = .returned (.bool (ltT a b)) ∧ Keeps (fun _ => False) w w' := by
  go_enter Try.func12, Try.ntmps12
  go_wp2_with fail
  go_ret
  exact ⟨rfl, ((Keeps.refl _ w).alloc _).alloc _⟩
theorem pairAT (w : World) (x y : Array Value) : Whole (((w.alloc (.cells x 116)).alloc (.cells y 116)).drew) w.heap.size 116 x ∧ Whole (((w.alloc (.cells x 116)).alloc (.cells y 116)).drew) (w.heap.size + 1) 116 y := by
  have h1 := ((Whole.made w 116 x).alloc (.cells y 116)).drew
  have h2 := (Whole.made (w.alloc (.cells x 116)) 116 y).drew
  rw [show (w.alloc (.cells x 116)).heap.size = w.heap.size + 1 by simp] at h2
  exact ⟨h1, h2⟩
theorem nofT (w : World) : (binOp .eql 31 (.func (.func 12) #[] #[]) .nilFunc).run Try.prog w = .ok (.bool false) w := by kernel_rfl
set_option maxRecDepth 100000 in
theorem hnoneT_any (p : Nat) (w : World) (h0 : w.cell? ⟨p, 0, none⟩ = some (.func (.func 12) #[] #[])) :
    Calls Try.prog 65 #[.pointer (some ⟨p, 0, none⟩)] w fun e w' => e = .returned (.bool false) ∧ w' = w := by
  have hq := fun w => nofT w
  go_enter Try.func65, Try.ntmps65
  go_wp2_with fail
  go_ret
  exact ⟨rfl, rfl⟩
set_option maxRecDepth 100000 in
set_option maxHeartbeats 4000000 in
theorem aheadT_any (p c i k : Nat) (came : Int) (A : Option Addr) (l : List EnT) (ei ek : EnT) (w : World) (h : HeapT w p A c l came) (hi : l[i]? = some ei) (hk : l[k]? = some ek) :
    Calls Try.prog 66 #[.pointer (some ⟨p, 0, none⟩), .int .i64 i, .int .i64 k] w fun e w' => e = .returned (.bool (ahT ei ek)) ∧ Keeps (fun _ => False) w w' := by
  have hil := (List.getElem?_eq_some_iff.1 hi).1
  have hkl := (List.getElem?_eq_some_iff.1 hk).1
  obtain ⟨g, hA, hpg, hgw, HI⟩ := h.at_ hi
  obtain ⟨g', hA', _, _, HK⟩ := h.at_ hk
  obtain rfl : g = g' := by rw [hA] at hA'; injection hA' with h1; injection h1
  subst hA
  have hiI : (i : Int) < (l.length : Int) := by omega
  have hkI : (k : Int) < (l.length : Int) := by omega
  have HF : ∀ W, Keeps (fun _ => False) w W → W.cell? ⟨p, 0, none⟩ = some (.func (.func 12) #[] #[]) ∧ W.cell? ⟨p, 1, none⟩ = some (.slice (some ⟨g, 0, none⟩) l.length c) ∧ W.cell? ⟨p, 2, none⟩ = some (.int .i64 came) ∧ W.cell? ⟨g, i * 3, none⟩ = some (.int .i64 ei.rank) ∧ W.cell? ⟨g, i * 3 + 1, none⟩ = some (.int .i64 ei.name) ∧ W.cell? ⟨g, i * 3 + 2, none⟩ = some (.int .i64 ei.came) ∧ W.cell? ⟨g, k * 3, none⟩ = some (.int .i64 ek.rank) ∧ W.cell? ⟨g, k * 3 + 1, none⟩ = some (.int .i64 ek.name) ∧ W.cell? ⟨g, k * 3 + 2, none⟩ = some (.int .i64 ek.came) := fun W hW => by
    have hb := h.box.keeps hW id
    have h1 := HI W hW
    have h2 := HK W hW
    exact ⟨hb.cellAt 0, hb.cellAt 1, hb.cellAt 2, h1.1, h1.2.1, h1.2.2, h2⟩
  clear HI HK h hi hk
  go_enter Try.func66, Try.ntmps66
  go_wp2_with fail
  refine region_cut (fun a a' w' => ∃ (b7 b8 : Nat), (∃ u9 u10 u11 u12 u13 u14 u15 u16 u17 u18 u19 u20 u21 u22 : Value, a' = ((((((((((((((((a.put (some 9) u9).put (some 10) u10).put (some 11) u11).put (some 12) u12).put (some 13) u13).put (some 14) u14).put (some 15) u15).put (some 16) u16).put (some 17) u17).put (some 18) u18).put (some 19) u19).put (some 20) u20).put (some 21) u21).put (some 22) u22).put (some 7) (.pointer (some ⟨b7, 0, none⟩))).put (some 8) (.pointer (some ⟨b8, 0, none⟩)))) ∧ Keeps (fun _ => False) w w' ∧ Whole w' b7 116 #[.int .i64 ei.rank, .int .i64 ei.name, .int .i64 ei.came] ∧ Whole w' b8 116 #[.int .i64 ek.rank, .int .i64 ek.name, .int .i64 ek.came]) ?_ ?_
  · skip
    refine wp_region_held_drew (S := fun w' => Keeps (fun _ => False) w w') (by kernel_rfl) ((Keeps.refl _ w).drew) ?_
    intro hSn
    refine wpAnyH_take (i := 0) (v := ?v1) rfl (by kernel_rfl) (by kernel_rfl) (by kernel_rfl) (fun _ _ _ h => by first | exact h | exact absurd h.1 (fun e => by cases e)) (Or.inl ⟨by rfl, ?hy1⟩) (by assumption) ?rest1
    case hy1 =>
      intro w hSw
      obtain ⟨q0, q1, q2, ci0, ci1, ci2, ck0, ck1, ck2⟩ := HF w hSw
      go_simp
      try with_reducible rfl
    go_simp
    refine wpAnyH_take (i := 1) (v := ?v2) rfl (by kernel_rfl) (by kernel_rfl) (by kernel_rfl) (fun _ _ _ h => by first | exact h | exact absurd h.1 (fun e => by cases e)) (Or.inl ⟨by rfl, ?hy2⟩) (by assumption) ?rest2
    case hy2 =>
      intro w hSw
      obtain ⟨q0, q1, q2, ci0, ci1, ci2, ck0, ck1, ck2⟩ := HF w hSw
      go_simp
      try with_reducible rfl
    go_simp
    refine wpAnyH_take (i := 2) (v := ?v3) rfl (by kernel_rfl) (by kernel_rfl) (by kernel_rfl) (fun _ _ _ h => by first | exact h | exact absurd h.1 (fun e => by cases e)) (Or.inl ⟨by rfl, ?hy3⟩) (by assumption) ?rest3
    case hy3 =>
      intro w hSw
      obtain ⟨q0, q1, q2, ci0, ci1, ci2, ck0, ck1, ck2⟩ := HF w hSw
      go_simp
      try with_reducible rfl
    go_simp
    refine wpAnyH_take (i := 3) (v := ?v4) rfl (by kernel_rfl) (by kernel_rfl) (by kernel_rfl) (fun _ _ _ h => by first | exact h | exact absurd h.1 (fun e => by cases e)) (Or.inl ⟨by rfl, ?hy4⟩) (by assumption) ?rest4
    case hy4 =>
      intro w hSw
      obtain ⟨q0, q1, q2, ci0, ci1, ci2, ck0, ck1, ck2⟩ := HF w hSw
      go_simp
      try with_reducible rfl
    go_simp
    refine wpAnyH_take (i := 4) (v := ?v5) rfl (by kernel_rfl) (by kernel_rfl) (by kernel_rfl) (fun _ _ _ h => by first | exact h | exact absurd h.1 (fun e => by cases e)) (Or.inl ⟨by rfl, ?hy5⟩) (by assumption) ?rest5
    case hy5 =>
      intro w hSw
      obtain ⟨q0, q1, q2, ci0, ci1, ci2, ck0, ck1, ck2⟩ := HF w hSw
      go_simp
      try with_reducible rfl
    go_simp
    refine wpAnyH_take (i := 5) (v := ?v6) rfl (by kernel_rfl) (by kernel_rfl) (by kernel_rfl) (fun _ _ _ h => by first | exact h | exact absurd h.1 (fun e => by cases e)) (Or.inl ⟨by rfl, ?hy6⟩) (by assumption) ?rest6
    case hy6 =>
      intro w hSw
      obtain ⟨q0, q1, q2, ci0, ci1, ci2, ck0, ck1, ck2⟩ := HF w hSw
      go_simp
      try with_reducible rfl
    go_simp
    refine wpAnyH_take (i := 6) (v := ?v7) rfl (by kernel_rfl) (by kernel_rfl) (by kernel_rfl) (fun _ _ _ h => by first | exact h | exact absurd h.1 (fun e => by cases e)) (Or.inl ⟨by rfl, ?hy7⟩) (by assumption) ?rest7
    case hy7 =>
      intro w hSw
      obtain ⟨q0, q1, q2, ci0, ci1, ci2, ck0, ck1, ck2⟩ := HF w hSw
      go_simp
      try with_reducible rfl
    go_simp
    refine wpAnyH_take (i := 7) (v := ?v8) rfl (by kernel_rfl) (by kernel_rfl) (by kernel_rfl) (fun _ _ _ h => by first | exact h | exact absurd h.1 (fun e => by cases e)) (Or.inl ⟨by rfl, ?hy8⟩) (by assumption) ?rest8
    case hy8 =>
      intro w hSw
      obtain ⟨q0, q1, q2, ci0, ci1, ci2, ck0, ck1, ck2⟩ := HF w hSw
      go_simp
      try with_reducible rfl
    go_simp
    refine wpAnyH_take (i := 8) (v := ?v9) rfl (by kernel_rfl) (by kernel_rfl) (by kernel_rfl) (fun _ _ _ h => by first | exact h | exact absurd h.1 (fun e => by cases e)) (Or.inl ⟨by rfl, ?hy9⟩) (by assumption) ?rest9
    case hy9 =>
      intro w hSw
      obtain ⟨q0, q1, q2, ci0, ci1, ci2, ck0, ck1, ck2⟩ := HF w hSw
      go_simp
      try with_reducible rfl
    go_simp
    refine wpAnyH_take (i := 9) (v := ?v10) rfl (by kernel_rfl) (by kernel_rfl) (by kernel_rfl) (fun _ _ _ h => by first | exact h | exact absurd h.1 (fun e => by cases e)) (Or.inl ⟨by rfl, ?hy10⟩) (by assumption) ?rest10
    case hy10 =>
      intro w hSw
      obtain ⟨q0, q1, q2, ci0, ci1, ci2, ck0, ck1, ck2⟩ := HF w hSw
      go_simp
      try with_reducible rfl
    go_simp
    refine wpAnyH_take (i := 10) (v := ?v11) rfl (by kernel_rfl) (by kernel_rfl) (by kernel_rfl) (fun _ _ _ h => by first | exact h | exact absurd h.1 (fun e => by cases e)) (Or.inl ⟨by rfl, ?hy11⟩) (by assumption) ?rest11
    case hy11 =>
      intro w hSw
      obtain ⟨q0, q1, q2, ci0, ci1, ci2, ck0, ck1, ck2⟩ := HF w hSw
      go_simp
      try with_reducible rfl
    go_simp
    refine wpAnyH_take (i := 11) (v := ?v12) rfl (by kernel_rfl) (by kernel_rfl) (by kernel_rfl) (fun _ _ _ h => by first | exact h | exact absurd h.1 (fun e => by cases e)) (Or.inl ⟨by rfl, ?hy12⟩) (by assumption) ?rest12
    case hy12 =>
      intro w hSw
      obtain ⟨q0, q1, q2, ci0, ci1, ci2, ck0, ck1, ck2⟩ := HF w hSw
      go_simp
      try with_reducible rfl
    go_simp
    refine wpAnyH_take (i := 12) (v := ?v13) rfl (by kernel_rfl) (by kernel_rfl) (by kernel_rfl) (fun _ _ _ h => by first | exact h | exact absurd h.1 (fun e => by cases e)) (Or.inl ⟨by rfl, ?hy13⟩) (by assumption) ?rest13
    case hy13 =>
      intro w hSw
      obtain ⟨q0, q1, q2, ci0, ci1, ci2, ck0, ck1, ck2⟩ := HF w hSw
      go_simp
      try with_reducible rfl
    go_simp
    refine wpAnyH_take (i := 13) (v := ?v14) rfl (by kernel_rfl) (by kernel_rfl) (by kernel_rfl) (fun _ _ _ h => by first | exact h | exact absurd h.1 (fun e => by cases e)) (Or.inl ⟨by rfl, ?hy14⟩) (by assumption) ?rest14
    case hy14 =>
      intro w hSw
      obtain ⟨q0, q1, q2, ci0, ci1, ci2, ck0, ck1, ck2⟩ := HF w hSw
      go_simp
      try with_reducible rfl
    go_simp
    refine wpAnyH_ready (rs := [14, 15]) (by kernel_rfl) (by simp) ?_
    refine AllReadyH.cons rfl (fun K hK => ?sa) (AllReadyH.cons rfl (fun K hK => ?sb) AllReadyH.nil)
    case sa =>
      go_simp
      refine hK.out _ _ (hSn.alloc _) (fun hSn => ?_)
      clear hK K
      go_simp
      refine wpAnyH_ready (rs := [15]) (by kernel_rfl) (by simp) ?_
      refine AllReadyH.cons rfl (fun K hK => ?_) AllReadyH.nil
      go_simp
      refine hK.out _ _ (hSn.alloc _) (fun hSn => ?_)
      clear hK K
      go_simp
      refine wpAnyH_ready (rs := [16]) (by kernel_rfl) (by simp) ?_
      refine AllReadyH.cons rfl (fun K hK => ?_) AllReadyH.nil
      go_simp
      refine hK.out _ _ ((((Keeps.refl _ w).alloc _).alloc _).drew) (fun hSn => ?_)
      clear hK K
      go_simp
      refine wpAnyH_ready (rs := [17]) (by kernel_rfl) (by simp) ?_
      refine AllReadyH.cons rfl (fun K hK => ?_) AllReadyH.nil
      go_simp
      refine hK.out _ _ ((((Keeps.refl _ w).alloc _).alloc _).drew) (fun hSn => ?_)
      clear hK K
      go_simp
      have hPW := pairAT w #[.int .i64 ei.rank, .int .i64 ei.name, .int .i64 ei.came] #[.int .i64 ek.rank, .int .i64 ek.name, .int .i64 ek.came]
      refine wpAnyH_done (by kernel_rfl) ?_ _
      exact ⟨rfl, w.heap.size, w.heap.size + 1, ⟨_, _, _, _, _, _, _, _, _, _, _, _, _, _, rfl⟩, hSn, hPW.1, hPW.2⟩
    case sb =>
      go_simp
      refine hK.out _ _ (hSn.alloc _) (fun hSn => ?_)
      clear hK K
      go_simp
      refine wpAnyH_ready (rs := [14]) (by kernel_rfl) (by simp) ?_
      refine AllReadyH.cons rfl (fun K hK => ?_) AllReadyH.nil
      go_simp
      refine hK.out _ _ (hSn.alloc _) (fun hSn => ?_)
      clear hK K
      go_simp
      refine wpAnyH_ready (rs := [16]) (by kernel_rfl) (by simp) ?_
      refine AllReadyH.cons rfl (fun K hK => ?_) AllReadyH.nil
      go_simp
      refine hK.out _ _ ((((Keeps.refl _ w).alloc _).alloc _).drew) (fun hSn => ?_)
      clear hK K
      go_simp
      refine wpAnyH_ready (rs := [17]) (by kernel_rfl) (by simp) ?_
      refine AllReadyH.cons rfl (fun K hK => ?_) AllReadyH.nil
      go_simp
      refine hK.out _ _ ((((Keeps.refl _ w).alloc _).alloc _).drew) (fun hSn => ?_)
      clear hK K
      go_simp
      have hPW := pairAT w #[.int .i64 ek.rank, .int .i64 ek.name, .int .i64 ek.came] #[.int .i64 ei.rank, .int .i64 ei.name, .int .i64 ei.came]
      refine wpAnyH_done (by kernel_rfl) ?_ _
      exact ⟨rfl, w.heap.size + 1, w.heap.size, ⟨_, _, _, _, _, _, _, _, _, _, _, _, _, _, rfl⟩, hSn, hPW.2, hPW.1⟩
  · rintro a' w1 ⟨b7, b8, ⟨u9, u10, u11, u12, u13, u14, u15, u16, u17, u18, u19, u20, u21, u22, rfl⟩, k1, W7, W8⟩
    obtain ⟨q0, q1, q2, ci0, ci1, ci2, ck0, ck1, ck2⟩ := HF w1 k1
    have HL := fun (a b : EnT) w => lessT_any a b w
    have K1 := Lib.hid k1
    have c7 : w1.cell? ⟨b7, 0, none⟩ = some (.int .i64 ei.rank) ∧ w1.cell? ⟨b7, 1, none⟩ = some (.int .i64 ei.name) ∧ w1.cell? ⟨b7, 2, none⟩ = some (.int .i64 ei.came) := ⟨W7.cellAt 0, W7.cellAt 1, W7.cellAt 2⟩
    have c8 : w1.cell? ⟨b8, 0, none⟩ = some (.int .i64 ek.rank) ∧ w1.cell? ⟨b8, 1, none⟩ = some (.int .i64 ek.name) ∧ w1.cell? ⟨b8, 2, none⟩ = some (.int .i64 ek.came) := ⟨W8.cellAt 0, W8.cellAt 1, W8.cellAt 2⟩
    obtain ⟨x0, x1, x2⟩ := c7
    obtain ⟨y0, y1, y2⟩ := c8
    have HF2 : ∀ W, Keeps (fun _ => False) w1 W → W.cell? ⟨p, 0, none⟩ = some (.func (.func 12) #[] #[]) ∧ W.cell? ⟨b7, 0, none⟩ = some (.int .i64 ei.rank) ∧ W.cell? ⟨b7, 1, none⟩ = some (.int .i64 ei.name) ∧ W.cell? ⟨b7, 2, none⟩ = some (.int .i64 ei.came) ∧ W.cell? ⟨b8, 0, none⟩ = some (.int .i64 ek.rank) ∧ W.cell? ⟨b8, 1, none⟩ = some (.int .i64 ek.name) ∧ W.cell? ⟨b8, 2, none⟩ = some (.int .i64 ek.came) := fun W hW => by
      have hb := (Keeps.trans k1 hW)
      have h7 := W7.keeps hW id
      have h8 := W8.keeps hW id
      exact ⟨(HF W hb).1, h7.cellAt 0, h7.cellAt 1, h7.cellAt 2, h8.cellAt 0, h8.cellAt 1, h8.cellAt 2⟩
    clear k1 W7 W8 HF q0 q1 q2 ci0 ck0 ci1 ck1 ci2 ck2 x0 y0 x1 y1 x2 y2 HL
    go_wp2_with fail
    refine wp_region_held_drew (S := fun W => Keeps (fun _ => False) w1 W) (by kernel_rfl) ((Keeps.refl _ w1).drew) ?_
    intro hSn
    refine wpAnyH_take (i := 0) (v := ?v15) rfl (by kernel_rfl) (by kernel_rfl) (by kernel_rfl) (fun _ _ _ h => by first | exact h | exact absurd h.1 (fun e => by cases e)) (Or.inl ⟨by rfl, ?hy15⟩) (by assumption) ?rest15
    case hy15 =>
      intro w hSw
      obtain ⟨e0, x0, x1, x2, y0, y1, y2⟩ := HF2 w hSw
      go_simp
      try with_reducible rfl
    go_simp
    refine wpAnyH_take (i := 1) (v := ?v16) rfl (by kernel_rfl) (by kernel_rfl) (by kernel_rfl) (fun _ _ _ h => by first | exact h | exact absurd h.1 (fun e => by cases e)) (Or.inl ⟨by rfl, ?hy16⟩) (by assumption) ?rest16
    case hy16 =>
      intro w hSw
      obtain ⟨e0, x0, x1, x2, y0, y1, y2⟩ := HF2 w hSw
      go_simp
      try with_reducible rfl
    go_simp
    refine wpAnyH_take (i := 2) (v := ?v17) rfl (by kernel_rfl) (by kernel_rfl) (by kernel_rfl) (fun _ _ _ h => by first | exact h | exact absurd h.1 (fun e => by cases e)) (Or.inl ⟨by rfl, ?hy17⟩) (by assumption) ?rest17
    case hy17 =>
      intro w hSw
      obtain ⟨e0, x0, x1, x2, y0, y1, y2⟩ := HF2 w hSw
      go_simp
      try with_reducible rfl
    go_simp
    refine wpAnyH_take (i := 3) (v := ?v18) rfl (by kernel_rfl) (by kernel_rfl) (by kernel_rfl) (fun _ _ _ h => by first | exact h | exact absurd h.1 (fun e => by cases e)) (Or.inl ⟨by rfl, ?hy18⟩) (by assumption) ?rest18
    case hy18 =>
      intro w hSw
      obtain ⟨e0, x0, x1, x2, y0, y1, y2⟩ := HF2 w hSw
      go_simp
      try with_reducible rfl
    go_simp
    refine wpAnyH_take (i := 4) (v := ?v19) rfl (by kernel_rfl) (by kernel_rfl) (by kernel_rfl) (fun _ _ _ h => by first | exact h | exact absurd h.1 (fun e => by cases e)) (Or.inl ⟨by rfl, ?hy19⟩) (by assumption) ?rest19
    case hy19 =>
      intro w hSw
      obtain ⟨e0, x0, x1, x2, y0, y1, y2⟩ := HF2 w hSw
      go_simp
      try with_reducible rfl
    go_simp
    refine wpAnyH_take (i := 5) (v := ?v20) rfl (by kernel_rfl) (by kernel_rfl) (by kernel_rfl) (fun _ _ _ h => by first | exact h | exact absurd h.1 (fun e => by cases e)) (Or.inl ⟨by rfl, ?hy20⟩) (by assumption) ?rest20
    case hy20 =>
      intro w hSw
      obtain ⟨e0, x0, x1, x2, y0, y1, y2⟩ := HF2 w hSw
      go_simp
      try with_reducible rfl
    go_simp
    refine wpAnyH_take (i := 6) (v := ?v21) rfl (by kernel_rfl) (by kernel_rfl) (by kernel_rfl) (fun _ _ _ h => by first | exact h | exact absurd h.1 (fun e => by cases e)) (Or.inl ⟨by rfl, ?hy21⟩) (by assumption) ?rest21
    case hy21 =>
      intro w hSw
      obtain ⟨e0, x0, x1, x2, y0, y1, y2⟩ := HF2 w hSw
      go_simp
      try with_reducible rfl
    go_simp
    refine wpAnyH_take (i := 7) (v := ?v22) rfl (by kernel_rfl) (by kernel_rfl) (by kernel_rfl) (fun _ _ _ h => by first | exact h | exact absurd h.1 (fun e => by cases e)) (Or.inl ⟨by rfl, ?hy22⟩) (by assumption) ?rest22
    case hy22 =>
      intro w hSw
      obtain ⟨e0, x0, x1, x2, y0, y1, y2⟩ := HF2 w hSw
      go_simp
      try with_reducible rfl
    go_simp
    refine wpAnyH_ready (rs := [8]) (by kernel_rfl) (by simp) ?_
    refine AllReadyH.cons rfl (fun K hK => ?_) AllReadyH.nil
    go_simp
    refine (lessT_any ei ek _).mono ?_
    rintro e w2 ⟨rfl, k2⟩
    refine hK.out _ _ (hSn.trans k2) (fun hSn => ?_)
    clear hK K k2
    go_simp
    refine wpAnyH_done (by kernel_rfl) ?_ _
    have K2 := Lib.hid hSn
    clear hSn
    go_simp
    cases h1 : ltT ei ek
    · go_wp2_with fail
      cases h2 : ltT ek ei
      · skip
        refine wp_region_held_drew (S := fun W => Keeps (fun _ => False) w1 W) (by kernel_rfl) (K2.out.drew) ?_
        intro hSn
        refine wpAnyH_take (i := 0) (v := ?v23) rfl (by kernel_rfl) (by kernel_rfl) (by kernel_rfl) (fun _ _ _ h => by first | exact h | exact absurd h.1 (fun e => by cases e)) (Or.inl ⟨by rfl, ?hy23⟩) (by assumption) ?rest23
        case hy23 =>
          intro w hSw
          obtain ⟨e0, x0, x1, x2, y0, y1, y2⟩ := HF2 w hSw
          go_simp
          try with_reducible rfl
        go_simp
        refine wpAnyH_take (i := 1) (v := ?v24) rfl (by kernel_rfl) (by kernel_rfl) (by kernel_rfl) (fun _ _ _ h => by first | exact h | exact absurd h.1 (fun e => by cases e)) (Or.inl ⟨by rfl, ?hy24⟩) (by assumption) ?rest24
        case hy24 =>
          intro w hSw
          obtain ⟨e0, x0, x1, x2, y0, y1, y2⟩ := HF2 w hSw
          go_simp
          try with_reducible rfl
        go_simp
        refine wpAnyH_take (i := 2) (v := ?v25) rfl (by kernel_rfl) (by kernel_rfl) (by kernel_rfl) (fun _ _ _ h => by first | exact h | exact absurd h.1 (fun e => by cases e)) (Or.inl ⟨by rfl, ?hy25⟩) (by assumption) ?rest25
        case hy25 =>
          intro w hSw
          obtain ⟨e0, x0, x1, x2, y0, y1, y2⟩ := HF2 w hSw
          go_simp
          try with_reducible rfl
        go_simp
        refine wpAnyH_take (i := 3) (v := ?v26) rfl (by kernel_rfl) (by kernel_rfl) (by kernel_rfl) (fun _ _ _ h => by first | exact h | exact absurd h.1 (fun e => by cases e)) (Or.inl ⟨by rfl, ?hy26⟩) (by assumption) ?rest26
        case hy26 =>
          intro w hSw
          obtain ⟨e0, x0, x1, x2, y0, y1, y2⟩ := HF2 w hSw
          go_simp
          try with_reducible rfl
        go_simp
        refine wpAnyH_take (i := 4) (v := ?v27) rfl (by kernel_rfl) (by kernel_rfl) (by kernel_rfl) (fun _ _ _ h => by first | exact h | exact absurd h.1 (fun e => by cases e)) (Or.inl ⟨by rfl, ?hy27⟩) (by assumption) ?rest27
        case hy27 =>
          intro w hSw
          obtain ⟨e0, x0, x1, x2, y0, y1, y2⟩ := HF2 w hSw
          go_simp
          try with_reducible rfl
        go_simp
        refine wpAnyH_take (i := 5) (v := ?v28) rfl (by kernel_rfl) (by kernel_rfl) (by kernel_rfl) (fun _ _ _ h => by first | exact h | exact absurd h.1 (fun e => by cases e)) (Or.inl ⟨by rfl, ?hy28⟩) (by assumption) ?rest28
        case hy28 =>
          intro w hSw
          obtain ⟨e0, x0, x1, x2, y0, y1, y2⟩ := HF2 w hSw
          go_simp
          try with_reducible rfl
        go_simp
        refine wpAnyH_take (i := 6) (v := ?v29) rfl (by kernel_rfl) (by kernel_rfl) (by kernel_rfl) (fun _ _ _ h => by first | exact h | exact absurd h.1 (fun e => by cases e)) (Or.inl ⟨by rfl, ?hy29⟩) (by assumption) ?rest29
        case hy29 =>
          intro w hSw
          obtain ⟨e0, x0, x1, x2, y0, y1, y2⟩ := HF2 w hSw
          go_simp
          try with_reducible rfl
        go_simp
        refine wpAnyH_take (i := 7) (v := ?v30) rfl (by kernel_rfl) (by kernel_rfl) (by kernel_rfl) (fun _ _ _ h => by first | exact h | exact absurd h.1 (fun e => by cases e)) (Or.inl ⟨by rfl, ?hy30⟩) (by assumption) ?rest30
        case hy30 =>
          intro w hSw
          obtain ⟨e0, x0, x1, x2, y0, y1, y2⟩ := HF2 w hSw
          go_simp
          try with_reducible rfl
        go_simp
        refine wpAnyH_ready (rs := [8]) (by kernel_rfl) (by simp) ?_
        refine AllReadyH.cons rfl (fun K hK => ?_) AllReadyH.nil
        go_simp
        refine (lessT_any ek ei _).mono ?_
        rintro e w3 ⟨rfl, k3⟩
        rw [h2]
        refine hK.out _ _ (hSn.trans k3) (fun hSn => ?_)
        clear hK K k3
        go_simp
        refine wpAnyH_take (i := 9) (v := ?v31) rfl (by kernel_rfl) (by kernel_rfl) (by kernel_rfl) (fun _ _ _ h => by first | exact h | exact absurd h.1 (fun e => by cases e)) (Or.inl ⟨by rfl, ?hy31⟩) (by assumption) ?rest31
        case hy31 =>
          intro w hSw
          obtain ⟨e0, x0, x1, x2, y0, y1, y2⟩ := HF2 w hSw
          go_simp
          try with_reducible rfl
        go_simp
        refine wpAnyH_take (i := 10) (v := ?v32) rfl (by kernel_rfl) (by kernel_rfl) (by kernel_rfl) (fun _ _ _ h => by first | exact h | exact absurd h.1 (fun e => by cases e)) (Or.inl ⟨by rfl, ?hy32⟩) (by assumption) ?rest32
        case hy32 =>
          intro w hSw
          obtain ⟨e0, x0, x1, x2, y0, y1, y2⟩ := HF2 w hSw
          go_simp
          try with_reducible rfl
        go_simp
        refine wpAnyH_take (i := 11) (v := ?v33) rfl (by kernel_rfl) (by kernel_rfl) (by kernel_rfl) (fun _ _ _ h => by first | exact h | exact absurd h.1 (fun e => by cases e)) (Or.inl ⟨by rfl, ?hy33⟩) (by assumption) ?rest33
        case hy33 =>
          intro w hSw
          obtain ⟨e0, x0, x1, x2, y0, y1, y2⟩ := HF2 w hSw
          go_simp
          try with_reducible rfl
        go_simp
        refine wpAnyH_take (i := 12) (v := ?v34) rfl (by kernel_rfl) (by kernel_rfl) (by kernel_rfl) (fun _ _ _ h => by first | exact h | exact absurd h.1 (fun e => by cases e)) (Or.inl ⟨by rfl, ?hy34⟩) (by assumption) ?rest34
        case hy34 =>
          intro w hSw
          obtain ⟨e0, x0, x1, x2, y0, y1, y2⟩ := HF2 w hSw
          go_simp
          try with_reducible rfl
        go_simp
        refine wpAnyH_take (i := 13) (v := ?v35) rfl (by kernel_rfl) (by kernel_rfl) (by kernel_rfl) (fun _ _ _ h => by first | exact h | exact absurd h.1 (fun e => by cases e)) (Or.inl ⟨by rfl, ?hy35⟩) (by assumption) ?rest35
        case hy35 =>
          intro w hSw
          obtain ⟨e0, x0, x1, x2, y0, y1, y2⟩ := HF2 w hSw
          go_simp
          try with_reducible rfl
        go_simp
        refine wpAnyH_take (i := 14) (v := ?v36) rfl (by kernel_rfl) (by kernel_rfl) (by kernel_rfl) (fun _ _ _ h => by first | exact h | exact absurd h.1 (fun e => by cases e)) (Or.inl ⟨by rfl, ?hy36⟩) (by assumption) ?rest36
        case hy36 =>
          intro w hSw
          obtain ⟨e0, x0, x1, x2, y0, y1, y2⟩ := HF2 w hSw
          go_simp
          try with_reducible rfl
        go_simp
        refine wpAnyH_take (i := 15) (v := ?v37) rfl (by kernel_rfl) (by kernel_rfl) (by kernel_rfl) (fun _ _ _ h => by first | exact h | exact absurd h.1 (fun e => by cases e)) (Or.inl ⟨by rfl, ?hy37⟩) (by assumption) ?rest37
        case hy37 =>
          intro w hSw
          obtain ⟨e0, x0, x1, x2, y0, y1, y2⟩ := HF2 w hSw
          go_simp
          try with_reducible rfl
        go_simp
        refine wpAnyH_take (i := 16) (v := ?v38) rfl (by kernel_rfl) (by kernel_rfl) (by kernel_rfl) (fun _ _ _ h => by first | exact h | exact absurd h.1 (fun e => by cases e)) (Or.inl ⟨by rfl, ?hy38⟩) (by assumption) ?rest38
        case hy38 =>
          intro w hSw
          obtain ⟨e0, x0, x1, x2, y0, y1, y2⟩ := HF2 w hSw
          go_simp
          try with_reducible rfl
        go_simp
        refine wpAnyH_take (i := 17) (v := ?v39) rfl (by kernel_rfl) (by kernel_rfl) (by kernel_rfl) (fun _ _ _ h => by first | exact h | exact absurd h.1 (fun e => by cases e)) (Or.inl ⟨by rfl, ?hy39⟩) (by assumption) ?rest39
        case hy39 =>
          intro w hSw
          obtain ⟨e0, x0, x1, x2, y0, y1, y2⟩ := HF2 w hSw
          go_simp
          try with_reducible rfl
        go_simp
        refine wpAnyH_done (by kernel_rfl) ?_ _
        have K3 := Lib.hid hSn
        clear hSn
        go_simp
        go_wp2_with fail
        go_ret
        exact ⟨by simp [ahT, h1, h2], K1.out.trans K3.out⟩
      · skip
        refine wp_region_held_drew (S := fun W => Keeps (fun _ => False) w1 W) (by kernel_rfl) (K2.out.drew) ?_
        intro hSn
        refine wpAnyH_take (i := 0) (v := ?v40) rfl (by kernel_rfl) (by kernel_rfl) (by kernel_rfl) (fun _ _ _ h => by first | exact h | exact absurd h.1 (fun e => by cases e)) (Or.inl ⟨by rfl, ?hy40⟩) (by assumption) ?rest40
        case hy40 =>
          intro w hSw
          obtain ⟨e0, x0, x1, x2, y0, y1, y2⟩ := HF2 w hSw
          go_simp
          try with_reducible rfl
        go_simp
        refine wpAnyH_take (i := 1) (v := ?v41) rfl (by kernel_rfl) (by kernel_rfl) (by kernel_rfl) (fun _ _ _ h => by first | exact h | exact absurd h.1 (fun e => by cases e)) (Or.inl ⟨by rfl, ?hy41⟩) (by assumption) ?rest41
        case hy41 =>
          intro w hSw
          obtain ⟨e0, x0, x1, x2, y0, y1, y2⟩ := HF2 w hSw
          go_simp
          try with_reducible rfl
        go_simp
        refine wpAnyH_take (i := 2) (v := ?v42) rfl (by kernel_rfl) (by kernel_rfl) (by kernel_rfl) (fun _ _ _ h => by first | exact h | exact absurd h.1 (fun e => by cases e)) (Or.inl ⟨by rfl, ?hy42⟩) (by assumption) ?rest42
        case hy42 =>
          intro w hSw
          obtain ⟨e0, x0, x1, x2, y0, y1, y2⟩ := HF2 w hSw
          go_simp
          try with_reducible rfl
        go_simp
        refine wpAnyH_take (i := 3) (v := ?v43) rfl (by kernel_rfl) (by kernel_rfl) (by kernel_rfl) (fun _ _ _ h => by first | exact h | exact absurd h.1 (fun e => by cases e)) (Or.inl ⟨by rfl, ?hy43⟩) (by assumption) ?rest43
        case hy43 =>
          intro w hSw
          obtain ⟨e0, x0, x1, x2, y0, y1, y2⟩ := HF2 w hSw
          go_simp
          try with_reducible rfl
        go_simp
        refine wpAnyH_take (i := 4) (v := ?v44) rfl (by kernel_rfl) (by kernel_rfl) (by kernel_rfl) (fun _ _ _ h => by first | exact h | exact absurd h.1 (fun e => by cases e)) (Or.inl ⟨by rfl, ?hy44⟩) (by assumption) ?rest44
        case hy44 =>
          intro w hSw
          obtain ⟨e0, x0, x1, x2, y0, y1, y2⟩ := HF2 w hSw
          go_simp
          try with_reducible rfl
        go_simp
        refine wpAnyH_take (i := 5) (v := ?v45) rfl (by kernel_rfl) (by kernel_rfl) (by kernel_rfl) (fun _ _ _ h => by first | exact h | exact absurd h.1 (fun e => by cases e)) (Or.inl ⟨by rfl, ?hy45⟩) (by assumption) ?rest45
        case hy45 =>
          intro w hSw
          obtain ⟨e0, x0, x1, x2, y0, y1, y2⟩ := HF2 w hSw
          go_simp
          try with_reducible rfl
        go_simp
        refine wpAnyH_take (i := 6) (v := ?v46) rfl (by kernel_rfl) (by kernel_rfl) (by kernel_rfl) (fun _ _ _ h => by first | exact h | exact absurd h.1 (fun e => by cases e)) (Or.inl ⟨by rfl, ?hy46⟩) (by assumption) ?rest46
        case hy46 =>
          intro w hSw
          obtain ⟨e0, x0, x1, x2, y0, y1, y2⟩ := HF2 w hSw
          go_simp
          try with_reducible rfl
        go_simp
        refine wpAnyH_take (i := 7) (v := ?v47) rfl (by kernel_rfl) (by kernel_rfl) (by kernel_rfl) (fun _ _ _ h => by first | exact h | exact absurd h.1 (fun e => by cases e)) (Or.inl ⟨by rfl, ?hy47⟩) (by assumption) ?rest47
        case hy47 =>
          intro w hSw
          obtain ⟨e0, x0, x1, x2, y0, y1, y2⟩ := HF2 w hSw
          go_simp
          try with_reducible rfl
        go_simp
        refine wpAnyH_ready (rs := [8]) (by kernel_rfl) (by simp) ?_
        refine AllReadyH.cons rfl (fun K hK => ?_) AllReadyH.nil
        go_simp
        refine (lessT_any ek ei _).mono ?_
        rintro e w3 ⟨rfl, k3⟩
        rw [h2]
        refine hK.out _ _ (hSn.trans k3) (fun hSn => ?_)
        clear hK K k3
        go_simp
        refine wpAnyH_take (i := 9) (v := ?v48) rfl (by kernel_rfl) (by kernel_rfl) (by kernel_rfl) (fun _ _ _ h => by first | exact h | exact absurd h.1 (fun e => by cases e)) (Or.inl ⟨by rfl, ?hy48⟩) (by assumption) ?rest48
        case hy48 =>
          intro w hSw
          obtain ⟨e0, x0, x1, x2, y0, y1, y2⟩ := HF2 w hSw
          go_simp
          try with_reducible rfl
        go_simp
        refine wpAnyH_take (i := 10) (v := ?v49) rfl (by kernel_rfl) (by kernel_rfl) (by kernel_rfl) (fun _ _ _ h => by first | exact h | exact absurd h.1 (fun e => by cases e)) (Or.inl ⟨by rfl, ?hy49⟩) (by assumption) ?rest49
        case hy49 =>
          intro w hSw
          obtain ⟨e0, x0, x1, x2, y0, y1, y2⟩ := HF2 w hSw
          go_simp
          try with_reducible rfl
        go_simp
        refine wpAnyH_take (i := 11) (v := undef) rfl (by kernel_rfl) (by kernel_rfl) (by kernel_rfl) (fun _ _ _ h => by first | exact h | exact absurd h.1 (fun e => by cases e)) (Or.inr ⟨by rfl, rfl⟩) (by assumption) ?rest50
        go_simp
        refine wpAnyH_take (i := 12) (v := undef) rfl (by kernel_rfl) (by kernel_rfl) (by kernel_rfl) (fun _ _ _ h => by first | exact h | exact absurd h.1 (fun e => by cases e)) (Or.inr ⟨by rfl, rfl⟩) (by assumption) ?rest51
        go_simp
        refine wpAnyH_take (i := 13) (v := undef) rfl (by kernel_rfl) (by kernel_rfl) (by kernel_rfl) (fun _ _ _ h => by first | exact h | exact absurd h.1 (fun e => by cases e)) (Or.inr ⟨by rfl, rfl⟩) (by assumption) ?rest52
        go_simp
        refine wpAnyH_take (i := 14) (v := undef) rfl (by kernel_rfl) (by kernel_rfl) (by kernel_rfl) (fun _ _ _ h => by first | exact h | exact absurd h.1 (fun e => by cases e)) (Or.inr ⟨by rfl, rfl⟩) (by assumption) ?rest53
        go_simp
        refine wpAnyH_take (i := 15) (v := undef) rfl (by kernel_rfl) (by kernel_rfl) (by kernel_rfl) (fun _ _ _ h => by first | exact h | exact absurd h.1 (fun e => by cases e)) (Or.inr ⟨by rfl, rfl⟩) (by assumption) ?rest54
        go_simp
        refine wpAnyH_take (i := 16) (v := ?v55) rfl (by kernel_rfl) (by kernel_rfl) (by kernel_rfl) (fun _ _ _ h => by first | exact h | exact absurd h.1 (fun e => by cases e)) (Or.inl ⟨by rfl, ?hy55⟩) (by assumption) ?rest55
        case hy55 =>
          intro w hSw
          obtain ⟨e0, x0, x1, x2, y0, y1, y2⟩ := HF2 w hSw
          go_simp
          try with_reducible rfl
        go_simp
        refine wpAnyH_take (i := 17) (v := ?v56) rfl (by kernel_rfl) (by kernel_rfl) (by kernel_rfl) (fun _ _ _ h => by first | exact h | exact absurd h.1 (fun e => by cases e)) (Or.inl ⟨by rfl, ?hy56⟩) (by assumption) ?rest56
        case hy56 =>
          intro w hSw
          obtain ⟨e0, x0, x1, x2, y0, y1, y2⟩ := HF2 w hSw
          go_simp
          try with_reducible rfl
        go_simp
        refine wpAnyH_done (by kernel_rfl) ?_ _
        have K3 := Lib.hid hSn
        clear hSn
        go_simp
        go_wp2_with fail
        go_ret
        exact ⟨by simp [ahT, h1, h2], K1.out.trans K3.out⟩
    · go_wp2_with fail
      go_ret
      exact ⟨by simp [ahT, h1], K1.out.trans K2.out⟩
end Go.Proofs.Ytbfhbekocgdceaa
