/-
  rows.Heap of int: what goes ahead: the walks. Conditions: lengths within 10 ^ 9.
-/
import Derived.Test.YtbfhbekocgdceaaSkB
import Derived.Deep.RegionHeld3
namespace Go.Proofs.Ytbfhbekocgdceaa
open Go.RowKit
/-- Elements of k cells each, one behind the other. -/
def flat {α : Type} (f : α → List Value) (l : List α) : List Value := l.flatMap f
theorem flat_length {α : Type} {f : α → List Value} {k : Nat} (hf : ∀ a, (f a).length = k) (l : List α) : (flat f l).length = l.length * k := by
  induction l with
  | nil => simp [flat]
  | cons a l ih => rw [flat, List.flatMap_cons, List.length_append, hf]; rw [flat] at ih; rw [ih, List.length_cons, Nat.succ_mul]; omega
theorem flat_get {α : Type} {f : α → List Value} {k : Nat} (hf : ∀ a, (f a).length = k) (l : List α) (i : Nat) (c : α) (hi : l[i]? = some c) (j : Nat) (hj : j < k) : (flat f l)[i * k + j]? = (f c)[j]? := by
  induction l generalizing i with
  | nil => simp at hi
  | cons a l ih =>
    rw [flat, List.flatMap_cons]
    cases i with
    | zero =>
      obtain rfl : a = c := by simpa using hi
      rw [List.getElem?_append_left (by rw [hf]; omega)]; simp
    | succ i =>
      have hi' : l[i]? = some c := by simpa using hi
      have := ih i hi'
      rw [flat] at this
      rw [List.getElem?_append_right (by rw [hf, Nat.succ_mul]; omega), hf, show (i + 1) * k + j - k = i * k + j by rw [Nat.succ_mul]; omega]
      exact this
theorem region_cut {P : Program} {c : Code} {Q : Exit → Act → World → Prop} {a : Act} {w : World} (R : Act → Act → World → Prop) (h1 : Code.wp P c (fun e a' w' => e = .normal ∧ R a a' w') a w) (h2 : ∀ a' w', R a a' w' → Q .normal a' w') : Code.wp P c Q a w :=
  Code.wp_mono (fun e a' w' h => by obtain ⟨rfl, h⟩ := h; exact h2 a' w' h) h1
/-- A thing of a heap, and when it came. -/
structure EnI where
  x : Int
  came : Int
def EnI.cells (e : EnI) : List Value := [.int .i64 e.x, .int .i64 e.came]
def ltI (a b : EnI) : Bool := decide (a.x < b.x)
def ahI (a b : EnI) : Bool := ltI a b || (!ltI b a && decide (a.came < b.came))
/-- A heap in memory. -/
structure HeapI (w : World) (p : Nat) (A : Option Addr) (c : Nat) (l : List EnI) (came : Int) : Prop where
  box : Whole w p 134 #[.func (.func 62) #[] #[], .slice A l.length c, .int .i64 came]
  own : w.ownsRow (p + 1) 136 2 (.slice A l.length c) l.length (flat EnI.cells l)
theorem HeapI.calm {w w' : World} {p c : Nat} {A : Option Addr} {l : List EnI} {came : Int} {S : Nat → Prop} (h : HeapI w p A c l came) (hk : Keeps S w w') (hp : ¬ S p) (hS : ∀ b, (Value.slice A l.length c).ownBlock = some b → ¬ S b) : HeapI w' p A c l came := by
  refine ⟨h.box.keeps hk hp, ⟨h.own.1, ?_⟩⟩
  rcases h.own.2 with hn | ⟨g, cap, cur, hv, hb, hh, rest⟩
  · exact .inl hn
  · exact .inr ⟨g, cap, cur, hv, hb, (hk.block g (Array.getElem?_eq_some_iff.1 hh).1 (hS g (by rw [hv]; rfl))).trans hh, rest⟩
/-- Where its things lie. -/
theorem HeapI.at_ {w : World} {p c : Nat} {A : Option Addr} {l : List EnI} {came : Int} (h : HeapI w p A c l came) {i : Nat} {e : EnI} (hi : l[i]? = some e) : ∃ g, A = some ⟨g, 0, none⟩ ∧ p < g ∧ g < w.heap.size ∧ ∀ W, Keeps (fun _ => False) w W → W.cell? ⟨g, i * 2, none⟩ = some (.int .i64 e.x) ∧ W.cell? ⟨g, i * 2 + 1, none⟩ = some (.int .i64 e.came) := by
  have hl := (List.getElem?_eq_some_iff.1 hi).1
  rcases h.own.2 with ⟨_, h0⟩ | ⟨g, cap, cur, hv, hb, hh, _⟩
  · omega
  · injection hv with h1 h2 h3
    subst h1
    have hlt := (Array.getElem?_eq_some_iff.1 hh).1
    refine ⟨g, rfl, by omega, hlt, fun W hk => ?_⟩
    have hc : ∀ j, j < 2 → W.cell? ⟨g, i * 2 + j, none⟩ = e.cells[j]? := fun j hj => by
      rw [hk.cell hlt id]
      have hm : i * 2 + j < l.length * 2 := by omega
      rw [own_cells h.own rfl hm]
      exact flat_get (k := 2) (fun _ => rfl) l i e hi j hj
    exact ⟨hc 0 (by decide), hc 1 (by decide)⟩
set_option maxRecDepth 100000 in
theorem lessI_any (a b : EnI) (w : World) : Calls Try.prog 62 #[.int .i64 a.x, .int .i64 b.x] w fun e w' => e = .returned (.bool (ltI a b)) ∧ w' = w := by
  go_enter Try.func62, Try.ntmps62
  go_wp2_with fail
  go_ret
  exact ⟨rfl, rfl⟩
theorem pairAI (w : World) (x y : Array Value) : Whole (((w.alloc (.cells x 136)).alloc (.cells y 136)).drew) w.heap.size 136 x ∧ Whole (((w.alloc (.cells x 136)).alloc (.cells y 136)).drew) (w.heap.size + 1) 136 y := by
  have h1 := ((Whole.made w 136 x).alloc (.cells y 136)).drew
  have h2 := (Whole.made (w.alloc (.cells x 136)) 136 y).drew
  rw [show (w.alloc (.cells x 136)).heap.size = w.heap.size + 1 by simp] at h2
  exact ⟨h1, h2⟩
theorem nofI (w : World) : (binOp .eql 113 (.func (.func 62) #[] #[]) .nilFunc).run Try.prog w = .ok (.bool false) w := by kernel_rfl
set_option maxRecDepth 100000 in
theorem hnoneI_any (p : Nat) (w : World) (h0 : w.cell? ⟨p, 0, none⟩ = some (.func (.func 62) #[] #[])) :
    Calls Try.prog 80 #[.pointer (some ⟨p, 0, none⟩)] w fun e w' => e = .returned (.bool false) ∧ w' = w := by
  have hq := fun w => nofI w
  go_enter Try.func80, Try.ntmps80
  go_wp2_with fail
  go_ret
  exact ⟨rfl, rfl⟩
set_option maxRecDepth 100000 in
set_option maxHeartbeats 4000000 in
theorem aheadI_any (p c i k : Nat) (came : Int) (A : Option Addr) (l : List EnI) (ei ek : EnI) (w : World) (h : HeapI w p A c l came) (hi : l[i]? = some ei) (hk : l[k]? = some ek) :
    Calls Try.prog 81 #[.pointer (some ⟨p, 0, none⟩), .int .i64 i, .int .i64 k] w fun e w' => e = .returned (.bool (ahI ei ek)) ∧ Keeps (fun _ => False) w w' := by
  have hil := (List.getElem?_eq_some_iff.1 hi).1
  have hkl := (List.getElem?_eq_some_iff.1 hk).1
  obtain ⟨g, hA, hpg, hgw, HI⟩ := h.at_ hi
  obtain ⟨g', hA', _, _, HK⟩ := h.at_ hk
  obtain rfl : g = g' := by rw [hA] at hA'; injection hA' with h1; injection h1
  subst hA
  have hiI : (i : Int) < (l.length : Int) := by omega
  have hkI : (k : Int) < (l.length : Int) := by omega
  have HF : ∀ W, Keeps (fun _ => False) w W → W.cell? ⟨p, 0, none⟩ = some (.func (.func 62) #[] #[]) ∧ W.cell? ⟨p, 1, none⟩ = some (.slice (some ⟨g, 0, none⟩) l.length c) ∧ W.cell? ⟨p, 2, none⟩ = some (.int .i64 came) ∧ W.cell? ⟨g, i * 2, none⟩ = some (.int .i64 ei.x) ∧ W.cell? ⟨g, i * 2 + 1, none⟩ = some (.int .i64 ei.came) ∧ W.cell? ⟨g, k * 2, none⟩ = some (.int .i64 ek.x) ∧ W.cell? ⟨g, k * 2 + 1, none⟩ = some (.int .i64 ek.came) := fun W hW => by
    have hb := h.box.keeps hW id
    have h1 := HI W hW
    have h2 := HK W hW
    exact ⟨hb.cellAt 0, hb.cellAt 1, hb.cellAt 2, h1.1, h1.2, h2⟩
  clear HI HK h hi hk
  go_enter Try.func81, Try.ntmps81
  go_wp2_with fail
  refine region_cut (fun a a' w' => ∃ (b7 b8 : Nat), (∃ u9 u10 u11 u12 u13 u14 u15 u16 u17 u18 u19 u20 u21 u22 : Value, a' = ((((((((((((((((a.put (some 9) u9).put (some 10) u10).put (some 11) u11).put (some 12) u12).put (some 13) u13).put (some 14) u14).put (some 15) u15).put (some 16) u16).put (some 17) u17).put (some 18) u18).put (some 19) u19).put (some 20) u20).put (some 21) u21).put (some 22) u22).put (some 7) (.pointer (some ⟨b7, 0, none⟩))).put (some 8) (.pointer (some ⟨b8, 0, none⟩)))) ∧ Keeps (fun _ => False) w w' ∧ Whole w' b7 136 #[.int .i64 ei.x, .int .i64 ei.came] ∧ Whole w' b8 136 #[.int .i64 ek.x, .int .i64 ek.came]) ?_ ?_
  · skip
    refine wp_region_held_drew (S := fun w' => Keeps (fun _ => False) w w') (by kernel_rfl) ((Keeps.refl _ w).drew) ?_
    intro hSn
    refine wpAnyH_take (i := 0) (v := ?v1) rfl (by kernel_rfl) (by kernel_rfl) (by kernel_rfl) (fun _ _ _ h => by first | exact h | exact absurd h.1 (fun e => by cases e)) (Or.inl ⟨by rfl, ?hy1⟩) (by assumption) ?rest1
    case hy1 =>
      intro w hSw
      obtain ⟨q0, q1, q2, ci0, ci1, ck0, ck1⟩ := HF w hSw
      go_simp
      try with_reducible rfl
    go_simp
    refine wpAnyH_take (i := 1) (v := ?v2) rfl (by kernel_rfl) (by kernel_rfl) (by kernel_rfl) (fun _ _ _ h => by first | exact h | exact absurd h.1 (fun e => by cases e)) (Or.inl ⟨by rfl, ?hy2⟩) (by assumption) ?rest2
    case hy2 =>
      intro w hSw
      obtain ⟨q0, q1, q2, ci0, ci1, ck0, ck1⟩ := HF w hSw
      go_simp
      try with_reducible rfl
    go_simp
    refine wpAnyH_take (i := 2) (v := ?v3) rfl (by kernel_rfl) (by kernel_rfl) (by kernel_rfl) (fun _ _ _ h => by first | exact h | exact absurd h.1 (fun e => by cases e)) (Or.inl ⟨by rfl, ?hy3⟩) (by assumption) ?rest3
    case hy3 =>
      intro w hSw
      obtain ⟨q0, q1, q2, ci0, ci1, ck0, ck1⟩ := HF w hSw
      go_simp
      try with_reducible rfl
    go_simp
    refine wpAnyH_take (i := 3) (v := ?v4) rfl (by kernel_rfl) (by kernel_rfl) (by kernel_rfl) (fun _ _ _ h => by first | exact h | exact absurd h.1 (fun e => by cases e)) (Or.inl ⟨by rfl, ?hy4⟩) (by assumption) ?rest4
    case hy4 =>
      intro w hSw
      obtain ⟨q0, q1, q2, ci0, ci1, ck0, ck1⟩ := HF w hSw
      go_simp
      try with_reducible rfl
    go_simp
    refine wpAnyH_take (i := 4) (v := ?v5) rfl (by kernel_rfl) (by kernel_rfl) (by kernel_rfl) (fun _ _ _ h => by first | exact h | exact absurd h.1 (fun e => by cases e)) (Or.inl ⟨by rfl, ?hy5⟩) (by assumption) ?rest5
    case hy5 =>
      intro w hSw
      obtain ⟨q0, q1, q2, ci0, ci1, ck0, ck1⟩ := HF w hSw
      go_simp
      try with_reducible rfl
    go_simp
    refine wpAnyH_take (i := 5) (v := ?v6) rfl (by kernel_rfl) (by kernel_rfl) (by kernel_rfl) (fun _ _ _ h => by first | exact h | exact absurd h.1 (fun e => by cases e)) (Or.inl ⟨by rfl, ?hy6⟩) (by assumption) ?rest6
    case hy6 =>
      intro w hSw
      obtain ⟨q0, q1, q2, ci0, ci1, ck0, ck1⟩ := HF w hSw
      go_simp
      try with_reducible rfl
    go_simp
    refine wpAnyH_take (i := 6) (v := ?v7) rfl (by kernel_rfl) (by kernel_rfl) (by kernel_rfl) (fun _ _ _ h => by first | exact h | exact absurd h.1 (fun e => by cases e)) (Or.inl ⟨by rfl, ?hy7⟩) (by assumption) ?rest7
    case hy7 =>
      intro w hSw
      obtain ⟨q0, q1, q2, ci0, ci1, ck0, ck1⟩ := HF w hSw
      go_simp
      try with_reducible rfl
    go_simp
    refine wpAnyH_take (i := 7) (v := ?v8) rfl (by kernel_rfl) (by kernel_rfl) (by kernel_rfl) (fun _ _ _ h => by first | exact h | exact absurd h.1 (fun e => by cases e)) (Or.inl ⟨by rfl, ?hy8⟩) (by assumption) ?rest8
    case hy8 =>
      intro w hSw
      obtain ⟨q0, q1, q2, ci0, ci1, ck0, ck1⟩ := HF w hSw
      go_simp
      try with_reducible rfl
    go_simp
    refine wpAnyH_take (i := 8) (v := ?v9) rfl (by kernel_rfl) (by kernel_rfl) (by kernel_rfl) (fun _ _ _ h => by first | exact h | exact absurd h.1 (fun e => by cases e)) (Or.inl ⟨by rfl, ?hy9⟩) (by assumption) ?rest9
    case hy9 =>
      intro w hSw
      obtain ⟨q0, q1, q2, ci0, ci1, ck0, ck1⟩ := HF w hSw
      go_simp
      try with_reducible rfl
    go_simp
    refine wpAnyH_take (i := 9) (v := ?v10) rfl (by kernel_rfl) (by kernel_rfl) (by kernel_rfl) (fun _ _ _ h => by first | exact h | exact absurd h.1 (fun e => by cases e)) (Or.inl ⟨by rfl, ?hy10⟩) (by assumption) ?rest10
    case hy10 =>
      intro w hSw
      obtain ⟨q0, q1, q2, ci0, ci1, ck0, ck1⟩ := HF w hSw
      go_simp
      try with_reducible rfl
    go_simp
    refine wpAnyH_take (i := 10) (v := ?v11) rfl (by kernel_rfl) (by kernel_rfl) (by kernel_rfl) (fun _ _ _ h => by first | exact h | exact absurd h.1 (fun e => by cases e)) (Or.inl ⟨by rfl, ?hy11⟩) (by assumption) ?rest11
    case hy11 =>
      intro w hSw
      obtain ⟨q0, q1, q2, ci0, ci1, ck0, ck1⟩ := HF w hSw
      go_simp
      try with_reducible rfl
    go_simp
    refine wpAnyH_take (i := 11) (v := ?v12) rfl (by kernel_rfl) (by kernel_rfl) (by kernel_rfl) (fun _ _ _ h => by first | exact h | exact absurd h.1 (fun e => by cases e)) (Or.inl ⟨by rfl, ?hy12⟩) (by assumption) ?rest12
    case hy12 =>
      intro w hSw
      obtain ⟨q0, q1, q2, ci0, ci1, ck0, ck1⟩ := HF w hSw
      go_simp
      try with_reducible rfl
    go_simp
    refine wpAnyH_take (i := 12) (v := ?v13) rfl (by kernel_rfl) (by kernel_rfl) (by kernel_rfl) (fun _ _ _ h => by first | exact h | exact absurd h.1 (fun e => by cases e)) (Or.inl ⟨by rfl, ?hy13⟩) (by assumption) ?rest13
    case hy13 =>
      intro w hSw
      obtain ⟨q0, q1, q2, ci0, ci1, ck0, ck1⟩ := HF w hSw
      go_simp
      try with_reducible rfl
    go_simp
    refine wpAnyH_take (i := 13) (v := ?v14) rfl (by kernel_rfl) (by kernel_rfl) (by kernel_rfl) (fun _ _ _ h => by first | exact h | exact absurd h.1 (fun e => by cases e)) (Or.inl ⟨by rfl, ?hy14⟩) (by assumption) ?rest14
    case hy14 =>
      intro w hSw
      obtain ⟨q0, q1, q2, ci0, ci1, ck0, ck1⟩ := HF w hSw
      go_simp
      try with_reducible rfl
    go_simp
    refine wpAnyH_ready (rs := [14, 15]) (by kernel_rfl) (by simp) ?_
    refine AllReadyH.cons rfl (fun K hK => ?sa) (AllReadyH.cons rfl (fun K hK => ?sb) AllReadyH.nil)
    case sa =>
      go_simp
      refine hK.out _ _ (hSn.alloc _) (fun hSn => ?_)
      clear hK K
      go_simp
      refine wpAnyH_ready (rs := [15]) (by kernel_rfl) (by simp) ?_
      refine AllReadyH.cons rfl (fun K hK => ?_) AllReadyH.nil
      go_simp
      refine hK.out _ _ (hSn.alloc _) (fun hSn => ?_)
      clear hK K
      go_simp
      refine wpAnyH_ready (rs := [16]) (by kernel_rfl) (by simp) ?_
      refine AllReadyH.cons rfl (fun K hK => ?_) AllReadyH.nil
      go_simp
      refine hK.out _ _ ((((Keeps.refl _ w).alloc _).alloc _).drew) (fun hSn => ?_)
      clear hK K
      go_simp
      refine wpAnyH_ready (rs := [17]) (by kernel_rfl) (by simp) ?_
      refine AllReadyH.cons rfl (fun K hK => ?_) AllReadyH.nil
      go_simp
      refine hK.out _ _ ((((Keeps.refl _ w).alloc _).alloc _).drew) (fun hSn => ?_)
      clear hK K
      go_simp
      have hPW := pairAI w #[.int .i64 ei.x, .int .i64 ei.came] #[.int .i64 ek.x, .int .i64 ek.came]
      refine wpAnyH_done (by kernel_rfl) ?_ _
      exact ⟨rfl, w.heap.size, w.heap.size + 1, ⟨_, _, _, _, _, _, _, _, _, _, _, _, _, _, rfl⟩, hSn, hPW.1, hPW.2⟩
    case sb =>
      go_simp
      refine hK.out _ _ (hSn.alloc _) (fun hSn => ?_)
      clear hK K
      go_simp
      refine wpAnyH_ready (rs := [14]) (by kernel_rfl) (by simp) ?_
      refine AllReadyH.cons rfl (fun K hK => ?_) AllReadyH.nil
      go_simp
      refine hK.out _ _ (hSn.alloc _) (fun hSn => ?_)
      clear hK K
      go_simp
      refine wpAnyH_ready (rs := [16]) (by kernel_rfl) (by simp) ?_
      refine AllReadyH.cons rfl (fun K hK => ?_) AllReadyH.nil
      go_simp
      refine hK.out _ _ ((((Keeps.refl _ w).alloc _).alloc _).drew) (fun hSn => ?_)
      clear hK K
      go_simp
      refine wpAnyH_ready (rs := [17]) (by kernel_rfl) (by simp) ?_
      refine AllReadyH.cons rfl (fun K hK => ?_) AllReadyH.nil
      go_simp
      refine hK.out _ _ ((((Keeps.refl _ w).alloc _).alloc _).drew) (fun hSn => ?_)
      clear hK K
      go_simp
      have hPW := pairAI w #[.int .i64 ek.x, .int .i64 ek.came] #[.int .i64 ei.x, .int .i64 ei.came]
      refine wpAnyH_done (by kernel_rfl) ?_ _
      exact ⟨rfl, w.heap.size + 1, w.heap.size, ⟨_, _, _, _, _, _, _, _, _, _, _, _, _, _, rfl⟩, hSn, hPW.2, hPW.1⟩
  · rintro a' w1 ⟨b7, b8, ⟨u9, u10, u11, u12, u13, u14, u15, u16, u17, u18, u19, u20, u21, u22, rfl⟩, k1, W7, W8⟩
    obtain ⟨q0, q1, q2, ci0, ci1, ck0, ck1⟩ := HF w1 k1
    have HL := fun (a b : EnI) w => lessI_any a b w
    have K1 := Lib.hid k1
    have c7 : w1.cell? ⟨b7, 0, none⟩ = some (.int .i64 ei.x) ∧ w1.cell? ⟨b7, 1, none⟩ = some (.int .i64 ei.came) := ⟨W7.cellAt 0, W7.cellAt 1⟩
    have c8 : w1.cell? ⟨b8, 0, none⟩ = some (.int .i64 ek.x) ∧ w1.cell? ⟨b8, 1, none⟩ = some (.int .i64 ek.came) := ⟨W8.cellAt 0, W8.cellAt 1⟩
    obtain ⟨x0, x1⟩ := c7
    obtain ⟨y0, y1⟩ := c8
    clear k1 W7 W8 HF
    go_wp2_with fail
    go_quiet (first | (go_at_call 62; refine Calls.quiet_of_same (HL ei ek _)))
    have K2 := Lib.hid (K1.out.drewN nq)
    have e0 : (w1.drewN nq).cell? ⟨p, 0, none⟩ = some (.func (.func 62) #[] #[]) := q0
    have xx0 : (w1.drewN nq).cell? ⟨b7, 0, none⟩ = some (.int .i64 ei.x) := x0
    have xx1 : (w1.drewN nq).cell? ⟨b7, 1, none⟩ = some (.int .i64 ei.came) := x1
    have yy0 : (w1.drewN nq).cell? ⟨b8, 0, none⟩ = some (.int .i64 ek.x) := y0
    have yy1 : (w1.drewN nq).cell? ⟨b8, 1, none⟩ = some (.int .i64 ek.came) := y1
    clear q0 q1 q2 x0 y0 x1 y1 K1
    generalize w1.drewN nq = w2 at *
    cases h1 : ltI ei ek
    · have HL2 := fun w => HL ek ei w
      cases h2 : ltI ek ei
      · rw [h2] at HL2
        go_wp2_with fail
        go_quiet (first | (go_at_call 62; refine Calls.quiet_of_same (HL2 _)))
        go_wp2_with fail
        go_ret
        exact ⟨by simp [ahI, h1, h2], K2.out.drewN _⟩
      · rw [h2] at HL2
        go_wp2_with fail
        go_quiet (first | (go_at_call 62; refine Calls.quiet_of_same (HL2 _)))
        go_wp2_with fail
        go_ret
        exact ⟨by simp [ahI, h1, h2], K2.out.drewN _⟩
    · go_wp2_with fail
      go_ret
      exact ⟨by simp [ahI, h1], K2.out⟩
end Go.Proofs.Ytbfhbekocgdceaa
