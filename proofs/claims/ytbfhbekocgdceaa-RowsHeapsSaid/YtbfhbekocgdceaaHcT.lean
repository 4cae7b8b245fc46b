/-
  rows.Heap of Thing: Put: the walk. Conditions: lengths within 10 ^ 8.
-/
import Derived.Test.YtbfhbekocgdceaaHbT
import Derived.Test.YtbfhbekocgdceaaHcI
import Derived.Deep.RegionLaw
namespace Go.Proofs.Ytbfhbekocgdceaa
open Go.RowKit
theorem info_eT : (Try.prog.info? 116).map (fun i => (i.zero, i.size, i.bytes)) = some (some (.agg #[.int .i64 0, .int .i64 0, .int .i64 0]), 3, 24) := by kernel_rfl
theorem HeapT.came {w : World} {p c : Nat} {A : Option Addr} {l : List EnT} {came : Int} (h : HeapT w p A c l came) (z : Int) : HeapT (w.setCell ⟨p, 2, none⟩ (.int .i64 z)) p A c l z :=
  ⟨h.box.put 2 _, ownsRow_setCell_below h.own (show p < p + 1 by omega) _⟩
/-- One more thing behind the others. -/
theorem HeapT.push {w w4 : World} {p c : Nat} {A : Option Addr} {l : List EnT} {came : Int} (h : HeapT w p A c l came) (e : EnT) (A2 : Option Addr) (c2 : Nat) (hk : Keeps (fun b => (Value.slice A l.length c).ownBlock = some b) w w4)
    (ho : w4.ownsRow (p + 1) 116 3 (.slice A2 (l.length + 1) c2) (l.length + 1) (flat EnT.cells l ++ [.int .i64 e.rank, .int .i64 e.name, .int .i64 e.came])) (hor : ∀ b, (Value.slice A2 (l.length + 1) c2).ownBlock = some b → (Value.slice A l.length c).ownBlock = some b ∨ w.heap.size ≤ b) :
    Whole w4 p 41 #[.func (.func 12) #[] #[], .slice A l.length c, .int .i64 came] ∧ HeapT (w4.setCell ⟨p, 1, none⟩ (.slice A2 (l.length + 1) c2)) p A2 c2 (l ++ [e]) came ∧ (∀ b, (Value.slice A2 (l.length + 1) c2).ownBlock = some b → (Value.slice A l.length c).ownBlock = some b ∨ w.heap.size ≤ b) ∧
      Keeps (fun b => b = p ∨ (Value.slice A l.length c).ownBlock = some b) w (w4.setCell ⟨p, 1, none⟩ (.slice A2 (l.length + 1) c2)) := by
  have hnp : ¬ (Value.slice A l.length c).ownBlock = some p := fun e => by have := (h.own.lt p e).1; omega
  have hb := h.box.keeps hk hnp
  have hl : (l ++ [e]).length = l.length + 1 := by simp
  have hf : flat EnT.cells l ++ [.int .i64 e.rank, .int .i64 e.name, .int .i64 e.came] = flat EnT.cells (l ++ [e]) := by simp [flat, EnT.cells]
  refine ⟨hb, ⟨?_, ?_⟩, hor, (hk.mono (T := fun b => b = p ∨ (Value.slice A l.length c).ownBlock = some b) (fun _ _ e => .inr e)).setCell (p := ⟨p, 1, none⟩) (fun _ => .inl rfl) _⟩
  · rw [hl]; exact hb.put 1 _
  · rw [hl, ← hf]; exact ownsRow_setCell_below ho (show p < p + 1 by omega) _
def putsT : List EnT → Int → List (Int × Int) → List EnT
  | l, _, [] => l
  | l, came, x :: r => putsT (putOneT l came x) (came + 1) r
theorem putsT_snoc (xs : List (Int × Int)) (x : (Int × Int)) : ∀ (l : List EnT) (came : Int), putsT l came (xs ++ [x]) = putOneT (putsT l came xs) (came + xs.length) x := by
  induction xs with
  | nil => intro l came; simp [putsT]
  | cons y r ih => intro l came; simp only [List.cons_append, putsT, ih]; congr 1; simp; omega
theorem upT_length (l : List EnT) (i : Nat) : (upT l i).length = l.length := by
  induction i using Nat.strongRecOn generalizing l with
  | ind i ih =>
    unfold upT
    split
    · rfl
    · split
      · split
        · rw [ih _ (by omega)]; simp [swapLT]
        · rfl
      · rfl
theorem putsT_length (xs : List (Int × Int)) : ∀ (l : List EnT) (came : Int), (putsT l came xs).length = l.length + xs.length := by
  induction xs with
  | nil => intro l came; simp [putsT]
  | cons y r ih => intro l came; rw [putsT, ih, putOneT, upT_length]; simp; omega
set_option maxRecDepth 100000 in
set_option maxHeartbeats 8000000 in
theorem hputT_any (p c cx : Nat) (came : Int) (A Ax : Option Addr) (l : List EnT) (xs : List (Int × Int)) (w : World) (h : HeapT w p A c l came) (hl : l.length + xs.length ≤ 100000000) (hcm : 0 ≤ came ∧ came ≤ 1000000000000)
    (hx : ∀ W, Keeps (fun b => b = p ∨ (Value.slice A l.length c).ownBlock = some b) w W → ∀ (j : Nat) (x : (Int × Int)), xs[j]? = some x → ∃ g off, Ax = some ⟨g, off, none⟩ ∧ W.cell? ⟨g, off + j * 2, none⟩ = some (.int .i64 x.1) ∧ W.cell? ⟨g, off + j * 2 + 1, none⟩ = some (.int .i64 x.2)) :
    Calls Try.prog 13 #[.pointer (some ⟨p, 0, none⟩), .slice Ax xs.length cx] w fun e w' => e = .returned (.bool true) ∧ ∃ A' c', HeapT w' p A' c' (putsT l came xs) (came + xs.length) ∧ Keeps (fun b => b = p ∨ (Value.slice A l.length c).ownBlock = some b) w w' ∧
      (∀ b, (Value.slice A' (putsT l came xs).length c').ownBlock = some b → (Value.slice A l.length c).ownBlock = some b ∨ w.heap.size ≤ b) := by
  have H0 := Lib.hid h
  have HX := Lib.hid hx
  obtain ⟨a0, a1, a2, f0, f1, f2⟩ := three h.box
  clear h hx
  go_enter Try.func13, Try.ntmps13
  go_wp2_with (first | (go_at_call 65; refine (hnoneT_any p _ a0).mono ?_; rintro e w' ⟨rfl, rfl⟩))
  clear a0 a1 a2 f0 f1 f2
  obtain ⟨w0, rfl⟩ : ∃ x, x = w' := ⟨_, rfl⟩
  go_loopw [12] (fun vi wr => ∃ (j : Nat) (A' : Option Addr) (c' : Nat), j ≤ xs.length ∧ vi = .int .i64 j ∧ Hid (HeapT wr p A' c' (putsT l came (xs.take j)) (came + j)) ∧ Hid (Keeps (fun b => b = p ∨ (Value.slice A l.length c).ownBlock = some b) w0 wr) ∧
      Hid (∀ b, (Value.slice A' (putsT l came (xs.take j)).length c').ownBlock = some b → (Value.slice A l.length c).ownBlock = some b ∨ w0.heap.size ≤ b)) (fun vi _ => xs.length - (intOf vi).toNat)
  case atStart => exact ⟨0, A, c, by omega, rfl, Lib.hid (by simpa [putsT] using H0.out), Lib.hid (Keeps.refl _ _), Lib.hid (fun b hb => .inl (by simpa [putsT] using hb))⟩
  case round =>
    clear H0
    obtain ⟨j, A', c', hj, rfl, HH, HK, HO⟩ := hrel
    by_cases hlt : j < xs.length
    · obtain ⟨gx, ox, hAx, hcx, hcx1⟩ := HX.out wr HK.out j xs[j] (List.getElem?_eq_getElem hlt)
      subst hAx
      have HSN : Hid (∀ lx, lx = putsT l came (xs.take j) → putsT l came (xs.take (j + 1)) = putOneT lx (came + j) xs[j]) := Lib.hid (fun lx h => by
        rw [List.take_add_one, List.getElem?_eq_getElem hlt, Option.toList_some, putsT_snoc, h, List.length_take, Nat.min_eq_left (Nat.le_of_lt hlt)])
      have hlen : (putsT l came (xs.take j)).length = l.length + j := by rw [putsT_length, List.length_take]; omega
      have HPN := HSN.out _ rfl
      have HSP := Lib.hid HPN
      clear HPN HSN
      have HLN := Lib.hid hlen
      have hl8 : (putsT l came (xs.take j)).length ≤ 100000000 := by omega
      clear hlen
      generalize putsT l came (xs.take j) = l' at *
      generalize xs[j] = x at *
      obtain ⟨came', hcame⟩ : ∃ z, z = came + (j : Int) := ⟨_, rfl⟩
      have HCM := Lib.hid hcame
      rw [← hcame] at HH HSP
      have hcb : 0 ≤ came' ∧ came' ≤ 2000000000000 := by omega
      clear hcame
      have hcb2 : came' + 1 ≤ 9223372036854775807 := by omega
      go_wp2_with fail
      clear hcx
      clear hcx1
      obtain ⟨wq, rfl⟩ : ∃ z, z = wr := ⟨_, rfl⟩
      obtain ⟨wr, hwr⟩ : ∃ z, z = wq.alloc (.cells #[.int .i64 x.1, .int .i64 x.2] 30) := ⟨_, rfl⟩
      have WY0 : Whole wr wq.heap.size 30 #[.int .i64 x.1, .int .i64 x.2] := by rw [hwr]; exact Whole.made _ _ _
      have KY : Keeps (fun _ => False) wq wr := by rw [hwr]; exact (Keeps.refl _ _).alloc _
      have hpq : p < wq.heap.size := HH.out.box.inside
      have hyo0 : ¬ (Value.slice A' l'.length c').ownBlock = some wq.heap.size := fun e => by have := (HH.out.own.lt _ e).2; omega
      rw [← hwr]
      clear hwr
      replace HH := Lib.hid (HH.out.calm KY id (fun _ _ => id))
      replace HK := Lib.hid (HK.out.and KY (fun _ _ h => h.elim))
      obtain ⟨yb, hyb⟩ : ∃ y, y = wq.heap.size := ⟨_, rfl⟩
      rw [← hyb] at hpq WY0 hyo0 ⊢
      have hyp : yb ≠ p := by omega
      have hpy : p ≠ yb := by omega
      have WY := Lib.hid WY0
      clear WY0 KY hyb hpq
      obtain ⟨a0, a1, a2, f0, f1, f2⟩ := three HH.out.box
      have hp : p < wr.heap.size := HH.out.box.inside
      obtain ⟨e, he⟩ : ∃ e : EnT, e = (EnT.mk x.1 x.2 came') := ⟨_, rfl⟩
      have HE := Lib.hid he
      clear he
      have HFIT := Lib.hid (fun w4 A2 c2 hk ho hor => HH.out.push (EnT.mk x.1 x.2 came') (w4 := w4) A2 c2 hk ho hor)
      have HOWN := Lib.hid HH.out.own
      have al1 : ∀ o, (wr.alloc o).cell? ⟨p, 1, none⟩ = some (.slice A' l'.length c') := fun o => (HH.out.box.alloc o).cellAt 1
      have al2 : ∀ o, (wr.alloc o).cell? ⟨p, 2, none⟩ = some (.int .i64 came') := fun o => (HH.out.box.alloc o).cellAt 2
      refine region_cut (fun a a' w' => (∃ u16 u17 u18 u19 u20 u21 u22 u23 u24 u25 u26 u27 u28 u29 u30 : Value, a' = (((((((((((((((a.put (some 16) u16).put (some 17) u17).put (some 18) u18).put (some 19) u19).put (some 20) u20).put (some 21) u21).put (some 22) u22).put (some 23) u23).put (some 24) u24).put (some 25) u25).put (some 26) u26).put (some 27) u27).put (some 28) u28).put (some 29) u29).put (some 30) u30)) ∧ ∃ (A2 : Option Addr) (c2 : Nat), HeapT w' p A2 c2 (l' ++ [(EnT.mk x.1 x.2 came')]) came' ∧ (∀ b, (Value.slice A2 (l'.length + 1) c2).ownBlock = some b → (Value.slice A' l'.length c').ownBlock = some b ∨ wr.heap.size ≤ b) ∧ Keeps (fun b => b = p ∨ (Value.slice A' l'.length c').ownBlock = some b) wr w') ?_ ?_
      · skip
        refine wp_region_held_drew (S := fun W => W.cell? ⟨p, 2, none⟩ = some (.int .i64 came') ∧ W.cell? ⟨yb, 0, none⟩ = some (.int .i64 x.1) ∧ W.cell? ⟨yb, 1, none⟩ = some (.int .i64 x.2)) (by kernel_rfl) (⟨a2, WY.out.cellAt 0, WY.out.cellAt 1⟩) ?_
        intro hSn
        have hd1 : wr.drew.cell? ⟨p, 1, none⟩ = some (.slice A' l'.length c') := a1
        have hal : (wr.alloc (.cells #[.int .i64 x.1, .int .i64 x.2, .int .i64 came'] 116)).cell? ⟨p, 1, none⟩ = some (.slice A' l'.length c') := al1 _
        have hal2 : (wr.alloc (.cells #[.int .i64 x.1, .int .i64 x.2, .int .i64 came'] 116)).cell? ⟨p, 2, none⟩ = some (.int .i64 came') := al2 _
        refine wpAnyH_take (i := 0) (v := ?v1) rfl (by kernel_rfl) (by kernel_rfl) (by kernel_rfl) (fun _ _ _ h => by first | exact h | exact absurd h.1 (fun e => by cases e)) (Or.inl ⟨by rfl, ?hy1⟩) (by assumption) ?rest1
        case hy1 =>
          intro w hSw
          obtain ⟨q2, qy0, qy1⟩ := hSw
          go_simp
          try with_reducible rfl
        go_simp
        refine wpAnyH_take (i := 1) (v := ?v2) rfl (by kernel_rfl) (by kernel_rfl) (by kernel_rfl) (fun _ _ _ h => by first | exact h | exact absurd h.1 (fun e => by cases e)) (Or.inl ⟨by rfl, ?hy2⟩) (by assumption) ?rest2
        case hy2 =>
          intro w hSw
          obtain ⟨q2, qy0, qy1⟩ := hSw
          go_simp
          try with_reducible rfl
        go_simp
        refine wpAnyH_take (i := 2) (v := ?v3) rfl (by kernel_rfl) (by kernel_rfl) (by kernel_rfl) (fun _ _ _ h => by first | exact h | exact absurd h.1 (fun e => by cases e)) (Or.inl ⟨by rfl, ?hy3⟩) (by assumption) ?rest3
        case hy3 =>
          intro w hSw
          obtain ⟨q2, qy0, qy1⟩ := hSw
          go_simp
          try with_reducible rfl
        go_simp
        refine wpAnyH_take (i := 3) (v := ?v4) rfl (by kernel_rfl) (by kernel_rfl) (by kernel_rfl) (fun _ _ _ h => by first | exact h | exact absurd h.1 (fun e => by cases e)) (Or.inl ⟨by rfl, ?hy4⟩) (by assumption) ?rest4
        case hy4 =>
          intro w hSw
          obtain ⟨q2, qy0, qy1⟩ := hSw
          go_simp
          try with_reducible rfl
        go_simp
        refine wpAnyH_take (i := 5) (v := ?v5) rfl (by kernel_rfl) (by kernel_rfl) (by kernel_rfl) (fun _ _ _ h => by first | exact h | exact absurd h.1 (fun e => by cases e)) (Or.inl ⟨by rfl, ?hy5⟩) (by assumption) ?rest5
        case hy5 =>
          intro w hSw
          obtain ⟨q2, qy0, qy1⟩ := hSw
          go_simp
          try with_reducible rfl
        go_simp
        refine wpAnyH_take (i := 6) (v := ?v6) rfl (by kernel_rfl) (by kernel_rfl) (by kernel_rfl) (fun _ _ _ h => by first | exact h | exact absurd h.1 (fun e => by cases e)) (Or.inl ⟨by rfl, ?hy6⟩) (by assumption) ?rest6
        case hy6 =>
          intro w hSw
          obtain ⟨q2, qy0, qy1⟩ := hSw
          go_simp
          try with_reducible rfl
        go_simp
        refine wpAnyH_take (i := 7) (v := ?v7) rfl (by kernel_rfl) (by kernel_rfl) (by kernel_rfl) (fun _ _ _ h => by first | exact h | exact absurd h.1 (fun e => by cases e)) (Or.inl ⟨by rfl, ?hy7⟩) (by assumption) ?rest7
        case hy7 =>
          intro w hSw
          obtain ⟨q2, qy0, qy1⟩ := hSw
          go_simp
          try with_reducible rfl
        go_simp
        refine wpAnyH_take (i := 8) (v := ?v8) rfl (by kernel_rfl) (by kernel_rfl) (by kernel_rfl) (fun _ _ _ h => by first | exact h | exact absurd h.1 (fun e => by cases e)) (Or.inl ⟨by rfl, ?hy8⟩) (by assumption) ?rest8
        case hy8 =>
          intro w hSw
          obtain ⟨q2, qy0, qy1⟩ := hSw
          go_simp
          try with_reducible rfl
        go_simp
        refine wpAnyH_take (i := 9) (v := ?v9) rfl (by kernel_rfl) (by kernel_rfl) (by kernel_rfl) (fun _ _ _ h => by first | exact h | exact absurd h.1 (fun e => by cases e)) (Or.inl ⟨by rfl, ?hy9⟩) (by assumption) ?rest9
        case hy9 =>
          intro w hSw
          obtain ⟨q2, qy0, qy1⟩ := hSw
          go_simp
          try with_reducible rfl
        go_simp
        refine wpAnyH_take (i := 10) (v := ?v10) rfl (by kernel_rfl) (by kernel_rfl) (by kernel_rfl) (fun _ _ _ h => by first | exact h | exact absurd h.1 (fun e => by cases e)) (Or.inl ⟨by rfl, ?hy10⟩) (by assumption) ?rest10
        case hy10 =>
          intro w hSw
          obtain ⟨q2, qy0, qy1⟩ := hSw
          go_simp
          try with_reducible rfl
        go_simp
        refine wpAnyH_ready (rs := [4, 11]) (by kernel_rfl) (by simp) ?_
        refine AllReadyH.cons rfl (fun K hK => ?sa) (AllReadyH.cons rfl (fun K hK => ?sb) AllReadyH.nil)
        case sa =>
          go_simp
          refine hK.out _ _ (hSn) (fun hSn => ?_)
          clear hK K
          go_simp
          refine wpAnyH_ready (rs := [11]) (by kernel_rfl) (by simp) ?_
          refine AllReadyH.cons rfl (fun K hK => ?_) AllReadyH.nil
          go_simp
          refine hK.out _ _ (⟨hal2, (WY.out.alloc _).cellAt 0, (WY.out.alloc _).cellAt 1⟩) (fun hSn => ?_)
          clear hK K
          go_simp
          refine wpAnyH_ready (rs := [12]) (by kernel_rfl) (by simp) ?_
          refine AllReadyH.cons rfl (fun K hK => ?_) AllReadyH.nil
          refine step_if (by rfl) ?_
          refine wp_append_cells _ _ _ 39 rfl (p + 1) 116 (.agg #[.int .i64 0, .int .i64 0, .int .i64 0]) 3 24 Try.underlying39 info_eT rfl (by decide) (.slice A' l'.length c') l'.length (flat EnT.cells l') rfl (HOWN.out.alloc _) (wr.heap.size + 1) (some ⟨wr.heap.size, 0, none⟩) 1 1 [.int .i64 x.1, .int .i64 x.2, .int .i64 came'] rfl (Lies.row (t := 116) (fr := (0, 0)) (heap_alloc_new _ _) (Nat.lt_succ_self _)) rfl (fun u hu => by simp at hu; rcases hu with rfl | rfl | rfl <;> rfl) (by simp only [maxLen]; omega) (by omega) (by show p + 1 ≤ (World.alloc _ _).heap.size; simp; omega) ?_
          intro A2 c2 w4 own2 hg2 hor _ _
          have k4 : Keeps (fun b => (Value.slice A' l'.length c').ownBlock = some b) wr w4 := (((Keeps.refl _ wr).drew).alloc _).grown hg2 (fun k hk _ => hk)
          have hor' : ∀ b, (Value.slice A2 (l'.length + 1) c2).ownBlock = some b → (Value.slice A' l'.length c').ownBlock = some b ∨ wr.heap.size ≤ b := fun b hb => by
            rcases hor with h | h
            · exact .inl (h ▸ hb)
            · rw [h] at hb; injection hb with hb; exact .inr (by rw [← hb]; show wr.heap.size ≤ (World.alloc _ _).heap.size; simp)
          have WY4 := Lib.hid (WY.out.keeps k4 hyo0)
          obtain ⟨hbx, hst⟩ := HFIT.out w4 A2 c2 k4 own2 hor'
          have HST := Lib.hid hst
          obtain ⟨b0, b1, b2, g0, g1, g2⟩ := three hbx
          clear hst k4 own2 hg2 hor hor' hbx
          refine hK.out _ _ (⟨b2, WY4.out.cellAt 0, WY4.out.cellAt 1⟩) (fun hSn => ?_)
          clear hK K
          go_simp
          refine wpAnyH_take (i := 13) (v := ?v11) rfl (by kernel_rfl) (by kernel_rfl) (by kernel_rfl) (fun _ _ _ h => by first | exact h | exact absurd h.1 (fun e => by cases e)) (Or.inl ⟨by rfl, ?hy11⟩) (by assumption) ?rest11
          case hy11 =>
            intro w hSw
            obtain ⟨q2, qy0, qy1⟩ := hSw
            go_simp
            try with_reducible rfl
          go_simp
          refine wpAnyH_take (i := 14) (v := ?v12) rfl (by kernel_rfl) (by kernel_rfl) (by kernel_rfl) (fun _ _ _ h => by first | exact h | exact absurd h.1 (fun e => by cases e)) (Or.inl ⟨by rfl, ?hy12⟩) (by assumption) ?rest12
          case hy12 =>
            intro w hSw
            obtain ⟨q2, qy0, qy1⟩ := hSw
            go_simp
            try with_reducible rfl
          go_simp
          refine wpAnyH_ready (rs := [15]) (by kernel_rfl) (by simp) ?_
          refine AllReadyH.cons rfl (fun K hK => ?_) AllReadyH.nil
          go_simp
          refine hK.out _ _ (⟨(HST.out.1.box.cellAt 2), (WY4.out.putFar (p := ⟨p, 1, none⟩) hyp _).cellAt 0, (WY4.out.putFar (p := ⟨p, 1, none⟩) hyp _).cellAt 1⟩) (fun hSn => ?_)
          clear hK K
          go_simp
          refine wpAnyH_done (by kernel_rfl) ?_ _
          exact ⟨rfl, ⟨_, _, _, _, _, _, _, _, _, _, _, _, _, _, _, rfl⟩, A2, c2, HST.out⟩
        case sb =>
          go_simp
          refine hK.out _ _ (⟨hal2, (WY.out.alloc _).cellAt 0, (WY.out.alloc _).cellAt 1⟩) (fun hSn => ?_)
          clear hK K
          go_simp
          refine wpAnyH_ready (rs := [4]) (by kernel_rfl) (by simp) ?_
          refine AllReadyH.cons rfl (fun K hK => ?_) AllReadyH.nil
          go_simp
          refine hK.out _ _ (⟨hal2, (WY.out.alloc _).cellAt 0, (WY.out.alloc _).cellAt 1⟩) (fun hSn => ?_)
          clear hK K
          go_simp
          refine wpAnyH_ready (rs := [12]) (by kernel_rfl) (by simp) ?_
          refine AllReadyH.cons rfl (fun K hK => ?_) AllReadyH.nil
          refine step_if (by rfl) ?_
          refine wp_append_cells _ _ _ 39 rfl (p + 1) 116 (.agg #[.int .i64 0, .int .i64 0, .int .i64 0]) 3 24 Try.underlying39 info_eT rfl (by decide) (.slice A' l'.length c') l'.length (flat EnT.cells l') rfl (HOWN.out.alloc _) (wr.heap.size + 1) (some ⟨wr.heap.size, 0, none⟩) 1 1 [.int .i64 x.1, .int .i64 x.2, .int .i64 came'] rfl (Lies.row (t := 116) (fr := (0, 0)) (heap_alloc_new _ _) (Nat.lt_succ_self _)) rfl (fun u hu => by simp at hu; rcases hu with rfl | rfl | rfl <;> rfl) (by simp only [maxLen]; omega) (by omega) (by show p + 1 ≤ (World.alloc _ _).heap.size; simp; omega) ?_
          intro A2 c2 w4 own2 hg2 hor _ _
          have k4 : Keeps (fun b => (Value.slice A' l'.length c').ownBlock = some b) wr w4 := (((Keeps.refl _ wr).drew).alloc _).grown hg2 (fun k hk _ => hk)
          have hor' : ∀ b, (Value.slice A2 (l'.length + 1) c2).ownBlock = some b → (Value.slice A' l'.length c').ownBlock = some b ∨ wr.heap.size ≤ b := fun b hb => by
            rcases hor with h | h
            · exact .inl (h ▸ hb)
            · rw [h] at hb; injection hb with hb; exact .inr (by rw [← hb]; show wr.heap.size ≤ (World.alloc _ _).heap.size; simp)
          have WY4 := Lib.hid (WY.out.keeps k4 hyo0)
          obtain ⟨hbx, hst⟩ := HFIT.out w4 A2 c2 k4 own2 hor'
          have HST := Lib.hid hst
          obtain ⟨b0, b1, b2, g0, g1, g2⟩ := three hbx
          clear hst k4 own2 hg2 hor hor' hbx
          refine hK.out _ _ (⟨b2, WY4.out.cellAt 0, WY4.out.cellAt 1⟩) (fun hSn => ?_)
          clear hK K
          go_simp
          refine wpAnyH_take (i := 13) (v := ?v13) rfl (by kernel_rfl) (by kernel_rfl) (by kernel_rfl) (fun _ _ _ h => by first | exact h | exact absurd h.1 (fun e => by cases e)) (Or.inl ⟨by rfl, ?hy13⟩) (by assumption) ?rest13
          case hy13 =>
            intro w hSw
            obtain ⟨q2, qy0, qy1⟩ := hSw
            go_simp
            try with_reducible rfl
          go_simp
          refine wpAnyH_take (i := 14) (v := ?v14) rfl (by kernel_rfl) (by kernel_rfl) (by kernel_rfl) (fun _ _ _ h => by first | exact h | exact absurd h.1 (fun e => by cases e)) (Or.inl ⟨by rfl, ?hy14⟩) (by assumption) ?rest14
          case hy14 =>
            intro w hSw
            obtain ⟨q2, qy0, qy1⟩ := hSw
            go_simp
            try with_reducible rfl
          go_simp
          refine wpAnyH_ready (rs := [15]) (by kernel_rfl) (by simp) ?_
          refine AllReadyH.cons rfl (fun K hK => ?_) AllReadyH.nil
          go_simp
          refine hK.out _ _ (⟨(HST.out.1.box.cellAt 2), (WY4.out.putFar (p := ⟨p, 1, none⟩) hyp _).cellAt 0, (WY4.out.putFar (p := ⟨p, 1, none⟩) hyp _).cellAt 1⟩) (fun hSn => ?_)
          clear hK K
          go_simp
          refine wpAnyH_done (by kernel_rfl) ?_ _
          exact ⟨rfl, ⟨_, _, _, _, _, _, _, _, _, _, _, _, _, _, _, rfl⟩, A2, c2, HST.out⟩
      · rintro a' w1 ⟨⟨u16, u17, u18, u19, u20, u21, u22, u23, u24, u25, u26, u27, u28, u29, u30, rfl⟩, A2, c2, hP, hor2, kp⟩
        have K6 : Hid (Keeps (fun b => b = p ∨ (Value.slice A l.length c).ownBlock = some b) w0 w1) := Lib.hid (HK.out.and kp (fun b hb h => by
          rcases h with h | h
          · exact .inl h
          · rcases HO.out b h with h | h
            · exact .inr h
            · omega))
        have O6 : Hid (∀ b, (Value.slice A2 (l'.length + 1) c2).ownBlock = some b → (Value.slice A l.length c).ownBlock = some b ∨ w0.heap.size ≤ b) := Lib.hid (fun b hb => by
          rcases hor2 b hb with h | h
          · exact HO.out b h
          · have := HK.out.size; exact .inr (by omega))
        have H7 := Lib.hid (hP.came (came' + 1))
        have hll : (l' ++ [(EnT.mk x.1 x.2 came')]).length = l'.length + 1 := by simp
        obtain ⟨a0, a1, a2, f0, f1, f2⟩ := three hP.box
        rw [hll] at a1
        have K7 : Hid (Keeps (fun b => b = p ∨ (Value.slice A l.length c).ownBlock = some b) w0 (w1.setCell ⟨p, 2, none⟩ (.int .i64 (came' + 1)))) := Lib.hid (K6.out.setCell (p := ⟨p, 2, none⟩) (fun _ => .inl rfl) _)
        clear HH HK HO hP hor2 kp K6 HFIT HOWN al1 al2
        go_wp2_with fail
        clear a0 a1 a2 f0 f1 f2
        generalize w1.setCell ⟨p, 2, none⟩ (.int .i64 (came' + 1)) = w2 at *
        go_loopw [7] (fun vi wq => ∃ (i : Nat) (l2 : List EnT), i < l2.length ∧ vi = .int .i64 i ∧ l2.length = l'.length + 1 ∧ Hid (upT l2 i = upT (l' ++ [(EnT.mk x.1 x.2 came')]) l'.length) ∧ Hid (HeapT wq p A2 c2 l2 (came' + 1)) ∧ Hid (Keeps (fun b => b = p ∨ (Value.slice A l.length c).ownBlock = some b) w0 wq)) (fun vi _ => (intOf vi).toNat)
        case atStart => exact ⟨l'.length, _, by omega, by first | rfl | go_num, hll, Lib.hid rfl, H7, K7⟩
        case round =>
          clear H7 K7
          obtain ⟨i, l2, hi, rfl, hl2, HU, HH, HK⟩ := hrel
          have HEND : Hid (upT l2 i = l2 → putsT l came (xs.take (j + 1)) = l2) := Lib.hid (fun h => by rw [HSP.out]; unfold putOneT; exact HU.out.symm.trans h)
          have HEX : Hid (∀ W : World, HeapT W p A2 c2 l2 (came' + 1) → Keeps (fun b => b = p ∨ (Value.slice A l.length c).ownBlock = some b) w0 W → upT l2 i = l2 → ∃ (j' : Nat) (A' : Option Addr) (c' : Nat), j' ≤ xs.length ∧ Value.int .i64 ((j : Int) + 1) = .int .i64 j' ∧ Hid (HeapT W p A' c' (putsT l came (xs.take j')) (came + j')) ∧ Hid (Keeps (fun b => b = p ∨ (Value.slice A l.length c).ownBlock = some b) w0 W) ∧
              Hid (∀ b, (Value.slice A' (putsT l came (xs.take j')).length c').ownBlock = some b → (Value.slice A l.length c).ownBlock = some b ∨ w0.heap.size ≤ b)) := Lib.hid (fun W hW kW h => by
            refine ⟨j + 1, A2, c2, by omega, by first | rfl | go_num, ?_, Lib.hid kW, ?_⟩
            · rw [HEND.out h]
              rw [HCM.out] at hW
              have e : came + (j : Int) + 1 = came + ((j + 1 : Nat) : Int) := by omega
              rw [e] at hW
              exact Lib.hid hW
            · rw [HEND.out h, hl2]; exact O6)
          have HL2 := Lib.hid hl2
          clear hl2
          by_cases hi0 : i = 0
          · subst hi0
            have hup : upT l2 0 = l2 := by unfold upT; rfl
            have HQ := Lib.hid (HEX.out wr HH.out HK.out hup)
            clear HEX HEND hup
            go_wp2_with fail
            exact ⟨HQ.out, by simp [intOf]; omega⟩
          · obtain ⟨k, hk⟩ : ∃ k, k = (i - 1) / 2 := ⟨_, rfl⟩
            have hki : k < i := by omega
            have hq1 : ((i : Int) - 1).tdiv 2 = (k : Int) := by rw [show (i : Int) - 1 = ((i - 1 : Nat) : Int) by omega, Int.tdiv_eq_ediv_of_nonneg (by omega)]; omega
            have hq2 : ((i : Int) - 1) / 2 = (k : Int) := by omega
            have hgi : (0 : Int) < (i : Int) := by omega
            have hib : (i : Int) ≤ 100000001 := by have := HL2.out; omega
            obtain ⟨ei, hei⟩ : ∃ e, l2[i]? = some e := ⟨_, List.getElem?_eq_getElem hi⟩
            obtain ⟨ek, hek⟩ : ∃ e, l2[k]? = some e := ⟨_, List.getElem?_eq_getElem (by omega)⟩
            have HUP : Hid (upT l2 i = if ahT ei ek then upT (swapLT l2 i k ei ek) k else l2) := Lib.hid (by
              conv => lhs; unfold upT
              rw [dif_neg hi0, hei, ← hk, hek])
            have HAH := Lib.hid (aheadT_any p c2 i k (came' + 1) A2 l2 ei ek wr HH.out hei hek)
            have HEI := Lib.hid hei
            have HEK := Lib.hid hek
            have hk2 : k < l2.length := by omega
            clear hk hei hek
            cases ha : ahT ei ek
            · have HF := HAH.out
              rw [ha] at HF
              go_wp2_with (first | (go_at_call 66; ((with_reducible refine HF.mono ?_); rintro e w3 ⟨rfl, k3⟩)))
              have HQ := Lib.hid (HEX.out w3 (HH.out.calm k3 id (fun _ _ => id)) (HK.out.and k3 (fun _ _ h => h.elim)) (by rw [HUP.out, ha]; rfl))
              exact ⟨HQ.out, by simp [intOf]; omega⟩
            · have HF := HAH.out
              rw [ha] at HF
              have HUS : Hid (upT l2 i = upT (swapLT l2 i k ei ek) k) := Lib.hid (by rw [HUP.out, ha]; rfl)
              clear HEX HEND HUP ha HAH
              go_wp2_with (first | (go_at_call 66; ((with_reducible refine HF.mono ?_); rintro e w3 ⟨rfl, k3⟩)))
              have HH3 := Lib.hid (HH.out.calm k3 id (fun _ _ => id))
              have HK3 := Lib.hid (HK.out.and k3 (fun _ _ h => h.elim))
              clear HF HH HK k3
              obtain ⟨g, hA2, hpg, hgw, HI⟩ := HH3.out.at_ HEI.out
              obtain ⟨g', hA3, _, _, HKc⟩ := HH3.out.at_ HEK.out
              obtain rfl : g = g' := by rw [hA2] at hA3; injection hA3 with h1; injection h1
              subst hA2
              clear hA3
              have HSW := Lib.hid (HH3.out.swap (ei := ei) (ek := ek) hi hk2)
              obtain ⟨a0, a1, a2, f0, f1, f2⟩ := three HH3.out.box
              have hiI : (i : Int) < (l2.length : Int) := by omega
              have hkI : (k : Int) < (l2.length : Int) := by omega
              have hne : i ≠ k := by omega
              have hne2 : k ≠ i := by omega
              have hpg2 : p ≠ g := by omega
              have hgp2 : g ≠ p := by omega
              have hW3 : ∃ cs, Whole w3 g 116 cs ∧ l2.length * 3 ≤ cs.size := by
                rcases HH3.out.own.2 with ⟨h, _⟩ | ⟨g', cap, cur, hv, _, hh, hc, _, hs, _⟩
                · cases h
                · injection hv with h1 h2 h3
                  injection h1 with h1
                  injection h1 with h1
                  subst h1 h3
                  exact ⟨cur, hh, by rw [hs]; exact Nat.mul_le_mul_right _ hc⟩
              obtain ⟨csw, hW3, hcsw⟩ := hW3
              have hWd := hW3.drew
              have HCI : Hid (w3.cell? ⟨g, i * 3, none⟩ = some (.int .i64 ei.rank) ∧ w3.cell? ⟨g, i * 3 + 1, none⟩ = some (.int .i64 ei.name) ∧ w3.cell? ⟨g, i * 3 + 2, none⟩ = some (.int .i64 ei.came)) := Lib.hid (HI w3 (Keeps.refl _ _))
              have HCK : Hid (w3.cell? ⟨g, k * 3, none⟩ = some (.int .i64 ek.rank) ∧ w3.cell? ⟨g, k * 3 + 1, none⟩ = some (.int .i64 ek.name) ∧ w3.cell? ⟨g, k * 3 + 2, none⟩ = some (.int .i64 ek.came)) := Lib.hid (HKc w3 (Keeps.refl _ _))
              have HFI : Hid (w3.frozen? ⟨g, i * 3, none⟩ = false ∧ w3.frozen? ⟨g, i * 3 + 1, none⟩ = false ∧ w3.frozen? ⟨g, i * 3 + 2, none⟩ = false) := Lib.hid ⟨hW3.free _, hW3.free _, hW3.free _⟩
              have HB1 : Hid (Whole (((w3.setCell ⟨g, i * 3, none⟩ (.int .i64 ek.rank)).setCell ⟨g, i * 3 + 1, none⟩ (.int .i64 ek.name)).setCell ⟨g, i * 3 + 2, none⟩ (.int .i64 ek.came)) p 41 #[.func (.func 12) #[] #[], .slice (some ⟨g, 0, none⟩) l2.length c2, .int .i64 (came' + 1)]) := Lib.hid ((((HH3.out.box).putFar (p := ⟨g, i * 3, none⟩) hpg2 _).putFar (p := ⟨g, i * 3 + 1, none⟩) hpg2 _).putFar (p := ⟨g, i * 3 + 2, none⟩) hpg2 _)
              have hW4 : ∃ cs, Whole (((w3.setCell ⟨g, i * 3, none⟩ (.int .i64 ek.rank)).setCell ⟨g, i * 3 + 1, none⟩ (.int .i64 ek.name)).setCell ⟨g, i * 3 + 2, none⟩ (.int .i64 ek.came)) g 116 cs ∧ l2.length * 3 ≤ cs.size := ⟨_, (((hW3).put (i * 3) _).put (i * 3 + 1) _).put (i * 3 + 2) _, by simpa using hcsw⟩
              obtain ⟨csx, hW4, hcsx⟩ := hW4
              have HFX : Hid ((∃ u, (((w3.setCell ⟨g, i * 3, none⟩ (.int .i64 ek.rank)).setCell ⟨g, i * 3 + 1, none⟩ (.int .i64 ek.name)).setCell ⟨g, i * 3 + 2, none⟩ (.int .i64 ek.came)).cell? ⟨g, k * 3, none⟩ = some u) ∧ (∃ u, (((w3.setCell ⟨g, i * 3, none⟩ (.int .i64 ek.rank)).setCell ⟨g, i * 3 + 1, none⟩ (.int .i64 ek.name)).setCell ⟨g, i * 3 + 2, none⟩ (.int .i64 ek.came)).cell? ⟨g, k * 3 + 1, none⟩ = some u) ∧ (∃ u, (((w3.setCell ⟨g, i * 3, none⟩ (.int .i64 ek.rank)).setCell ⟨g, i * 3 + 1, none⟩ (.int .i64 ek.name)).setCell ⟨g, i * 3 + 2, none⟩ (.int .i64 ek.came)).cell? ⟨g, k * 3 + 2, none⟩ = some u) ∧ (((w3.setCell ⟨g, i * 3, none⟩ (.int .i64 ek.rank)).setCell ⟨g, i * 3 + 1, none⟩ (.int .i64 ek.name)).setCell ⟨g, i * 3 + 2, none⟩ (.int .i64 ek.came)).frozen? ⟨g, k * 3, none⟩ = false ∧ (((w3.setCell ⟨g, i * 3, none⟩ (.int .i64 ek.rank)).setCell ⟨g, i * 3 + 1, none⟩ (.int .i64 ek.name)).setCell ⟨g, i * 3 + 2, none⟩ (.int .i64 ek.came)).frozen? ⟨g, k * 3 + 1, none⟩ = false ∧ (((w3.setCell ⟨g, i * 3, none⟩ (.int .i64 ek.rank)).setCell ⟨g, i * 3 + 1, none⟩ (.int .i64 ek.name)).setCell ⟨g, i * 3 + 2, none⟩ (.int .i64 ek.came)).frozen? ⟨g, k * 3 + 2, none⟩ = false) := Lib.hid ⟨⟨_, (hW4.cellAt _).trans (Array.getElem?_eq_getElem (by omega))⟩, ⟨_, (hW4.cellAt _).trans (Array.getElem?_eq_getElem (by omega))⟩, ⟨_, (hW4.cellAt _).trans (Array.getElem?_eq_getElem (by omega))⟩, hW4.free _, hW4.free _, hW4.free _⟩
              clear HI HKc hW3 hW4 hWd hcsw hcsx
              refine region_cut (fun a a' w' => (∃ u57 u58 u59 u60 u61 u62 u63 u64 u65 u66 u67 u68 u69 u70 u71 u72 u73 u74 u75 u76 u77 u78 u79 u80 u81 u82 u83 u84 u85 u86 : Value, a' = ((((((((((((((((((((((((((((((a.put (some 57) u57).put (some 58) u58).put (some 59) u59).put (some 60) u60).put (some 61) u61).put (some 62) u62).put (some 63) u63).put (some 64) u64).put (some 65) u65).put (some 66) u66).put (some 67) u67).put (some 68) u68).put (some 69) u69).put (some 70) u70).put (some 71) u71).put (some 72) u72).put (some 73) u73).put (some 74) u74).put (some 75) u75).put (some 76) u76).put (some 77) u77).put (some 78) u78).put (some 79) u79).put (some 80) u80).put (some 81) u81).put (some 82) u82).put (some 83) u83).put (some 84) u84).put (some 85) u85).put (some 86) u86)) ∧ HeapT w' p (some ⟨g, 0, none⟩) c2 (swapLT l2 i k ei ek) (came' + 1) ∧ Keeps (fun b => b = g) w3 w') ?_ ?_
              · have hw1 : IntKind.i64.wrap ((i : Int) - 1) = (i : Int) - 1 := IntWalk.i64_in _ (by omega)
                have hw2 : IntKind.i64.wrap (k : Int) = (k : Int) := IntWalk.i64_in _ (by omega)
                have hk0 : (0 : Int) ≤ (k : Int) := by omega
                have hi0 : (0 : Int) ≤ (i : Int) := by omega
                refine wp_region_held_drew (S := fun W => W.cell? ⟨p, 1, none⟩ = some (.slice (some ⟨g, 0, none⟩) l2.length c2)) (by kernel_rfl) (a1) ?_
                intro hSn
                refine wpAnyH_take (i := 0) (v := ?v15) rfl (by kernel_rfl) (by kernel_rfl) (by kernel_rfl) (fun _ _ _ h => by first | exact h | exact absurd h.1 (fun e => by cases e)) (Or.inl ⟨by rfl, ?hy15⟩) (by assumption) ?rest15
                case hy15 =>
                  intro w hSw
                  have qh := hSw
                  go_simp
                  try with_reducible rfl
                go_simp
                refine wpAnyH_take (i := 1) (v := ?v16) rfl (by kernel_rfl) (by kernel_rfl) (by kernel_rfl) (fun _ _ _ h => by first | exact h | exact absurd h.1 (fun e => by cases e)) (Or.inl ⟨by rfl, ?hy16⟩) (by assumption) ?rest16
                case hy16 =>
                  intro w hSw
                  have qh := hSw
                  go_simp
                  try with_reducible rfl
                go_simp
                refine wpAnyH_take (i := 2) (v := ?v17) rfl (by kernel_rfl) (by kernel_rfl) (by kernel_rfl) (fun _ _ _ h => by first | exact h | exact absurd h.1 (fun e => by cases e)) (Or.inl ⟨by rfl, ?hy17⟩) (by assumption) ?rest17
                case hy17 =>
                  intro w hSw
                  have qh := hSw
                  go_simp
                  try with_reducible rfl
                go_simp
                refine wpAnyH_take (i := 3) (v := ?v18) rfl (by kernel_rfl) (by kernel_rfl) (by kernel_rfl) (fun _ _ _ h => by first | exact h | exact absurd h.1 (fun e => by cases e)) (Or.inl ⟨by rfl, ?hy18⟩) (by assumption) ?rest18
                case hy18 =>
                  intro w hSw
                  have qh := hSw
                  go_simp
                  try with_reducible rfl
                go_simp
                refine wpAnyH_take (i := 4) (v := ?v19) rfl (by kernel_rfl) (by kernel_rfl) (by kernel_rfl) (fun _ _ _ h => by first | exact h | exact absurd h.1 (fun e => by cases e)) (Or.inl ⟨by rfl, ?hy19⟩) (by assumption) ?rest19
                case hy19 =>
                  intro w hSw
                  have qh := hSw
                  go_simp
                  try with_reducible rfl
                go_simp
                refine wpAnyH_take (i := 5) (v := ?v20) rfl (by kernel_rfl) (by kernel_rfl) (by kernel_rfl) (fun _ _ _ h => by first | exact h | exact absurd h.1 (fun e => by cases e)) (Or.inl ⟨by rfl, ?hy20⟩) (by assumption) ?rest20
                case hy20 =>
                  intro w hSw
                  have qh := hSw
                  go_simp
                  try with_reducible rfl
                go_simp
                refine wpAnyH_take (i := 6) (v := ?v21) rfl (by kernel_rfl) (by kernel_rfl) (by kernel_rfl) (fun _ _ _ h => by first | exact h | exact absurd h.1 (fun e => by cases e)) (Or.inl ⟨by rfl, ?hy21⟩) (by assumption) ?rest21
                case hy21 =>
                  intro w hSw
                  have qh := hSw
                  go_simp
                  try with_reducible rfl
                go_simp
                refine wpAnyH_take (i := 7) (v := ?v22) rfl (by kernel_rfl) (by kernel_rfl) (by kernel_rfl) (fun _ _ _ h => by first | exact h | exact absurd h.1 (fun e => by cases e)) (Or.inl ⟨by rfl, ?hy22⟩) (by assumption) ?rest22
                case hy22 =>
                  intro w hSw
                  have qh := hSw
                  go_simp
                  try with_reducible rfl
                go_simp
                refine wpAnyH_take (i := 8) (v := ?v23) rfl (by kernel_rfl) (by kernel_rfl) (by kernel_rfl) (fun _ _ _ h => by first | exact h | exact absurd h.1 (fun e => by cases e)) (Or.inl ⟨by rfl, ?hy23⟩) (by assumption) ?rest23
                case hy23 =>
                  intro w hSw
                  have qh := hSw
                  go_simp
                  try with_reducible rfl
                go_simp
                refine wpAnyH_take (i := 9) (v := ?v24) rfl (by kernel_rfl) (by kernel_rfl) (by kernel_rfl) (fun _ _ _ h => by first | exact h | exact absurd h.1 (fun e => by cases e)) (Or.inl ⟨by rfl, ?hy24⟩) (by assumption) ?rest24
                case hy24 =>
                  intro w hSw
                  have qh := hSw
                  go_simp
                  try with_reducible rfl
                go_simp
                refine wpAnyH_take (i := 10) (v := ?v25) rfl (by kernel_rfl) (by kernel_rfl) (by kernel_rfl) (fun _ _ _ h => by first | exact h | exact absurd h.1 (fun e => by cases e)) (Or.inl ⟨by rfl, ?hy25⟩) (by assumption) ?rest25
                case hy25 =>
                  intro w hSw
                  have qh := hSw
                  go_simp
                  try with_reducible rfl
                go_simp
                refine wpAnyH_take (i := 11) (v := ?v26) rfl (by kernel_rfl) (by kernel_rfl) (by kernel_rfl) (fun _ _ _ h => by first | exact h | exact absurd h.1 (fun e => by cases e)) (Or.inl ⟨by rfl, ?hy26⟩) (by assumption) ?rest26
                case hy26 =>
                  intro w hSw
                  have qh := hSw
                  go_simp
                  try with_reducible rfl
                go_simp
                refine wpAnyH_take (i := 12) (v := ?v27) rfl (by kernel_rfl) (by kernel_rfl) (by kernel_rfl) (fun _ _ _ h => by first | exact h | exact absurd h.1 (fun e => by cases e)) (Or.inl ⟨by rfl, ?hy27⟩) (by assumption) ?rest27
                case hy27 =>
                  intro w hSw
                  have qh := hSw
                  go_simp
                  try with_reducible rfl
                go_simp
                refine wpAnyH_take (i := 13) (v := ?v28) rfl (by kernel_rfl) (by kernel_rfl) (by kernel_rfl) (fun _ _ _ h => by first | exact h | exact absurd h.1 (fun e => by cases e)) (Or.inl ⟨by rfl, ?hy28⟩) (by assumption) ?rest28
                case hy28 =>
                  intro w hSw
                  have qh := hSw
                  go_simp
                  try with_reducible rfl
                go_simp
                refine wpAnyH_take (i := 14) (v := ?v29) rfl (by kernel_rfl) (by kernel_rfl) (by kernel_rfl) (fun _ _ _ h => by first | exact h | exact absurd h.1 (fun e => by cases e)) (Or.inl ⟨by rfl, ?hy29⟩) (by assumption) ?rest29
                case hy29 =>
                  intro w hSw
                  have qh := hSw
                  go_simp
                  try with_reducible rfl
                go_simp
                refine wpAnyH_take (i := 15) (v := ?v30) rfl (by kernel_rfl) (by kernel_rfl) (by kernel_rfl) (fun _ _ _ h => by first | exact h | exact absurd h.1 (fun e => by cases e)) (Or.inl ⟨by rfl, ?hy30⟩) (by assumption) ?rest30
                case hy30 =>
                  intro w hSw
                  have qh := hSw
                  go_simp
                  try with_reducible rfl
                go_simp
                refine wpAnyH_take (i := 16) (v := ?v31) rfl (by kernel_rfl) (by kernel_rfl) (by kernel_rfl) (fun _ _ _ h => by first | exact h | exact absurd h.1 (fun e => by cases e)) (Or.inl ⟨by rfl, ?hy31⟩) (by assumption) ?rest31
                case hy31 =>
                  intro w hSw
                  have qh := hSw
                  go_simp
                  try with_reducible rfl
                go_simp
                refine wpAnyH_take (i := 17) (v := ?v32) rfl (by kernel_rfl) (by kernel_rfl) (by kernel_rfl) (fun _ _ _ h => by first | exact h | exact absurd h.1 (fun e => by cases e)) (Or.inl ⟨by rfl, ?hy32⟩) (by assumption) ?rest32
                case hy32 =>
                  intro w hSw
                  have qh := hSw
                  go_simp
                  try with_reducible rfl
                go_simp
                refine wpAnyH_take (i := 18) (v := ?v33) rfl (by kernel_rfl) (by kernel_rfl) (by kernel_rfl) (fun _ _ _ h => by first | exact h | exact absurd h.1 (fun e => by cases e)) (Or.inl ⟨by rfl, ?hy33⟩) (by assumption) ?rest33
                case hy33 =>
                  intro w hSw
                  have qh := hSw
                  go_simp
                  try with_reducible rfl
                go_simp
                refine wpAnyH_take (i := 19) (v := ?v34) rfl (by kernel_rfl) (by kernel_rfl) (by kernel_rfl) (fun _ _ _ h => by first | exact h | exact absurd h.1 (fun e => by cases e)) (Or.inl ⟨by rfl, ?hy34⟩) (by assumption) ?rest34
                case hy34 =>
                  intro w hSw
                  have qh := hSw
                  go_simp
                  try with_reducible rfl
                go_simp
                refine wpAnyH_take (i := 21) (v := ?v35) rfl (by kernel_rfl) (by kernel_rfl) (by kernel_rfl) (fun _ _ _ h => by first | exact h | exact absurd h.1 (fun e => by cases e)) (Or.inl ⟨by rfl, ?hy35⟩) (by assumption) ?rest35
                case hy35 =>
                  intro w hSw
                  have qh := hSw
                  go_simp
                  try with_reducible rfl
                go_simp
                refine wpAnyH_take (i := 22) (v := ?v36) rfl (by kernel_rfl) (by kernel_rfl) (by kernel_rfl) (fun _ _ _ h => by first | exact h | exact absurd h.1 (fun e => by cases e)) (Or.inl ⟨by rfl, ?hy36⟩) (by assumption) ?rest36
                case hy36 =>
                  intro w hSw
                  have qh := hSw
                  go_simp
                  try with_reducible rfl
                go_simp
                refine wpAnyH_take (i := 23) (v := ?v37) rfl (by kernel_rfl) (by kernel_rfl) (by kernel_rfl) (fun _ _ _ h => by first | exact h | exact absurd h.1 (fun e => by cases e)) (Or.inl ⟨by rfl, ?hy37⟩) (by assumption) ?rest37
                case hy37 =>
                  intro w hSw
                  have qh := hSw
                  go_simp
                  try with_reducible rfl
                go_simp
                refine wpAnyH_take (i := 24) (v := ?v38) rfl (by kernel_rfl) (by kernel_rfl) (by kernel_rfl) (fun _ _ _ h => by first | exact h | exact absurd h.1 (fun e => by cases e)) (Or.inl ⟨by rfl, ?hy38⟩) (by assumption) ?rest38
                case hy38 =>
                  intro w hSw
                  have qh := hSw
                  go_simp
                  try with_reducible rfl
                go_simp
                refine wpAnyH_take (i := 25) (v := ?v39) rfl (by kernel_rfl) (by kernel_rfl) (by kernel_rfl) (fun _ _ _ h => by first | exact h | exact absurd h.1 (fun e => by cases e)) (Or.inl ⟨by rfl, ?hy39⟩) (by assumption) ?rest39
                case hy39 =>
                  intro w hSw
                  have qh := hSw
                  go_simp
                  try with_reducible rfl
                go_simp
                refine wpAnyH_take (i := 26) (v := ?v40) rfl (by kernel_rfl) (by kernel_rfl) (by kernel_rfl) (fun _ _ _ h => by first | exact h | exact absurd h.1 (fun e => by cases e)) (Or.inl ⟨by rfl, ?hy40⟩) (by assumption) ?rest40
                case hy40 =>
                  intro w hSw
                  have qh := hSw
                  go_simp
                  try with_reducible rfl
                go_simp
                refine wpAnyH_ready (rs := [20, 27]) (by kernel_rfl) (by simp) ?_
                refine AllReadyH.cons rfl (fun K hK => ?sa) (AllReadyH.cons rfl (fun K hK => ?sb) AllReadyH.nil)
                case sa =>
                  obtain ⟨ck0, ck1, ck2⟩ := HCK.out
                  go_simp
                  refine hK.out _ _ (hSn) (fun hSn => ?_)
                  clear hK K
                  go_simp
                  refine wpAnyH_ready (rs := [27]) (by kernel_rfl) (by simp) ?_
                  refine AllReadyH.cons rfl (fun K hK => ?_) AllReadyH.nil
                  obtain ⟨ci0, ci1, ci2⟩ := HCI.out
                  go_simp
                  refine hK.out _ _ (hSn) (fun hSn => ?_)
                  clear hK K
                  go_simp
                  refine wpAnyH_take (i := 28) (v := ?v41) rfl (by kernel_rfl) (by kernel_rfl) (by kernel_rfl) (fun _ _ _ h => by first | exact h | exact absurd h.1 (fun e => by cases e)) (Or.inl ⟨by rfl, ?hy41⟩) (by assumption) ?rest41
                  case hy41 =>
                    intro w hSw
                    have qh := hSw
                    go_simp
                    try with_reducible rfl
                  go_simp
                  refine wpAnyH_ready (rs := [29]) (by kernel_rfl) (by simp) ?_
                  refine AllReadyH.cons rfl (fun K hK => ?_) AllReadyH.nil
                  obtain ⟨ci0, ci1, ci2⟩ := HCI.out
                  obtain ⟨fi0, fi1, fi2⟩ := HFI.out
                  go_simp
                  refine hK.out _ _ ((HB1.out.cellAt 1)) (fun hSn => ?_)
                  clear hK K
                  go_simp
                  refine wpAnyH_take (i := 30) (v := ?v42) rfl (by kernel_rfl) (by kernel_rfl) (by kernel_rfl) (fun _ _ _ h => by first | exact h | exact absurd h.1 (fun e => by cases e)) (Or.inl ⟨by rfl, ?hy42⟩) (by assumption) ?rest42
                  case hy42 =>
                    intro w hSw
                    have qh := hSw
                    go_simp
                    try with_reducible rfl
                  go_simp
                  refine wpAnyH_ready (rs := [31]) (by kernel_rfl) (by simp) ?_
                  refine AllReadyH.cons rfl (fun K hK => ?_) AllReadyH.nil
                  obtain ⟨⟨cv0, cx0⟩, ⟨cv1, cx1⟩, ⟨cv2, cx2⟩, fx0, fx1, fx2⟩ := HFX.out
                  go_simp
                  refine hK.out _ _ ((HSW.out.1.box.cellAt 1).trans (by simp [swapLT])) (fun hSn => ?_)
                  clear hK K
                  go_simp
                  refine wpAnyH_done (by kernel_rfl) ?_ _
                  exact ⟨rfl, ⟨_, _, _, _, _, _, _, _, _, _, _, _, _, _, _, _, _, _, _, _, _, _, _, _, _, _, _, _, _, _, rfl⟩, HSW.out⟩
                case sb =>
                  obtain ⟨ci0, ci1, ci2⟩ := HCI.out
                  go_simp
                  refine hK.out _ _ (hSn) (fun hSn => ?_)
                  clear hK K
                  go_simp
                  refine wpAnyH_ready (rs := [20]) (by kernel_rfl) (by simp) ?_
                  refine AllReadyH.cons rfl (fun K hK => ?_) AllReadyH.nil
                  obtain ⟨ck0, ck1, ck2⟩ := HCK.out
                  go_simp
                  refine hK.out _ _ (hSn) (fun hSn => ?_)
                  clear hK K
                  go_simp
                  refine wpAnyH_take (i := 28) (v := ?v43) rfl (by kernel_rfl) (by kernel_rfl) (by kernel_rfl) (fun _ _ _ h => by first | exact h | exact absurd h.1 (fun e => by cases e)) (Or.inl ⟨by rfl, ?hy43⟩) (by assumption) ?rest43
                  case hy43 =>
                    intro w hSw
                    have qh := hSw
                    go_simp
                    try with_reducible rfl
                  go_simp
                  refine wpAnyH_ready (rs := [29]) (by kernel_rfl) (by simp) ?_
                  refine AllReadyH.cons rfl (fun K hK => ?_) AllReadyH.nil
                  obtain ⟨ci0, ci1, ci2⟩ := HCI.out
                  obtain ⟨fi0, fi1, fi2⟩ := HFI.out
                  go_simp
                  refine hK.out _ _ ((HB1.out.cellAt 1)) (fun hSn => ?_)
                  clear hK K
                  go_simp
                  refine wpAnyH_take (i := 30) (v := ?v44) rfl (by kernel_rfl) (by kernel_rfl) (by kernel_rfl) (fun _ _ _ h => by first | exact h | exact absurd h.1 (fun e => by cases e)) (Or.inl ⟨by rfl, ?hy44⟩) (by assumption) ?rest44
                  case hy44 =>
                    intro w hSw
                    have qh := hSw
                    go_simp
                    try with_reducible rfl
                  go_simp
                  refine wpAnyH_ready (rs := [31]) (by kernel_rfl) (by simp) ?_
                  refine AllReadyH.cons rfl (fun K hK => ?_) AllReadyH.nil
                  obtain ⟨⟨cv0, cx0⟩, ⟨cv1, cx1⟩, ⟨cv2, cx2⟩, fx0, fx1, fx2⟩ := HFX.out
                  go_simp
                  refine hK.out _ _ ((HSW.out.1.box.cellAt 1).trans (by simp [swapLT])) (fun hSn => ?_)
                  clear hK K
                  go_simp
                  refine wpAnyH_done (by kernel_rfl) ?_ _
                  exact ⟨rfl, ⟨_, _, _, _, _, _, _, _, _, _, _, _, _, _, _, _, _, _, _, _, _, _, _, _, _, _, _, _, _, _, rfl⟩, HSW.out⟩
              · rintro a' w5 ⟨⟨u57, u58, u59, u60, u61, u62, u63, u64, u65, u66, u67, u68, u69, u70, u71, u72, u73, u74, u75, u76, u77, u78, u79, u80, u81, u82, u83, u84, u85, u86, rfl⟩, hS, kS⟩
                have HS := Lib.hid hS
                have HKS : Hid (Keeps (fun b => b = p ∨ (Value.slice A l.length c).ownBlock = some b) w0 w5) := Lib.hid (HK3.out.and kS (fun b hb h => by
                  obtain rfl : b = g := h
                  rcases O6.out b rfl with h2 | h2
                  · exact .inr h2
                  · omega))
                have hsl : (swapLT l2 i k ei ek).length = l2.length := by simp [swapLT]
                have HSL := Lib.hid hsl
                clear hS kS HSW HCI HCK HFI HB1 HFX a0 a1 a2 f0 f1 f2 hsl
                go_wp2_with fail
                go_roundw
                case rel => exact ⟨k, _, by rw [HSL.out]; exact hk2, by first | rfl | go_num, by rw [HSL.out]; exact HL2.out, Lib.hid (by rw [← HUS.out]; exact HU.out), HS, HKS⟩
                case measure => simp [intOf]; omega
    · have hj2 : j = xs.length := by omega
      subst hj2
      rw [List.take_length] at HH HO
      go_wp2_with fail
      go_ret
      exact ⟨rfl, A', c', HH.out, HK.out, HO.out⟩
end Go.Proofs.Ytbfhbekocgdceaa
