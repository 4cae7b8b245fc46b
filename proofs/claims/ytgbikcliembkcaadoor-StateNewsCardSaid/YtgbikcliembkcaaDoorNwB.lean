/-
  The program's New: the walk. Conditions: lengths within 10 ^ 9.
-/
import Derived.Test.YtgbikcliembkcaaDoorStMk
namespace Go.Proofs.YtgbikcliembkcaaDoor
open Go.RowKit
theorem newOk_head {decks : List (List Cd)} {life energy : Int} (h : ¬ (2 ≤ decks.length ∧ decks.length ≤ 4 ∧ statB life = true ∧ statB energy = true)) : newOk decks life energy = false := by
  cases hb : newOk decks life energy
  · rfl
  · simp only [newOk, Bool.and_eq_true, decide_eq_true_eq] at hb
    exact absurd ⟨hb.1.1.1.1.1.1, hb.1.1.1.1.1.2, hb.1.1.1.1.2, hb.1.1.1.2⟩ h
theorem rows_there {decks : List (List Cd)} {p : Nat} (hp : p < decks.length) (k : Nat) : (newZones k (decks.take p) ++ List.replicate (4 * (decks.length - p)) ([] : List Int))[4 * p]? = some [] := by
  have hl : (newZones k (decks.take p)).length = 4 * p := by rw [newZones_length, List.length_take, Nat.min_eq_left (Nat.le_of_lt hp)]
  rw [List.getElem?_append_right (by omega), hl, Nat.sub_self, List.getElem?_replicate, if_pos (by omega)]
theorem zones_next {decks : List (List Cd)} {p : Nat} {d : List Cd} (hd : decks[p]? = some d) : (newZones 0 (decks.take p) ++ List.replicate (4 * (decks.length - p)) ([] : List Int)).set (4 * p) (rangeI (decks.take p).flatten.length d.length) = newZones 0 (decks.take (p + 1)) ++ List.replicate (4 * (decks.length - (p + 1))) [] := by
  have hp := (List.getElem?_eq_some_iff.1 hd).1
  have hl : (newZones 0 (decks.take p)).length = 4 * p := by rw [newZones_length, List.length_take, Nat.min_eq_left (Nat.le_of_lt hp)]
  rw [List.take_add_one, hd, newZones_append, List.set_append_right _ _ (by omega), hl, Nat.sub_self, Nat.zero_add]
  rw [show 4 * (decks.length - p) = 4 * (decks.length - (p + 1)) + 1 + 1 + 1 + 1 by omega]
  simp [newZones, List.replicate_succ]
theorem cards_next {decks : List (List Cd)} {p : Nat} {d : List Cd} (hd : decks[p]? = some d) : newCards 0 (decks.take p) ++ d.map (ownedBy p) = newCards 0 (decks.take (p + 1)) := by
  have hp := (List.getElem?_eq_some_iff.1 hd).1
  rw [List.take_add_one, hd, newCards_append, List.length_take, Nat.min_eq_left (Nat.le_of_lt hp)]
  simp [newCards]
theorem CellsApart.nils (m : Nat) : CellsApart (List.replicate m (Value.slice none 0 0)) := fun i j u v _ hu _ b hb => by
  rw [List.getElem?_replicate] at hu
  split at hu
  · injection hu with hu; subst hu; cases hb
  · cases hu
theorem RowsOwn.made {w : World} {B gz m : Nat} (h : Whole w gz 74 (madeCells #[.slice none 0 0] m)) (hB : B ≤ gz) (hm : m ≤ maxLen) : RowsOwn w B (.slice (some ⟨gz, 0, none⟩) (List.replicate m ([] : List Int)).length m) (List.replicate m []) (List.replicate m (.slice none 0 0)) := by
  refine ⟨?_, fun i r hi => ?_⟩
  · rw [List.length_replicate]
    refine ⟨by simp, .inr ⟨gz, m, _, rfl, hB, h, Nat.le_refl _, hm, by rw [size_madeCells, Nat.mul_one], ?_⟩⟩
    rw [toList_madeCells_one, Nat.mul_one, List.take_of_length_le (by simp)]
  · rw [List.getElem?_replicate] at hi
    split at hi
    · rename_i hlt
      injection hi with hi
      subst hi
      exact ⟨none, 0, by rw [List.getElem?_replicate, if_pos hlt]; rfl, World.ownsRow_nil _ _ _ _⟩
    · cases hi
/-- The zero state laid into the result's block once more. -/
theorem NewSt.undo {w wr : World} {n : Nat} {life energy : Int} {gs gp gz gf q : Nat} {cs : Array Value} {Ac : Option Addr} {cc : Nat} {cards : List Cd} {rows : List (List Int)} {cells : List Value} (h : NewSt w wr n life energy gs gp gz gf q cs Ac cc cards rows cells) :
    Whole (((((((wr.setCell ⟨w.heap.size, 0, none⟩ (.slice none 0 0)).setCell ⟨w.heap.size, 1, none⟩ (.slice none 0 0)).setCell ⟨w.heap.size, 2, none⟩ (.slice none 0 0)).setCell ⟨w.heap.size, 3, none⟩ (.int .i32 0)).setCell ⟨w.heap.size, 4, none⟩ (.int .i64 0)).setCell ⟨w.heap.size, 5, none⟩ (.int .i8 0)).setCell ⟨w.heap.size, 6, none⟩ (.int .i64 0)) w.heap.size 32 #[.slice none 0 0, .slice none 0 0, .slice none 0 0, .int .i32 0, .int .i64 0, .int .i8 0, .int .i64 0] ∧ Keeps (fun _ => False) w (((((((wr.setCell ⟨w.heap.size, 0, none⟩ (.slice none 0 0)).setCell ⟨w.heap.size, 1, none⟩ (.slice none 0 0)).setCell ⟨w.heap.size, 2, none⟩ (.slice none 0 0)).setCell ⟨w.heap.size, 3, none⟩ (.int .i32 0)).setCell ⟨w.heap.size, 4, none⟩ (.int .i64 0)).setCell ⟨w.heap.size, 5, none⟩ (.int .i8 0)).setCell ⟨w.heap.size, 6, none⟩ (.int .i64 0)) := ⟨(((((((h.res.put 0 (.slice none 0 0)).put 1 (.slice none 0 0)).put 2 (.slice none 0 0)).put 3 (.int .i32 0)).put 4 (.int .i64 0)).put 5 (.int .i8 0)).put 6 (.int .i64 0)), (((((((h.keeps.setCell (p := ⟨w.heap.size, 0, none⟩) (fun h => absurd h (Nat.lt_irrefl _)) (.slice none 0 0)).setCell (p := ⟨w.heap.size, 1, none⟩) (fun h => absurd h (Nat.lt_irrefl _)) (.slice none 0 0)).setCell (p := ⟨w.heap.size, 2, none⟩) (fun h => absurd h (Nat.lt_irrefl _)) (.slice none 0 0)).setCell (p := ⟨w.heap.size, 3, none⟩) (fun h => absurd h (Nat.lt_irrefl _)) (.int .i32 0)).setCell (p := ⟨w.heap.size, 4, none⟩) (fun h => absurd h (Nat.lt_irrefl _)) (.int .i64 0)).setCell (p := ⟨w.heap.size, 5, none⟩) (fun h => absurd h (Nat.lt_irrefl _)) (.int .i8 0)).setCell (p := ⟨w.heap.size, 6, none⟩) (fun h => absurd h (Nat.lt_irrefl _)) (.int .i64 0))⟩
theorem flat_next_le {α : Type} (xs : List (List α)) (p : Nat) (d : List α) (h : xs[p]? = some d) : (xs.take p).flatten.length + d.length ≤ xs.flatten.length := by
  have := flat_take_le xs (p + 1)
  rwa [flat_take_next xs p d h, List.length_append] at this
theorem newOk_total {decks : List (List Cd)} {life energy : Int} (h : 256 < decks.flatten.length ∨ decks.flatten.length = 0) : newOk decks life energy = false := by
  cases hb : newOk decks life energy
  · rfl
  · simp only [newOk, Bool.and_eq_true, decide_eq_true_eq] at hb
    omega
theorem newOk_card {decks : List (List Cd)} {life energy : Int} {c : Cd} (hc : c ∈ newCards 0 decks) (h : cardB decks.length c = false) : newOk decks life energy = false := by
  cases hb : newOk decks life energy
  · rfl
  · simp only [newOk, Bool.and_eq_true, List.all_eq_true] at hb
    rw [hb.2 c hc] at h; cases h
theorem set_same {α : Type} (l : List α) (i : Nat) (a : α) (h : l[i]? = some a) : l.set i a = l := by
  apply List.ext_getElem?
  intro k
  rw [List.getElem?_set]
  split
  · rename_i e
    subst e
    have := (List.getElem?_eq_some_iff.1 h).1
    rw [if_pos this, h]
  · rfl
theorem stV_new (decks : List (List Cd)) (life energy : Int) (Ap Ac Az : Option Addr) (cp cc cz : Nat) : stV (newS decks life energy) Ap Ac Az cp cc cz = .agg #[.slice Ap decks.length cp, .slice Ac (newCards 0 decks).length cc, .slice Az (4 * decks.length) cz, .int .i32 1, .int .i64 0, .int .i8 0, .int .i64 0] := by
  unfold stV newS
  rw [List.length_replicate, newZones_length]
theorem NewSt.copy {w wr w' : World} {decks : List (List Cd)} {life energy : Int} {gs gp gz gf : Nat} {cs : Array Value} {Ac : Option Addr} {cc : Nat} {cells : List Value} (h : NewSt w wr decks.length life energy gs gp gz gf decks.length cs Ac cc (newCards 0 decks) (newZones 0 decks) cells) (hk : Keeps (fun b => b = w.heap.size) wr w') (hm : decks.length ≤ 1000000000 := by omega) :
    CopyIn w' w.heap.size (newS decks life energy) (some ⟨gp, 0, none⟩) Ac (some ⟨gz, 0, none⟩) decks.length cc (4 * decks.length) cells := by
  have hfull := h.filled.full (by rw [List.size_toArray, flat_length (k := 3) (fun _ => rfl), List.length_replicate]; exact Nat.le_refl _)
  have hp : wr.ownsRow (w.heap.size + 1) 72 3 (.slice (some ⟨gp, 0, none⟩) (List.replicate decks.length (⟨life, energy, false⟩ : Pl)).length decks.length) (List.replicate decks.length (⟨life, energy, false⟩ : Pl)).length (flat Pl.cells (List.replicate decks.length ⟨life, energy, false⟩)) := by
    have hl := flat_length (f := Pl.cells) (k := 3) (fun _ => rfl) (List.replicate decks.length (⟨life, energy, false⟩ : Pl))
    refine ⟨hl, .inr ⟨gp, decks.length, cs, rfl, h.news.2.1, h.players, by rw [List.length_replicate]; exact Nat.le_refl _, by simp only [maxLen]; omega, ?_, ?_⟩⟩
    · rw [hfull, List.size_toArray, hl, List.length_replicate]
    · rw [hfull, List.take_of_length_le (by rw [hl]; exact Nat.le_refl _)]
  exact ⟨(own_keepsS hp hk (fun b hb e => by have := (hp.lt b hb).1; omega)).mono (by omega), (own_keepsS h.cards hk (fun b hb e => by have := (h.cards.lt b hb).1; omega)).mono (by omega), (h.zones.keeps hk (fun b hb e => by omega)).mono (by omega)⟩
/-- What New tells. -/
def NewTells (decks : List (List Cd)) (life energy : Int) (w : World) (e : Ending) (w' : World) : Prop :=
  (newOk decks life energy = false → e = .returned (.tuple #[stV stZero none none none 0 0 0, .int .i64 1])) ∧
  (newOk decks life energy = true → ∃ Ap Ac Az cp cc cz cells, e = .returned (.tuple #[stV (newS decks life energy) Ap Ac Az cp cc cz, .int .i64 0]) ∧ CopyIn w' w.heap.size (newS decks life energy) Ap Ac Az cp cc cz cells ∧ CellsApart cells) ∧ Keeps (fun _ => False) w w'
theorem NewTells.no {decks : List (List Cd)} {life energy : Int} {w w' : World} (h : newOk decks life energy = false) (hk : Keeps (fun _ => False) w w') : NewTells decks life energy w (.returned (.tuple #[.agg #[.slice none 0 0, .slice none 0 0, .slice none 0 0, .int .i32 0, .int .i64 0, .int .i8 0, .int .i64 0], .int .i64 1])) w' :=
  ⟨fun _ => rfl, fun h' => (by rw [h] at h'; cases h'), hk⟩
theorem results_cell_tmp2 {P : Program} {fn : Func} {a b : Tmp} {t : TypeId} (h : fn.results = #[.cell a t, .tmp b]) (tmps : Array Value) (g : Nat) (hp : tmps.getD a undef = .pointer (some ⟨g, 0, none⟩)) (cs : Array Value) (w : World) (hW : Whole w g t cs) (d : TypeDesc) (hu : P.underlying t = some d)
    (hd : (match d with | .struct _ | .array _ _ => true | _ => false) = true) (hi : (P.info? t).map (·.size) = some cs.size) : (results fn tmps).run P w = .ok (.tuple #[.agg cs, tmps.getD b undef]) w := by
  have hl := run_loadVar_row (P := P) w g t t cs (0, 0) d hW hu hd hi
  have hp' : tmps[a]?.getD undef = .pointer (some ⟨g, 0, none⟩) := by rw [← Array.getD_eq_getD_getElem?]; exact hp
  simp [results, h, hp', asAddr, hl]
theorem at0 {W : World} {n : Nat} {t : TypeId} {x : Array Value} {o1 o2 : Obj} (hn : W.heap.size = n) : Whole (((W.alloc (.cells x t)).alloc o1).alloc o2).drew n t x := by
  subst hn; exact (((Whole.made W t x).alloc o1).alloc o2).drew
theorem at1 {W : World} {n : Nat} {t : TypeId} {x : Array Value} {o1 o2 : Obj} (hn : W.heap.size = n) : Whole (((W.alloc o1).alloc (.cells x t)).alloc o2).drew (n + 1) t x := by
  subst hn
  have h := ((Whole.made (W.alloc o1) t x).alloc o2).drew
  rwa [show (W.alloc o1).heap.size = W.heap.size + 1 by simp] at h
theorem at2 {W : World} {n : Nat} {t : TypeId} {x : Array Value} {o1 o2 : Obj} (hn : W.heap.size = n) : Whole (((W.alloc o1).alloc o2).alloc (.cells x t)).drew (n + 1 + 1) t x := by
  subst hn
  have h := (Whole.made ((W.alloc o1).alloc o2) t x).drew
  rwa [show ((W.alloc o1).alloc o2).heap.size = W.heap.size + 1 + 1 by simp] at h
/-- A region, cut: what it leaves is told of the frame ahead of it. -/
theorem region_cut {P : Program} {c : Code} {Q : Exit → Act → World → Prop} {a : Act} {w : World} (R : Act → Act → World → Prop) (h1 : Code.wp P c (fun e a' w' => e = .normal ∧ R a a' w') a w) (h2 : ∀ a' w', R a a' w' → Q .normal a' w') : Code.wp P c Q a w :=
  Code.wp_mono (fun e a' w' h => by obtain ⟨rfl, h⟩ := h; exact h2 a' w' h) h1
set_option maxRecDepth 100000 in
set_option maxHeartbeats 4000000 in
theorem new_any (decks : List (List Cd)) (life energy : Int) (A : Option Addr) (B cap : Nat) (w : World) (hx : DecksLie w B A decks) (hB : B ≤ w.heap.size) (hl : decks.length ≤ 1000000000) (hr : ∀ d ∈ decks, d.length ≤ 1000000000) :
    Calls Tryd.prog 7 #[.slice A decks.length cap, .int .i32 life, .int .i32 energy] w fun e w' => NewTells decks life energy w e w' := by
  have HX := Lib.hid hx
  have HR := Lib.hid hr
  have HM := Lib.hid (Whole.made w 32 #[.slice none 0 0, .slice none 0 0, .slice none 0 0, .int .i32 0, .int .i64 0, .int .i8 0, .int .i64 0])
  have KK := Lib.hid ((Keeps.refl (fun _ => False) w).alloc (.cells #[.slice none 0 0, .slice none 0 0, .slice none 0 0, .int .i32 0, .int .i64 0, .int .i8 0, .int .i64 0] 32))
  clear hx hr
  by_cases hn : 2 ≤ decks.length ∧ decks.length ≤ 4
  rotate_left
  · have HF := Lib.hid (newOk_head (decks := decks) (life := life) (energy := energy) (fun h => hn ⟨h.1, h.2.1⟩))
    go_enter Tryd.func7, Tryd.ntmps7
    go_wp2_with fail
    all_goals
      refine bodyPost_ret (results_cell_tmp2 rfl _ w.heap.size rfl _ _ HM.out _ Tryd.underlying32 rfl (by kernel_rfl)) rfl ?_
      exact NewTells.no HF.out KK.out
  obtain ⟨hn2, hn4⟩ := hn
  cases hs1 : statB life
  · have HF := Lib.hid (newOk_head (decks := decks) (life := life) (energy := energy) (fun h => by rw [hs1] at h; exact absurd h.2.2.1 (by decide)))
    go_enter Tryd.func7, Tryd.ntmps7
    go_wp2_with fail
    refine (stat_any life _).mono ?_
    rintro e w1 ⟨rfl, rfl⟩
    rw [hs1]
    go_wp2_with fail
    refine bodyPost_ret (results_cell_tmp2 rfl _ w.heap.size rfl _ _ HM.out _ Tryd.underlying32 rfl (by kernel_rfl)) rfl ?_
    exact NewTells.no HF.out KK.out
  cases hs2 : statB energy
  · have HF := Lib.hid (newOk_head (decks := decks) (life := life) (energy := energy) (fun h => by rw [hs2] at h; exact absurd h.2.2.2 (by decide)))
    go_enter Tryd.func7, Tryd.ntmps7
    go_wp2_with fail
    refine (stat_any life _).mono ?_
    rintro e w1 ⟨rfl, rfl⟩
    rw [hs1]
    go_wp2_with fail
    refine (stat_any energy _).mono ?_
    rintro e w1 ⟨rfl, rfl⟩
    rw [hs2]
    go_wp2_with fail
    refine bodyPost_ret (results_cell_tmp2 rfl _ w.heap.size rfl _ _ HM.out _ Tryd.underlying32 rfl (by kernel_rfl)) rfl ?_
    exact NewTells.no HF.out KK.out
  go_enter Tryd.func7, Tryd.ntmps7
  go_wp2_with fail
  refine (stat_any life _).mono ?_
  rintro e w1 ⟨rfl, rfl⟩
  rw [hs1]
  go_wp2_with fail
  refine (stat_any energy _).mono ?_
  rintro e w1 ⟨rfl, rfl⟩
  rw [hs2]
  go_wp2_with fail
  have hmkp : ∀ w : World, (Instr.makeSlice 28 (.int .i64 (decks.length : Int)) (.int .i64 (decks.length : Int))).run Tryd.prog w = .ok (.slice (some ⟨w.heap.size, 0, none⟩) decks.length decks.length) (w.alloc (.cells (madeCells #[.int .i32 0, .int .i32 0, .bool false] (decks.length * 3)) 72)) := fun w => make_rows 28 72 _ 3 12 Tryd.underlying28 info_pl decks.length (by omega) (by omega) w
  have hmkz : ∀ w : World, (Instr.makeSlice 29 (.int .i64 (4 * (decks.length : Int))) (.int .i64 (4 * (decks.length : Int)))).run Tryd.prog w = .ok (.slice (some ⟨w.heap.size, 0, none⟩) (4 * decks.length) (4 * decks.length)) (w.alloc (.cells (madeCells #[.slice none 0 0] (4 * decks.length)) 74)) := fun w => by
    have := run_make_row' (P := Tryd.prog) 29 74 (.slice none 0 0) 24 Tryd.underlying29 info_row rfl .i64 .i64 (4 * decks.length) (by omega) (by omega) w
    rwa [show ((4 * decks.length : Nat) : Int) = 4 * (decks.length : Int) by omega] at this
  have HWR : IntKind.i64.wrap (4 * (decks.length : Int)) = 4 * (decks.length : Int) := by rw [IntKind.wrap_i64]; omega
  refine region_cut (fun a a' w' => ∃ gs gp gz : Nat, a' = ((((((a.put (some 9) (.pointer (some ⟨gs, 0, none⟩))).put (some 34) (.int .i64 decks.length)).put (some 35) (.slice (some ⟨gp, 0, none⟩) decks.length decks.length)).put (some 36) (.int .i64 decks.length)).put (some 37) (.int .i64 (4 * (decks.length : Int)))).put (some 38) (.slice (some ⟨gz, 0, none⟩) (4 * decks.length) (4 * decks.length))).put (some 39) (.agg #[.slice (some ⟨gp, 0, none⟩) decks.length decks.length, .slice none 0 0, .slice (some ⟨gz, 0, none⟩) (4 * decks.length) (4 * decks.length), .int .i32 1, .int .i64 0, .int .i8 0, .int .i64 0]) ∧
    w.heap.size < gs ∧ w.heap.size < gp ∧ w.heap.size < gz ∧ Whole w' gs 32 #[.slice (some ⟨gp, 0, none⟩) decks.length decks.length, .slice none 0 0, .slice (some ⟨gz, 0, none⟩) (4 * decks.length) (4 * decks.length), .int .i32 1, .int .i64 0, .int .i8 0, .int .i64 0] ∧ Whole w' gp 72 (madeCells #[.int .i32 0, .int .i32 0, .bool false] (decks.length * 3)) ∧ Whole w' gz 74 (madeCells #[.slice none 0 0] (4 * decks.length)) ∧ Keeps (fun _ => False) (w.alloc (.cells #[.slice none 0 0, .slice none 0 0, .slice none 0 0, .int .i32 0, .int .i64 0, .int .i8 0, .int .i64 0] 32)) w') ?_ ?_
  · have hsz : (w.alloc (.cells #[.slice none 0 0, .slice none 0 0, .slice none 0 0, .int .i32 0, .int .i64 0, .int .i8 0, .int .i64 0] 32)).heap.size = w.heap.size + 1 := by simp
    have HSZ := Lib.hid hsz
    clear hsz
    go_region
    all_goals
      have hsz := HSZ.out
      simp only [Act.put, List.setIfInBounds_toArray, List.set_cons_zero, List.set_cons_succ]
      refine ⟨by first | rfl | trivial, _, _, _, rfl, by omega, by omega, by omega, ?_, ?_, ?_, ?_⟩
      · first | exact at0 hsz | exact at1 hsz | exact at2 hsz
      · first | exact at0 hsz | exact at1 hsz | exact at2 hsz
      · first | exact at0 hsz | exact at1 hsz | exact at2 hsz
      · exact ((((Keeps.refl _ _).alloc _).alloc _).alloc _).drew
  · rintro a' w0 ⟨gs, gp, gz, rfl, g1, g2, g3, WS, WP, WZ, K1⟩
    simp only [Act.put, List.setIfInBounds_toArray, List.set_cons_zero, List.set_cons_succ]
    clear hmkp hmkz HWR
    have HS := Lib.hid WS
    have HP := Lib.hid WP
    have HZ := Lib.hid WZ
    have HM1 := Lib.hid (HM.out.keeps K1 id)
    have KK1 := Lib.hid (KK.out.trans K1)
    have hG : Hid (w.heap.size < gs ∧ w.heap.size < gp ∧ w.heap.size < gz) := Lib.hid ⟨g1, g2, g3⟩
    have hsw : w.heap.size + 1 ≤ w0.heap.size := by have := WS.inside; omega
    have hgp := WP.inside
    have N0 : Hid (NewSt w (w0.alloc (.cells #[.int .i32 life, .int .i32 energy, .bool false] 72)) decks.length life energy gs gp gz w0.heap.size 0 (madeCells #[.int .i32 0, .int .i32 0, .bool false] (decks.length * 3)) none 0 (newCards 0 (decks.take 0)) (newZones 0 (decks.take 0) ++ List.replicate (4 * (decks.length - 0)) []) (List.replicate (4 * decks.length) (.slice none 0 0))) := Lib.hid
      ⟨KK1.out.alloc _, HM1.out.alloc _, WS.alloc _, WP.alloc _, Filled.zero (by rw [size_madeCells, List.size_toArray, flat_length (k := 3) (fun _ => rfl), List.length_replicate]), Whole.made w0 _ _, by omega, World.ownsRow_nil _ _ _ _, by
        have h := RowsOwn.made (B := w.heap.size + 1) (WZ.alloc (.cells #[.int .i32 life, .int .i32 energy, .bool false] 72)) g3 (by simp only [maxLen]; omega)
        simpa [newZones] using h, CellsApart.nils _, by simp [newZones], ⟨g1, g2, g3, by omega⟩, by simp; omega⟩
    clear WS WP WZ K1 HM KK g1 g2 g3 HS HP HZ HM1 KK1 hG hgp
    go_wp2_with fail
    generalize w0.alloc (.cells #[.int .i32 life, .int .i32 energy, .bool false] 72) = v0 at *
    clear hsw
    generalize w0.heap.size = gf at *
    go_loopw [45] (fun vi wr => ∃ (p cc : Nat) (cs : Array Value) (Ac : Option Addr) (cells : List Value), p ≤ decks.length ∧ vi = .int .i64 p ∧ Hid (NewSt w wr decks.length life energy gs gp gz gf p cs Ac cc (newCards 0 (decks.take p)) (newZones 0 (decks.take p) ++ List.replicate (4 * (decks.length - p)) []) cells) ∧ Hid ((decks.take p).flatten.length ≤ 256 ∧ ∀ c ∈ newCards 0 (decks.take p), cardB decks.length c = true)) (fun vi _ => decks.length - (intOf vi).toNat)
    case atStart => exact ⟨0, 0, _, none, _, by omega, rfl, N0, Lib.hid (by simp [newCards])⟩
    case round =>
      clear N0
      obtain ⟨p, cc, cs, Ac, cells, hp, rfl, HN, HG⟩ := hrel
      by_cases hlt : p < decks.length
      · have hdp : decks[p]? = some decks[p] := List.getElem?_eq_getElem hlt
        obtain ⟨gd, offd, Ad, cd, hA, hgd, hcd0, hld0⟩ := HX.out p _ hdp
        subst hA
        have hcd := (HN.out.keeps.cell (b := gd) (o := offd + p) (by omega) id).trans hcd0
        have HLD := Lib.hid hld0
        clear hcd0 hld0
        have hrd := HR.out _ (List.getElem_mem hlt)
        have HBT : Hid (256 < (newCards 0 (decks.take p)).length + decks[p].length → newOk decks life energy = false) := Lib.hid (fun h => newOk_total (.inl (by rw [newCards_length] at h; have := flat_next_le decks p _ hdp; omega)))
        have HCL : Hid ((newCards 0 (decks.take p)).length = (decks.take p).flatten.length) := Lib.hid (newCards_length _ _)
        have hct : (newCards 0 (decks.take p)).length ≤ 256 := by rw [newCards_length]; exact HG.out.1
        have HDP := Lib.hid hdp
        obtain ⟨a0, a1, a2, a3, a4, a5, a6, f0, f1, f2, f3, f4, f5, f6⟩ := seven HN.out.box
        have hsz : cs.size = decks.length * 3 := by rw [HN.out.filled.1, List.size_toArray, flat_length (k := 3) (fun _ => rfl), List.length_replicate]
        obtain ⟨p0, p1, p2, r0, r1, r2⟩ := pl_at HN.out.players (i := p) (by omega)
        have c0 := (HN.out.first.cellAt 0).trans rfl
        have c1 := (HN.out.first.cellAt 1).trans rfl
        have c2 := (HN.out.first.cellAt 2).trans rfl
        have HP := Lib.hid (HN.out.player hlt)
        have q1 : gs ≠ gp := whole_ne HN.out.box HN.out.players (by decide)
        have q2 : gp ≠ gs := q1.symm
        have q3 : gp ≠ w.heap.size := Nat.ne_of_gt HN.out.news.2.1
        have q4 : w.heap.size ≠ gp := q3.symm
        clear hdp
        generalize decks[p] = d at *
        generalize hce : newCards 0 (decks.take p) = cards at *
        have HCE := Lib.hid hce
        clear hce
        by_cases ht : 256 < cards.length + d.length
        · have HF := Lib.hid (HBT.out ht)
          obtain ⟨cs', hNP⟩ := HP.out
          have HU := Lib.hid hNP.undo
          obtain ⟨b0, b1, b2, b3, b4, b5, b6, e0, e1, e2, e3, e4, e5, e6⟩ := seven HN.out.res
          go_wp2_with fail
          refine bodyPost_ret (results_cell_tmp2 rfl _ w.heap.size rfl _ _ HU.out.1 _ Tryd.underlying32 rfl (by kernel_rfl)) rfl ?_
          exact NewTells.no HF.out HU.out.2
        · have HR0 := Lib.hid (rows_there hlt 0)
          have HZN := Lib.hid (zones_next HDP.out)
          have HCN := Lib.hid (cards_next HDP.out)
          have HBC : Hid (∀ j (h : j < d.length), cardB decks.length (ownedBy p d[j]) = false → newOk decks life energy = false) := Lib.hid (fun j h hb => newOk_card (c := ownedBy p d[j]) (by
            have e : decks = decks.take (p + 1) ++ decks.drop (p + 1) := (List.take_append_drop _ _).symm
            rw [e, newCards_append]
            refine List.mem_append.2 (.inl ?_)
            rw [← HCN.out, HCE.out]
            exact List.mem_append.2 (.inr (List.mem_map.2 ⟨d[j], List.getElem_mem h, rfl⟩))) hb)
          obtain ⟨cs', hNP⟩ := HP.out
          have HN1 := Lib.hid hNP
          clear hNP HP HBT
          go_wp2_with fail
          clear a0 a1 a2 a3 a4 a5 a6 f0 f1 f2 f3 f4 f5 f6 p0 p1 p2 r0 r1 r2 c0 c1 c2 q1 q2 q3 q4
          generalize ((wr.setCell ⟨gp, p * 3, none⟩ (.int .i32 life)).setCell ⟨gp, p * 3 + 1, none⟩ (.int .i32 energy)).setCell ⟨gp, p * 3 + 2, none⟩ (.bool false) = v1 at *
          have HN2 : Hid (NewSt w v1 decks.length life energy gs gp gz gf (p + 1) cs' Ac cc (cards ++ (d.take 0).map (ownedBy p)) ((newZones 0 (decks.take p) ++ List.replicate (4 * (decks.length - p)) []).set (4 * p) (rangeI cards.length 0)) cells) := Lib.hid (by
            have h := HN1.out
            rw [show rangeI cards.length 0 = [] from rfl, set_same _ _ _ HR0.out]
            simpa using h)
          clear HN1 HN hcd
          generalize newZones 0 (decks.take p) ++ List.replicate (4 * (decks.length - p)) [] = rows at *
          go_loopw [65] (fun vi wr => ∃ (j cc : Nat) (Ac : Option Addr) (cells : List Value), j ≤ d.length ∧ vi = .int .i64 j ∧ Hid (NewSt w wr decks.length life energy gs gp gz gf (p + 1) cs' Ac cc (cards ++ (d.take j).map (ownedBy p)) (rows.set (4 * p) (rangeI cards.length j)) cells) ∧ Hid (∀ c ∈ (d.take j).map (ownedBy p), cardB decks.length c = true)) (fun vi _ => d.length - (intOf vi).toNat)
          case atStart => exact ⟨0, cc, Ac, cells, by omega, rfl, HN2, Lib.hid (by simp)⟩
          case round =>
            clear HN2
            obtain ⟨j, cc, Ac, cells, hj, rfl, HN, HGJ⟩ := hrel
            by_cases hlj : j < d.length
            · obtain ⟨g, off, hA, hg, k0, k1, k2, k3, k4, k5⟩ := CdLies.cells (FLies.keeps HLD.out HN.out.keeps (fun _ _ => id) hB) j d[j] (List.getElem?_eq_getElem hlj)
              subst hA
              have HBJ := Lib.hid (HBC.out j hlj)
              have HTK : Hid ((d.take (j + 1)).map (ownedBy p) = (d.take j).map (ownedBy p) ++ [ownedBy p d[j]]) := Lib.hid (by rw [List.take_succ_eq_append_getElem hlj, List.map_append]; rfl)
              have hcj : (cards ++ (d.take j).map (ownedBy p)).length = cards.length + j := by rw [List.length_append, List.length_map, List.length_take, Nat.min_eq_left hj]
              have HCJ := Lib.hid hcj
              clear hcj
              have HRJ : Hid ((rows.set (4 * p) (rangeI cards.length j))[4 * p]? = some (rangeI cards.length j)) := Lib.hid (by rw [List.getElem?_set, if_pos rfl, if_pos ((List.getElem?_eq_some_iff.1 HR0.out).1)])
              have HRN : Hid ((rows.set (4 * p) (rangeI cards.length j)).set (4 * p) (rangeI cards.length j ++ [((cards.length + j : Nat) : Int)]) = rows.set (4 * p) (rangeI cards.length (j + 1))) := Lib.hid (by rw [List.set_set, rangeI_next])
              generalize d[j] = x at *
              go_wp2_with fail
              refine (card_any (ownedBy p x) decks.length _).mono ?_
              rintro e w1 ⟨rfl, kc⟩
              have N2 := Lib.hid ((HN.out.calm ((Keeps.refl _ wr).alloc (.cells #[.int .i64 x.kind, .int .i64 p, .int .i32 x.power, .int .i32 x.health, .int .i32 x.damage, .int .i32 x.marks] 68))).calm kc)
              have HCB := Lib.hid ((Whole.made wr 68 #[.int .i64 x.kind, .int .i64 p, .int .i32 x.power, .int .i32 x.health, .int .i32 x.damage, .int .i32 x.marks]).keeps kc id)
              clear kc k0 k1 k2 k3 k4 k5
              cases hcb : cardB decks.length (ownedBy p x)
              · have HF := Lib.hid (HBJ.out hcb)
                have HU := Lib.hid N2.out.undo
                obtain ⟨b0, b1, b2, b3, b4, b5, b6, e0, e1, e2, e3, e4, e5, e6⟩ := seven N2.out.res
                go_wp2_with fail
                refine bodyPost_ret (results_cell_tmp2 rfl _ w.heap.size rfl _ _ HU.out.1 _ Tryd.underlying32 rfl (by kernel_rfl)) rfl ?_
                exact NewTells.no HF.out HU.out.2
              · have HGC := Lib.hid hcb
                clear hcb HN
                generalize wr.heap.size = gb at *
                generalize hcje : cards ++ (d.take j).map (ownedBy p) = cj at *
                have HCE2 := Lib.hid hcje
                clear hcje
                have hrl0 : (rows.set (4 * p) (rangeI cards.length j)).length = 4 * decks.length := N2.out.rlen
                obtain ⟨Az, cz, hcell, hoz⟩ := N2.out.zones.row (4 * p) _ HRJ.out
                rw [rangeI_length] at hcell hoz
                have hzc := (N2.out.zones.own.cellAt (4 * p) (by omega)).trans hcell
                have hfz := N2.out.zones.own.frozenAt (4 * p)
                have HOZ := Lib.hid hoz
                have HCELL := Lib.hid hcell
                have HRL := Lib.hid hrl0
                have hjd : j ≤ 256 := by omega
                have hcl : cj.length ≤ 256 := by have := HCJ.out; omega
                clear hcell hoz hrl0
                obtain ⟨a0, a1, a2, a3, a4, a5, a6, f0, f1, f2, f3, f4, f5, f6⟩ := seven N2.out.box
                go_wp2_with fail
                refine region_cut (fun a a' w' => (∃ u76 u77 u78 u79 u80 u81 u82 u83 u84 u85 u86 u87 u88 u89 u90 u91 u92 u93 : Value, a' = ((((((((((((((((((a.put (some 76) u76).put (some 77) u77).put (some 78) u78).put (some 79) u79).put (some 80) u80).put (some 81) u81).put (some 82) u82).put (some 83) u83).put (some 84) u84).put (some 85) u85).put (some 86) u86).put (some 87) u87).put (some 88) u88).put (some 89) u89).put (some 90) u90).put (some 91) u91).put (some 92) u92).put (some 93) u93)) ∧ ∃ cells', NewSt w w' decks.length life energy gs gp gz gf (p + 1) cs' Ac cc cj (rows.set (4 * p) (rangeI cards.length (j + 1))) cells' ∧ Whole w' gb 68 #[.int .i64 x.kind, .int .i64 p, .int .i32 x.power, .int .i32 x.health, .int .i32 x.damage, .int .i32 x.marks]) ?_ ?_
                · have hw1 : IntKind.i64.wrap (4 * (p : Int)) = 4 * (p : Int) := by rw [IntKind.wrap_i64]; omega
                  have hnn : (0 : Int) ≤ 4 * (p : Int) := by omega
                  have htn : (4 * (p : Int)).toNat = 4 * p := by omega
                  have hl4 : 4 * (p : Int) < 4 * (decks.length : Int) := by omega
                  refine wp_region_held_drew (S := fun W => W.cell? ⟨gs, 1, none⟩ = some (.slice Ac cj.length cc) ∧ W.cell? ⟨gs, 2, none⟩ = some (.slice (some ⟨gz, 0, none⟩) (4 * decks.length) (4 * decks.length))) (by kernel_rfl) (⟨a1, a2⟩) ?_
                  intro hSn
                  have hzd : w1.drew.cell? ⟨gz, 4 * p, none⟩ = some (.slice Az j cz) := hzc
                  have N3 := Lib.hid (N2.out.calm ((Keeps.refl _ w1).drew))
                  have HC3 := Lib.hid (HCB.out.drew)
                  have HO3 := Lib.hid (HOZ.out.drew)
                  clear a0 a1 a2 a3 a4 a5 a6 f0 f1 f2 f3 f4 f5 f6 hzc hfz
                  generalize w1.drew = wd at *
                  have hgz : gz < wd.heap.size := by
                    rcases N3.out.zones.own.2 with ⟨h, _⟩ | ⟨g', _, _, h, _, h2, _⟩
                    · cases h
                    · injection h with h
                      injection h with h
                      injection h with h _
                      subst h
                      exact (Array.getElem?_eq_some_iff.1 h2).1
                  have N4 := Lib.hid (N3.out.calm ((Keeps.refl _ wd).alloc (.cells #[.int .i64 (cj.length : Int)] 3)))
                  have HC4 := Lib.hid (HC3.out.alloc (.cells #[.int .i64 (cj.length : Int)] 3))
                  have HO4 := Lib.hid (HO3.out.alloc (.cells #[.int .i64 (cj.length : Int)] 3))
                  have HNL : Hid (Lies (wd.alloc (.cells #[.int .i64 (cj.length : Int)] 3)) (wd.heap.size + 1) (some ⟨wd.heap.size, 0, none⟩) [.int .i64 (cj.length : Int)]) := Lib.hid (Lies.row (fr := (0, 0)) (Whole.made wd 3 #[.int .i64 (cj.length : Int)]) (Nat.lt_succ_self _))
                  refine wpAnyH_take (i := 0) (v := ?v1) rfl (by kernel_rfl) (by kernel_rfl) (by kernel_rfl) (fun _ _ _ h => by first | exact h | exact absurd h.1 (fun e => by cases e)) (Or.inl ⟨by rfl, ?hy1⟩) (by assumption) ?rest1
                  case hy1 =>
                    intro w hSw
                    obtain ⟨s1, s2⟩ := hSw
                    go_simp
                    try with_reducible rfl
                  go_simp
                  refine wpAnyH_take (i := 1) (v := ?v2) rfl (by kernel_rfl) (by kernel_rfl) (by kernel_rfl) (fun _ _ _ h => by first | exact h | exact absurd h.1 (fun e => by cases e)) (Or.inl ⟨by rfl, ?hy2⟩) (by assumption) ?rest2
                  case hy2 =>
                    intro w hSw
                    obtain ⟨s1, s2⟩ := hSw
                    go_simp
                    try with_reducible rfl
                  go_simp
                  refine wpAnyH_take (i := 2) (v := ?v3) rfl (by kernel_rfl) (by kernel_rfl) (by kernel_rfl) (fun _ _ _ h => by first | exact h | exact absurd h.1 (fun e => by cases e)) (Or.inl ⟨by rfl, ?hy3⟩) (by assumption) ?rest3
                  case hy3 =>
                    intro w hSw
                    obtain ⟨s1, s2⟩ := hSw
                    go_simp
                    try with_reducible rfl
                  go_simp
                  refine wpAnyH_take (i := 3) (v := ?v4) rfl (by kernel_rfl) (by kernel_rfl) (by kernel_rfl) (fun _ _ _ h => by first | exact h | exact absurd h.1 (fun e => by cases e)) (Or.inl ⟨by rfl, ?hy4⟩) (by assumption) ?rest4
                  case hy4 =>
                    intro w hSw
                    obtain ⟨s1, s2⟩ := hSw
                    go_simp
                    try with_reducible rfl
                  go_simp
                  refine wpAnyH_take (i := 4) (v := ?v5) rfl (by kernel_rfl) (by kernel_rfl) (by kernel_rfl) (fun _ _ _ h => by first | exact h | exact absurd h.1 (fun e => by cases e)) (Or.inl ⟨by rfl, ?hy5⟩) (by assumption) ?rest5
                  case hy5 =>
                    intro w hSw
                    obtain ⟨s1, s2⟩ := hSw
                    go_simp
                    try with_reducible rfl
                  go_simp
                  refine wpAnyH_take (i := 5) (v := ?v6) rfl (by kernel_rfl) (by kernel_rfl) (by kernel_rfl) (fun _ _ _ h => by first | exact h | exact absurd h.1 (fun e => by cases e)) (Or.inl ⟨by rfl, ?hy6⟩) (by assumption) ?rest6
                  case hy6 =>
                    intro w hSw
                    obtain ⟨s1, s2⟩ := hSw
                    go_simp
                    try with_reducible rfl
                  go_simp
                  refine wpAnyH_take (i := 6) (v := ?v7) rfl (by kernel_rfl) (by kernel_rfl) (by kernel_rfl) (fun _ _ _ h => by first | exact h | exact absurd h.1 (fun e => by cases e)) (Or.inl ⟨by rfl, ?hy7⟩) (by assumption) ?rest7
                  case hy7 =>
                    intro w hSw
                    obtain ⟨s1, s2⟩ := hSw
                    go_simp
                    try with_reducible rfl
                  go_simp
                  refine wpAnyH_take (i := 7) (v := ?v8) rfl (by kernel_rfl) (by kernel_rfl) (by kernel_rfl) (fun _ _ _ h => by first | exact h | exact absurd h.1 (fun e => by cases e)) (Or.inl ⟨by rfl, ?hy8⟩) (by assumption) ?rest8
                  case hy8 =>
                    intro w hSw
                    obtain ⟨s1, s2⟩ := hSw
                    go_simp
                    try with_reducible rfl
                  go_simp
                  refine wpAnyH_take (i := 8) (v := ?v9) rfl (by kernel_rfl) (by kernel_rfl) (by kernel_rfl) (fun _ _ _ h => by first | exact h | exact absurd h.1 (fun e => by cases e)) (Or.inl ⟨by rfl, ?hy9⟩) (by assumption) ?rest9
                  case hy9 =>
                    intro w hSw
                    obtain ⟨s1, s2⟩ := hSw
                    go_simp
                    try with_reducible rfl
                  go_simp
                  refine wpAnyH_take (i := 9) (v := ?v10) rfl (by kernel_rfl) (by kernel_rfl) (by kernel_rfl) (fun _ _ _ h => by first | exact h | exact absurd h.1 (fun e => by cases e)) (Or.inl ⟨by rfl, ?hy10⟩) (by assumption) ?rest10
                  case hy10 =>
                    intro w hSw
                    obtain ⟨s1, s2⟩ := hSw
                    go_simp
                    try with_reducible rfl
                  go_simp
                  refine wpAnyH_take (i := 10) (v := ?v11) rfl (by kernel_rfl) (by kernel_rfl) (by kernel_rfl) (fun _ _ _ h => by first | exact h | exact absurd h.1 (fun e => by cases e)) (Or.inl ⟨by rfl, ?hy11⟩) (by assumption) ?rest11
                  case hy11 =>
                    intro w hSw
                    obtain ⟨s1, s2⟩ := hSw
                    go_simp
                    try with_reducible rfl
                  go_simp
                  refine wpAnyH_take (i := 12) (v := ?v12) rfl (by kernel_rfl) (by kernel_rfl) (by kernel_rfl) (fun _ _ _ h => by first | exact h | exact absurd h.1 (fun e => by cases e)) (Or.inl ⟨by rfl, ?hy12⟩) (by assumption) ?rest12
                  case hy12 =>
                    intro w hSw
                    obtain ⟨s1, s2⟩ := hSw
                    go_simp
                    try with_reducible rfl
                  go_simp
                  refine wpAnyH_take (i := 13) (v := ?v13) rfl (by kernel_rfl) (by kernel_rfl) (by kernel_rfl) (fun _ _ _ h => by first | exact h | exact absurd h.1 (fun e => by cases e)) (Or.inl ⟨by rfl, ?hy13⟩) (by assumption) ?rest13
                  case hy13 =>
                    intro w hSw
                    obtain ⟨s1, s2⟩ := hSw
                    go_simp
                    try with_reducible rfl
                  go_simp
                  refine wpAnyH_take (i := 14) (v := ?v14) rfl (by kernel_rfl) (by kernel_rfl) (by kernel_rfl) (fun _ _ _ h => by first | exact h | exact absurd h.1 (fun e => by cases e)) (Or.inl ⟨by rfl, ?hy14⟩) (by assumption) ?rest14
                  case hy14 =>
                    intro w hSw
                    obtain ⟨s1, s2⟩ := hSw
                    go_simp
                    try with_reducible rfl
                  go_simp
                  refine wpAnyH_ready (rs := [11, 15]) (by kernel_rfl) (by simp) ?_
                  refine AllReadyH.cons rfl (fun K hK => ?sa) (AllReadyH.cons rfl (fun K hK => ?sb) AllReadyH.nil)
                  case sa =>
                    go_simp
                    refine hK.out _ _ (hSn) (fun hSn => ?_)
                    clear hK K
                    go_simp
                    refine wpAnyH_ready (rs := [15]) (by kernel_rfl) (by simp) ?_
                    refine AllReadyH.cons rfl (fun K hK => ?_) AllReadyH.nil
                    go_simp
                    refine hK.out _ _ (⟨(N4.out.box.cellAt 1).trans rfl, (N4.out.box.cellAt 2).trans rfl⟩) (fun hSn => ?_)
                    clear hK K
                    go_simp
                    refine wpAnyH_ready (rs := [16]) (by kernel_rfl) (by simp) ?_
                    refine AllReadyH.cons rfl (fun K hK => ?_) AllReadyH.nil
                    refine step_if (by rfl) ?_
                    refine wp_append_cells _ _ _ 74 rfl (w.heap.size + 1) 3 (.int .i64 0) 1 8 Tryd.underlying74 info_int rfl (by decide) (.slice Az j cz) j ((rangeI cards.length j).map (Value.int .i64)) rfl HO4.out _ (some ⟨wd.heap.size, 0, none⟩) 1 1 [.int .i64 (cj.length : Int)] rfl HNL.out rfl (fun u hu => by obtain rfl : u = _ := List.mem_singleton.1 hu; rfl) (by simp only [maxLen]; omega) (by omega) N4.out.size ?_
                    intro A2 c2 w2 hown hg2 hor _ _
                    have HZ5 := Lib.hid (N4.out.zoneOut HRJ.out HCELL.out hg2)
                    have HC5 := Lib.hid (N4.out.zoneOff HRJ.out HCELL.out hg2 HC4.out (by decide) (by decide) (.slice A2 (j + 1) c2))
                    have hown' : w2.ownsRow (w.heap.size + 1) 3 1 (.slice A2 (j + 1) c2) (j + 1) ((rangeI cards.length j).map (Value.int .i64) ++ [.int .i64 ((cards.length + j : Nat) : Int)]) := by rw [← HCJ.out]; exact hown
                    have N5 := Lib.hid (N4.out.zone HRJ.out HCELL.out hg2 (rangeI_length _ _).symm hown' hor)
                    rw [HRN.out] at N5
                    have hz2 := HZ5.out.1
                    have hf2 := HZ5.out.2.1
                    have hzs : gz ≠ gs := HZ5.out.2.2.1
                    have hsz : gs ≠ gz := hzs.symm
                    refine hK.out _ _ (⟨(HZ5.out.2.2.2.cellAt 1).trans rfl, (HZ5.out.2.2.2.cellAt 2).trans rfl⟩) (fun hSn => ?_)
                    clear hK K
                    go_simp
                    refine wpAnyH_take (i := 17) (v := ?v15) rfl (by kernel_rfl) (by kernel_rfl) (by kernel_rfl) (fun _ _ _ h => by first | exact h | exact absurd h.1 (fun e => by cases e)) (Or.inl ⟨by rfl, ?hy15⟩) (by assumption) ?rest15
                    case hy15 =>
                      intro w hSw
                      obtain ⟨s1, s2⟩ := hSw
                      go_simp
                      try with_reducible rfl
                    go_simp
                    refine wpAnyH_ready (rs := [18]) (by kernel_rfl) (by simp) ?_
                    refine AllReadyH.cons rfl (fun K hK => ?_) AllReadyH.nil
                    go_simp
                    refine hK.out _ _ (⟨(N5.out.box.cellAt 1).trans rfl, (N5.out.box.cellAt 2).trans rfl⟩) (fun hSn => ?_)
                    clear hK K
                    go_simp
                    refine wpAnyH_done (by kernel_rfl) ?_ _
                    exact ⟨rfl, ⟨_, _, _, _, _, _, _, _, _, _, _, _, _, _, _, _, _, _, rfl⟩, ⟨_, N5.out⟩, HC5.out⟩
                  case sb =>
                    go_simp
                    refine hK.out _ _ (⟨(N4.out.box.cellAt 1).trans rfl, (N4.out.box.cellAt 2).trans rfl⟩) (fun hSn => ?_)
                    clear hK K
                    go_simp
                    refine wpAnyH_ready (rs := [11]) (by kernel_rfl) (by simp) ?_
                    refine AllReadyH.cons rfl (fun K hK => ?_) AllReadyH.nil
                    go_simp
                    refine hK.out _ _ (hSn) (fun hSn => ?_)
                    clear hK K
                    go_simp
                    refine wpAnyH_ready (rs := [16]) (by kernel_rfl) (by simp) ?_
                    refine AllReadyH.cons rfl (fun K hK => ?_) AllReadyH.nil
                    refine step_if (by rfl) ?_
                    refine wp_append_cells _ _ _ 74 rfl (w.heap.size + 1) 3 (.int .i64 0) 1 8 Tryd.underlying74 info_int rfl (by decide) (.slice Az j cz) j ((rangeI cards.length j).map (Value.int .i64)) rfl HO4.out _ (some ⟨wd.heap.size, 0, none⟩) 1 1 [.int .i64 (cj.length : Int)] rfl HNL.out rfl (fun u hu => by obtain rfl : u = _ := List.mem_singleton.1 hu; rfl) (by simp only [maxLen]; omega) (by omega) N4.out.size ?_
                    intro A2 c2 w2 hown hg2 hor _ _
                    have HZ5 := Lib.hid (N4.out.zoneOut HRJ.out HCELL.out hg2)
                    have HC5 := Lib.hid (N4.out.zoneOff HRJ.out HCELL.out hg2 HC4.out (by decide) (by decide) (.slice A2 (j + 1) c2))
                    have hown' : w2.ownsRow (w.heap.size + 1) 3 1 (.slice A2 (j + 1) c2) (j + 1) ((rangeI cards.length j).map (Value.int .i64) ++ [.int .i64 ((cards.length + j : Nat) : Int)]) := by rw [← HCJ.out]; exact hown
                    have N5 := Lib.hid (N4.out.zone HRJ.out HCELL.out hg2 (rangeI_length _ _).symm hown' hor)
                    rw [HRN.out] at N5
                    have hz2 := HZ5.out.1
                    have hf2 := HZ5.out.2.1
                    have hzs : gz ≠ gs := HZ5.out.2.2.1
                    have hsz : gs ≠ gz := hzs.symm
                    refine hK.out _ _ (⟨(HZ5.out.2.2.2.cellAt 1).trans rfl, (HZ5.out.2.2.2.cellAt 2).trans rfl⟩) (fun hSn => ?_)
                    clear hK K
                    go_simp
                    refine wpAnyH_take (i := 17) (v := ?v16) rfl (by kernel_rfl) (by kernel_rfl) (by kernel_rfl) (fun _ _ _ h => by first | exact h | exact absurd h.1 (fun e => by cases e)) (Or.inl ⟨by rfl, ?hy16⟩) (by assumption) ?rest16
                    case hy16 =>
                      intro w hSw
                      obtain ⟨s1, s2⟩ := hSw
                      go_simp
                      try with_reducible rfl
                    go_simp
                    refine wpAnyH_ready (rs := [18]) (by kernel_rfl) (by simp) ?_
                    refine AllReadyH.cons rfl (fun K hK => ?_) AllReadyH.nil
                    go_simp
                    refine hK.out _ _ (⟨(N5.out.box.cellAt 1).trans rfl, (N5.out.box.cellAt 2).trans rfl⟩) (fun hSn => ?_)
                    clear hK K
                    go_simp
                    refine wpAnyH_done (by kernel_rfl) ?_ _
                    exact ⟨rfl, ⟨_, _, _, _, _, _, _, _, _, _, _, _, _, _, _, _, _, _, rfl⟩, ⟨_, N5.out⟩, HC5.out⟩
                · rintro a' w2 ⟨⟨u76, u77, u78, u79, u80, u81, u82, u83, u84, u85, u86, u87, u88, u89, u90, u91, u92, u93, rfl⟩, cells', N6, HC6⟩
                  simp only [Act.put, List.setIfInBounds_toArray, List.set_cons_zero, List.set_cons_succ]
                  clear N2 HCB HOZ HCELL HRJ hzc hfz a0 a1 a2 a3 a4 a5 a6 f0 f1 f2 f3 f4 f5 f6
                  have N7 := Lib.hid N6
                  have HC7 := Lib.hid HC6
                  clear N6 HC6
                  obtain ⟨a0, a1, a2, a3, a4, a5, a6, f0, f1, f2, f3, f4, f5, f6⟩ := seven N7.out.box
                  obtain ⟨h0, h1', h2', h3', h4', h5'⟩ := sixs HC7.out
                  have hsgs := N7.out.box.inside
                  have hsgb := HC7.out.inside
                  have N8 := Lib.hid (N7.out.calm ((Keeps.refl _ w2).alloc (.cells #[.int .i64 x.kind, .int .i64 p, .int .i32 x.power, .int .i32 x.health, .int .i32 x.damage, .int .i32 x.marks] 68)))
                  have HNL : Hid (Lies (w2.alloc (.cells #[.int .i64 x.kind, .int .i64 p, .int .i32 x.power, .int .i32 x.health, .int .i32 x.damage, .int .i32 x.marks] 68)) (w2.heap.size + 1) (some ⟨w2.heap.size, 0, none⟩) (Cd.cells (ownedBy p x))) := Lib.hid (Lies.row (fr := (0, 0)) (Whole.made w2 68 #[.int .i64 x.kind, .int .i64 p, .int .i32 x.power, .int .i32 x.health, .int .i32 x.damage, .int .i32 x.marks]) (Nat.lt_succ_self _))
                  have HONE : Hid (∀ u ∈ Cd.cells (ownedBy p x), u.oneCell' = true) := Lib.hid (by have h := cells_one_cd [ownedBy p x]; simpa [flat] using h)
                  go_wp2_with (first
                    | (at_builtin
                       refine wpList_append_cells _ rfl _ _ 26 rfl (w.heap.size + 1) 68 (.agg #[.int .i64 0, .int .i64 0, .int .i32 0, .int .i32 0, .int .i32 0, .int .i32 0]) 6 32 Tryd.underlying26 info_cd rfl (by decide) (.slice Ac cj.length cc) cj.length (flat Cd.cells cj) rfl N8.out.cards _ (some ⟨w2.heap.size, 0, none⟩) 1 1 (Cd.cells (ownedBy p x)) rfl HNL.out rfl HONE.out (by simp only [maxLen]; omega) (by omega) N8.out.size ?_
                       intro A3 c3 w3 hown3 hg3 hor3 _ _
                       have hq3 := ((N8.out.cardOut hg3).cellAt 1).trans rfl
                       have hr3 := (N8.out.cardOut hg3).free 1))
                  have N9 := N8.out.card hg3 hown3
                  have hcx : cj ++ [ownedBy p x] = cards ++ (d.take (j + 1)).map (ownedBy p) := by rw [HTK.out, ← HCE2.out, List.append_assoc]
                  rw [hcx] at N9
                  have HGN : Hid (∀ c ∈ (d.take (j + 1)).map (ownedBy p), cardB decks.length c = true) := Lib.hid (fun c hc => by
                    rw [HTK.out] at hc
                    rcases List.mem_append.1 hc with h | h
                    · exact HGJ.out c h
                    · rw [List.mem_singleton.1 h]; exact HGC.out)
                  exact ⟨⟨j + 1, c3, A3, cells', by omega, by go_num, Lib.hid N9, HGN⟩, by simp [intOf]; omega⟩
            · have hjr : j = d.length := by omega
              subst hjr
              rw [List.take_length] at HN HGJ
              have HN' : Hid (NewSt w wr decks.length life energy gs gp gz gf (p + 1) cs' Ac cc (newCards 0 (decks.take (p + 1))) (newZones 0 (decks.take (p + 1)) ++ List.replicate (4 * (decks.length - (p + 1))) []) cells) := Lib.hid (by
                have h := HN.out
                rw [HCL.out, HZN.out] at h
                have e := HCN.out
                rw [HCE.out] at e
                rw [e] at h
                exact h)
              have HG' : Hid ((decks.take (p + 1)).flatten.length ≤ 256 ∧ ∀ c ∈ newCards 0 (decks.take (p + 1)), cardB decks.length c = true) := Lib.hid (by
                refine ⟨?_, fun c hc => ?_⟩
                · rw [flat_take_next decks p d HDP.out, List.length_append, ← HCL.out]; omega
                · rw [← HCN.out] at hc
                  rcases List.mem_append.1 hc with h | h
                  · exact HG.out.2 c (by rw [← HCE.out]; exact h)
                  · exact HGJ.out c h)
              clear HN HGJ
              go_wp2_with fail
              go_roundw
              case rel => exact ⟨p + 1, cc, cs', Ac, cells, by omega, by go_num, HN', HG'⟩
              case measure => simp [intOf]; omega
      · obtain rfl : p = decks.length := by omega
        rw [List.take_length, Nat.sub_self, Nat.mul_zero, List.replicate_zero, List.append_nil] at HN
        rw [List.take_length] at HG
        have hcl : (newCards 0 decks).length ≤ 256 := by rw [newCards_length]; exact HG.out.1
        obtain ⟨a0, a1, a2, a3, a4, a5, a6, f0, f1, f2, f3, f4, f5, f6⟩ := seven HN.out.box
        obtain ⟨b0, b1, b2, b3, b4, b5, b6, e0, e1, e2, e3, e4, e5, e6⟩ := seven HN.out.res
        by_cases hz0 : (newCards 0 decks).length = 0
        · have HF : Hid (newOk decks life energy = false) := Lib.hid (newOk_total (.inr (by rw [← newCards_length decks 0]; exact hz0)))
          have HU := Lib.hid HN.out.undo
          have hq0 : (((newCards 0 decks).length : Int) == 0) = true := beq_iff_eq.2 (by omega)
          clear hz0
          go_wp2_with fail
          refine bodyPost_ret (results_cell_tmp2 rfl _ w.heap.size rfl _ _ HU.out.1 _ Tryd.underlying32 rfl (by kernel_rfl)) rfl ?_
          exact NewTells.no HF.out HU.out.2
        · have HOK : Hid (newOk decks life energy = true) := Lib.hid (by
            have h1 := newCards_length decks 0
            have h2 := HG.out.1
            simp only [newOk, Bool.and_eq_true, decide_eq_true_eq, List.all_eq_true]
            exact ⟨⟨⟨⟨⟨⟨hn2, hn4⟩, hs1⟩, hs2⟩, by omega⟩, h2⟩, HG.out.2⟩)
          have hq0 : (((newCards 0 decks).length : Int) == 0) = false := beq_eq_false_iff_ne.2 (by omega)
          have HRF := Lib.hid (((((((HN.out.res.put 0 (.slice (some ⟨gp, 0, none⟩) decks.length decks.length)).put 1 (.slice Ac (newCards 0 decks).length cc)).put 2 (.slice (some ⟨gz, 0, none⟩) (4 * decks.length) (4 * decks.length))).put 3 (.int .i32 1)).put 4 (.int .i64 0)).put 5 (.int .i8 0)).put 6 (.int .i64 0))
          have HKF := Lib.hid ((((((((Keeps.refl (fun b => b = w.heap.size) wr).setCell (p := ⟨w.heap.size, 0, none⟩) (fun _ => rfl) (.slice (some ⟨gp, 0, none⟩) decks.length decks.length)).setCell (p := ⟨w.heap.size, 1, none⟩) (fun _ => rfl) (.slice Ac (newCards 0 decks).length cc)).setCell (p := ⟨w.heap.size, 2, none⟩) (fun _ => rfl) (.slice (some ⟨gz, 0, none⟩) (4 * decks.length) (4 * decks.length))).setCell (p := ⟨w.heap.size, 3, none⟩) (fun _ => rfl) (.int .i32 1)).setCell (p := ⟨w.heap.size, 4, none⟩) (fun _ => rfl) (.int .i64 0)).setCell (p := ⟨w.heap.size, 5, none⟩) (fun _ => rfl) (.int .i8 0)).setCell (p := ⟨w.heap.size, 6, none⟩) (fun _ => rfl) (.int .i64 0))
          have HKF2 := Lib.hid (((((((HN.out.keeps.setCell (p := ⟨w.heap.size, 0, none⟩) (fun h => absurd h (Nat.lt_irrefl _)) (.slice (some ⟨gp, 0, none⟩) decks.length decks.length)).setCell (p := ⟨w.heap.size, 1, none⟩) (fun h => absurd h (Nat.lt_irrefl _)) (.slice Ac (newCards 0 decks).length cc)).setCell (p := ⟨w.heap.size, 2, none⟩) (fun h => absurd h (Nat.lt_irrefl _)) (.slice (some ⟨gz, 0, none⟩) (4 * decks.length) (4 * decks.length))).setCell (p := ⟨w.heap.size, 3, none⟩) (fun h => absurd h (Nat.lt_irrefl _)) (.int .i32 1)).setCell (p := ⟨w.heap.size, 4, none⟩) (fun h => absurd h (Nat.lt_irrefl _)) (.int .i64 0)).setCell (p := ⟨w.heap.size, 5, none⟩) (fun h => absurd h (Nat.lt_irrefl _)) (.int .i8 0)).setCell (p := ⟨w.heap.size, 6, none⟩) (fun h => absurd h (Nat.lt_irrefl _)) (.int .i64 0))
          clear hz0
          go_wp2_with fail
          refine bodyPost_ret (results_cell_tmp2 rfl _ w.heap.size rfl (#[.slice (some ⟨gp, 0, none⟩) decks.length decks.length, .slice Ac (newCards 0 decks).length cc, .slice (some ⟨gz, 0, none⟩) (4 * decks.length) (4 * decks.length), .int .i32 1, .int .i64 0, .int .i8 0, .int .i64 0]) _ HRF.out _ Tryd.underlying32 rfl (by kernel_rfl)) rfl ?_
          refine ⟨fun h => absurd (HOK.out.symm.trans h) (by decide), fun _ => ⟨_, _, _, _, _, _, _, ?_, HN.out.copy HKF.out, HN.out.apart⟩, HKF2.out⟩
          rw [stV_new]
          rfl
end Go.Proofs.YtgbikcliembkcaaDoor
