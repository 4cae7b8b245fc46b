/-
  image's reader of a state: what is done at each player, card, zone and entry: the walks. Conditions: lengths within 10 ^ 8.
-/
import Derived.Test.YthmfbcfbcookiaaGreatDoorImMc
import Derived.Deep.RegionHeld3
import Derived.Deep.RegionLaw
import Derived.Shelf.Abstract
namespace Go.Proofs.YthmfbcfbcookiaaGreatDoor
open Go.RowKit
set_option maxRecDepth 100000 in
set_option maxHeartbeats 4000000 in
theorem onePlayer_any {w0 w : World} {r B cap i : Nat} {A : Option Addr} {b : List Oct} {bad : Bool} {s : St} {Ap Ac Az : Option Addr} {cp cc cz : Nat} {cells : List Value} (h : Rg w0 w r B A cap b i bad s Ap Ac Az cp cc cz cells) (hl : b.length ≤ 1099511627776) (hn : s.players.length ≤ 100000000) :
    Calls Tryz.prog 82 #[.pointer (some ⟨w0.heap.size + 2, 0, none⟩), .pointer (some ⟨w0.heap.size, 0, none⟩)] w fun e w' => e = .returned (.tuple #[]) ∧ ∃ (x : Pl) (A' : Option Addr) (c' : Nat), (∀ y j, playerP.from b i bad = .ok y j → x = y) ∧ Rg w0 w' r B A cap b (playerP.from b i bad).at_ (playerP.from b i bad).isBad { s with players := s.players ++ [x] } A' Ac Az c' cc cz cells := by
  have hnm : w.cell? ⟨w0.heap.size, 0, none⟩ = some (.pointer (some ⟨r, 0, none⟩)) := h.name.cellAt 0
  have HD := Lib.hid (h.calm (Keeps.refl _ w).drew)
  clear h
  go_enter Tryz.func82, Tryz.ntmps82
  go_wp2_with fail
  refine wp_region_held_drew (S := fun W => W.cell? ⟨w0.heap.size, 0, none⟩ = some (.pointer (some ⟨r, 0, none⟩))) (by kernel_rfl) (hnm) ?_
  intro hSn
  refine wpAnyH_take (i := 0) (v := ?v1) rfl (by kernel_rfl) (by kernel_rfl) (by kernel_rfl) (fun _ _ _ h => by first | exact h | exact absurd h.1 (fun e => by cases e)) (Or.inl ⟨by rfl, ?hy1⟩) (by assumption) ?rest1
  case hy1 =>
    intro w hSw
    have qh := hSw
    go_simp
    try with_reducible rfl
  go_simp
  refine wpAnyH_take (i := 2) (v := ?v2) rfl (by kernel_rfl) (by kernel_rfl) (by kernel_rfl) (fun _ _ _ h => by first | exact h | exact absurd h.1 (fun e => by cases e)) (Or.inl ⟨by rfl, ?hy2⟩) (by assumption) ?rest2
  case hy2 =>
    intro w hSw
    have qh := hSw
    go_simp
    try with_reducible rfl
  go_simp
  refine wpAnyH_ready (rs := [1, 3]) (by kernel_rfl) (by simp) ?_
  refine AllReadyH.cons rfl (fun K hK => ?sa) (AllReadyH.cons rfl (fun K hK => ?sb) AllReadyH.nil)
  case sa =>
    have hp : (w.drew).cell? ⟨w0.heap.size + 2, 0, none⟩ = some (.slice Ap s.players.length cp) := HD.out.box.cellAt 0
    go_simp
    refine hK.out _ _ (hSn) (fun hSn => ?_)
    clear hK K
    go_simp
    refine wpAnyH_ready (rs := [3]) (by kernel_rfl) (by simp) ?_
    refine AllReadyH.cons rfl (fun K hK => ?_) AllReadyH.nil
    go_simp
    refine (player_any r B A cap i b bad _ HD.out.rd hl).mono ?_
    rintro e w3 ⟨x, hx, rfl, h3, k3⟩
    have H3 := Lib.hid (HD.out.read h3 k3)
    have H4 := Lib.hid (H3.out.calm ((Keeps.refl _ w3).alloc (.cells #[.int .i32 x.life, .int .i32 x.energy, .bool x.out] 44)))
    clear h3 k3
    refine hK.out _ _ (H3.out.name.cellAt 0) (fun hSn => ?_)
    clear hK K
    go_simp
    refine wpAnyH_ready (rs := [4]) (by kernel_rfl) (by simp) ?_
    refine AllReadyH.cons rfl (fun K hK => ?_) AllReadyH.nil
    go_simp
    refine hK.out _ _ (H4.out.name.cellAt 0) (fun hSn => ?_)
    clear hK K
    go_simp
    refine wpAnyH_ready (rs := [5]) (by kernel_rfl) (by simp) ?_
    refine AllReadyH.cons rfl (fun K hK => ?_) AllReadyH.nil
    refine stepIf (by rfl) ?_
    refine wp_append_cells _ _ _ 22 rfl w0.heap.size 44 (.agg #[.int .i32 0, .int .i32 0, .bool false]) 3 12 Tryz.underlying22 info_pl rfl (by decide) (.slice Ap s.players.length cp) s.players.length (flat Pl.cells s.players) rfl H4.out.lists.players (w3.heap.size + 1) (some ⟨w3.heap.size, 0, none⟩) 1 1 x.cells rfl (Lies.row (t := 44) (fr := (0, 0)) (heap_alloc_new _ _) (Nat.lt_succ_self _)) rfl (fun u hu => by simp [Pl.cells] at hu; rcases hu with rfl | rfl | rfl <;> rfl) (by simp only [maxLen]; omega) (by omega) (by have := H4.out.keeps.size; omega) ?_
    intro A2 c2 w5 own5 hg5 _ _ _
    obtain ⟨h6, f6, u6, c6⟩ := H3.out.pushP own5 hg5
    have H6 := Lib.hid h6
    have hn5 : w5.cell? ⟨w0.heap.size, 0, none⟩ = some (.pointer (some ⟨r, 0, none⟩)) := by
      rw [← World.cell?_setCell_other w5 ⟨w0.heap.size + 2, 0, none⟩ ⟨w0.heap.size, 0, none⟩ (.slice A2 (s.players.length + 1) c2) (by intro e; injection e with e1; omega)]
      exact h6.name.cellAt 0
    clear own5 hg5 h6
    refine hK.out _ _ (hn5) (fun hSn => ?_)
    clear hK K
    go_simp
    refine wpAnyH_take (i := 6) (v := ?v3) rfl (by kernel_rfl) (by kernel_rfl) (by kernel_rfl) (fun _ _ _ h => by first | exact h | exact absurd h.1 (fun e => by cases e)) (Or.inl ⟨by rfl, ?hy3⟩) (by assumption) ?rest3
    case hy3 =>
      intro w hSw
      have qh := hSw
      go_simp
      try with_reducible rfl
    go_simp
    refine wpAnyH_ready (rs := [7]) (by kernel_rfl) (by simp) ?_
    refine AllReadyH.cons rfl (fun K hK => ?_) AllReadyH.nil
    go_simp
    refine hK.out _ _ (H6.out.name.cellAt 0) (fun hSn => ?_)
    clear hK K
    go_simp
    refine wpAnyH_done (by kernel_rfl) ?_ _
    go_end0
    exact ⟨rfl, x, A2, c2, hx, H6.out⟩
  case sb =>
    go_simp
    refine (player_any r B A cap i b bad _ HD.out.rd hl).mono ?_
    rintro e w3 ⟨x, hx, rfl, h3, k3⟩
    have H3 := Lib.hid (HD.out.read h3 k3)
    have H4 := Lib.hid (H3.out.calm ((Keeps.refl _ w3).alloc (.cells #[.int .i32 x.life, .int .i32 x.energy, .bool x.out] 44)))
    clear h3 k3
    refine hK.out _ _ (H3.out.name.cellAt 0) (fun hSn => ?_)
    clear hK K
    go_simp
    refine wpAnyH_ready (rs := [1, 4]) (by kernel_rfl) (by simp) ?_
    refine AllReadyH.cons rfl (fun K hK => ?sc) (AllReadyH.cons rfl (fun K hK => ?sd) AllReadyH.nil)
    case sc =>
      have hp : (w3).cell? ⟨w0.heap.size + 2, 0, none⟩ = some (.slice Ap s.players.length cp) := H3.out.box.cellAt 0
      go_simp
      refine hK.out _ _ (hSn) (fun hSn => ?_)
      clear hK K
      go_simp
      refine wpAnyH_ready (rs := [4]) (by kernel_rfl) (by simp) ?_
      refine AllReadyH.cons rfl (fun K hK => ?_) AllReadyH.nil
      go_simp
      refine hK.out _ _ (H4.out.name.cellAt 0) (fun hSn => ?_)
      clear hK K
      go_simp
      refine wpAnyH_ready (rs := [5]) (by kernel_rfl) (by simp) ?_
      refine AllReadyH.cons rfl (fun K hK => ?_) AllReadyH.nil
      refine stepIf (by rfl) ?_
      refine wp_append_cells _ _ _ 22 rfl w0.heap.size 44 (.agg #[.int .i32 0, .int .i32 0, .bool false]) 3 12 Tryz.underlying22 info_pl rfl (by decide) (.slice Ap s.players.length cp) s.players.length (flat Pl.cells s.players) rfl H4.out.lists.players (w3.heap.size + 1) (some ⟨w3.heap.size, 0, none⟩) 1 1 x.cells rfl (Lies.row (t := 44) (fr := (0, 0)) (heap_alloc_new _ _) (Nat.lt_succ_self _)) rfl (fun u hu => by simp [Pl.cells] at hu; rcases hu with rfl | rfl | rfl <;> rfl) (by simp only [maxLen]; omega) (by omega) (by have := H4.out.keeps.size; omega) ?_
      intro A2 c2 w5 own5 hg5 _ _ _
      obtain ⟨h6, f6, u6, c6⟩ := H3.out.pushP own5 hg5
      have H6 := Lib.hid h6
      have hn5 : w5.cell? ⟨w0.heap.size, 0, none⟩ = some (.pointer (some ⟨r, 0, none⟩)) := by
        rw [← World.cell?_setCell_other w5 ⟨w0.heap.size + 2, 0, none⟩ ⟨w0.heap.size, 0, none⟩ (.slice A2 (s.players.length + 1) c2) (by intro e; injection e with e1; omega)]
        exact h6.name.cellAt 0
      clear own5 hg5 h6
      refine hK.out _ _ (hn5) (fun hSn => ?_)
      clear hK K
      go_simp
      refine wpAnyH_take (i := 6) (v := ?v4) rfl (by kernel_rfl) (by kernel_rfl) (by kernel_rfl) (fun _ _ _ h => by first | exact h | exact absurd h.1 (fun e => by cases e)) (Or.inl ⟨by rfl, ?hy4⟩) (by assumption) ?rest4
      case hy4 =>
        intro w hSw
        have qh := hSw
        go_simp
        try with_reducible rfl
      go_simp
      refine wpAnyH_ready (rs := [7]) (by kernel_rfl) (by simp) ?_
      refine AllReadyH.cons rfl (fun K hK => ?_) AllReadyH.nil
      go_simp
      refine hK.out _ _ (H6.out.name.cellAt 0) (fun hSn => ?_)
      clear hK K
      go_simp
      refine wpAnyH_done (by kernel_rfl) ?_ _
      go_end0
      exact ⟨rfl, x, A2, c2, hx, H6.out⟩
    case sd =>
      go_simp
      refine hK.out _ _ (H4.out.name.cellAt 0) (fun hSn => ?_)
      clear hK K
      go_simp
      refine wpAnyH_ready (rs := [1]) (by kernel_rfl) (by simp) ?_
      refine AllReadyH.cons rfl (fun K hK => ?_) AllReadyH.nil
      have hp : (w3.alloc (.cells #[.int .i32 x.life, .int .i32 x.energy, .bool x.out] 44)).cell? ⟨w0.heap.size + 2, 0, none⟩ = some (.slice Ap s.players.length cp) := H4.out.box.cellAt 0
      go_simp
      refine hK.out _ _ (hSn) (fun hSn => ?_)
      clear hK K
      go_simp
      refine wpAnyH_ready (rs := [5]) (by kernel_rfl) (by simp) ?_
      refine AllReadyH.cons rfl (fun K hK => ?_) AllReadyH.nil
      refine stepIf (by rfl) ?_
      refine wp_append_cells _ _ _ 22 rfl w0.heap.size 44 (.agg #[.int .i32 0, .int .i32 0, .bool false]) 3 12 Tryz.underlying22 info_pl rfl (by decide) (.slice Ap s.players.length cp) s.players.length (flat Pl.cells s.players) rfl H4.out.lists.players (w3.heap.size + 1) (some ⟨w3.heap.size, 0, none⟩) 1 1 x.cells rfl (Lies.row (t := 44) (fr := (0, 0)) (heap_alloc_new _ _) (Nat.lt_succ_self _)) rfl (fun u hu => by simp [Pl.cells] at hu; rcases hu with rfl | rfl | rfl <;> rfl) (by simp only [maxLen]; omega) (by omega) (by have := H4.out.keeps.size; omega) ?_
      intro A2 c2 w5 own5 hg5 _ _ _
      obtain ⟨h6, f6, u6, c6⟩ := H3.out.pushP own5 hg5
      have H6 := Lib.hid h6
      have hn5 : w5.cell? ⟨w0.heap.size, 0, none⟩ = some (.pointer (some ⟨r, 0, none⟩)) := by
        rw [← World.cell?_setCell_other w5 ⟨w0.heap.size + 2, 0, none⟩ ⟨w0.heap.size, 0, none⟩ (.slice A2 (s.players.length + 1) c2) (by intro e; injection e with e1; omega)]
        exact h6.name.cellAt 0
      clear own5 hg5 h6
      refine hK.out _ _ (hn5) (fun hSn => ?_)
      clear hK K
      go_simp
      refine wpAnyH_take (i := 6) (v := ?v5) rfl (by kernel_rfl) (by kernel_rfl) (by kernel_rfl) (fun _ _ _ h => by first | exact h | exact absurd h.1 (fun e => by cases e)) (Or.inl ⟨by rfl, ?hy5⟩) (by assumption) ?rest5
      case hy5 =>
        intro w hSw
        have qh := hSw
        go_simp
        try with_reducible rfl
      go_simp
      refine wpAnyH_ready (rs := [7]) (by kernel_rfl) (by simp) ?_
      refine AllReadyH.cons rfl (fun K hK => ?_) AllReadyH.nil
      go_simp
      refine hK.out _ _ (H6.out.name.cellAt 0) (fun hSn => ?_)
      clear hK K
      go_simp
      refine wpAnyH_done (by kernel_rfl) ?_ _
      go_end0
      exact ⟨rfl, x, A2, c2, hx, H6.out⟩
set_option maxRecDepth 100000 in
set_option maxHeartbeats 4000000 in
theorem oneEntry_any {w0 w : World} {r B cap i : Nat} {A : Option Addr} {b : List Oct} {bad : Bool} {s : St} {Ap Ac Az : Option Addr} {cp cc cz : Nat} {cells : List Value} {zb : Nat} {xs : List Int} {Al : Option Addr} {cl : Nat} (h : Rz w0 w r B A cap b i bad s Ap Ac Az cp cc cz cells zb xs Al cl) (hl : b.length ≤ 1099511627776) (hn : xs.length ≤ 100000000) :
    Calls Tryz.prog 86 #[.pointer (some ⟨zb, 0, none⟩), .pointer (some ⟨w0.heap.size, 0, none⟩)] w fun e w' => e = .returned (.tuple #[]) ∧ ∃ (x : Int) (A' : Option Addr) (c' : Nat), (∀ y j, (numP 2).from b i bad = .ok y j → x = y) ∧ Rz w0 w' r B A cap b ((numP 2).from b i bad).at_ ((numP 2).from b i bad).isBad s Ap Ac Az cp cc cz cells zb (xs ++ [x]) A' c' := by
  have hnm : w.cell? ⟨w0.heap.size, 0, none⟩ = some (.pointer (some ⟨r, 0, none⟩)) := h.rg.name.cellAt 0
  have HD := Lib.hid (h.calm (Keeps.refl _ w).drew)
  have HNE : Hid (zb ≠ w0.heap.size) := Lib.hid (fun e => by
    have h1 := h.zbox
    rw [e] at h1
    have h2 := h1.symm.trans h.rg.name
    injection h2 with h2
    injection h2 with _ h3 _
    exact absurd h3 (by decide))
  have HCN := number_any 2 r B A cap i b bad w.drew HD.out.rg.rd hl (by decide) (by decide)
  obtain ⟨xv, hxv⟩ : ∃ z, z = (sx32 (((numP 2).from b i bad).val 0)) := ⟨_, rfl⟩
  have HXV : Hid (∀ y j, (numP 2).from b i bad = .ok y j → xv = y) := Lib.hid (fun y j e => by rw [hxv]; exact (num_val (Nat.le_refl _) e).2.2)
  have hxb := num_bound b i bad (Nat.le_refl 2)
  rw [← hxv] at HCN hxb
  have hwx : IntKind.i64.wrap xv = xv := IntWalk.i64_in _ (by omega)
  clear h hxv hxb
  go_enter Tryz.func86, Tryz.ntmps86
  go_wp2_with fail
  refine wp_region_held_drew (S := fun W => W.cell? ⟨w0.heap.size, 0, none⟩ = some (.pointer (some ⟨r, 0, none⟩))) (by kernel_rfl) (hnm) ?_
  intro hSn
  refine wpAnyH_take (i := 1) (v := ?v6) rfl (by kernel_rfl) (by kernel_rfl) (by kernel_rfl) (fun _ _ _ h => by first | exact h | exact absurd h.1 (fun e => by cases e)) (Or.inl ⟨by rfl, ?hy6⟩) (by assumption) ?rest6
  case hy6 =>
    intro w hSw
    have qh := hSw
    go_simp
    try with_reducible rfl
  go_simp
  refine wpAnyH_ready (rs := [0, 2]) (by kernel_rfl) (by simp) ?_
  refine AllReadyH.cons rfl (fun K hK => ?sa) (AllReadyH.cons rfl (fun K hK => ?sb) AllReadyH.nil)
  case sa =>
    have hp : (w.drew).cell? ⟨zb, 0, none⟩ = some (.slice Al xs.length cl) := HD.out.zbox.cellAt 0
    go_simp
    refine hK.out _ _ (hSn) (fun hSn => ?_)
    clear hK K
    go_simp
    refine wpAnyH_ready (rs := [2]) (by kernel_rfl) (by simp) ?_
    refine AllReadyH.cons rfl (fun K hK => ?_) AllReadyH.nil
    go_simp
    refine HCN.mono ?_
    rintro e w3 ⟨rfl, h3, k3⟩
    have H3 := Lib.hid (HD.out.read h3 k3)
    have H4 := Lib.hid (H3.out.calm ((Keeps.refl _ w3).alloc (.cells #[.int .i64 xv] 3)))
    clear h3 k3
    refine hK.out _ _ (H3.out.rg.name.cellAt 0) (fun hSn => ?_)
    clear hK K
    go_simp
    refine wpAnyH_take (i := 3) (v := ?v7) rfl (by kernel_rfl) (by kernel_rfl) (by kernel_rfl) (fun _ _ _ h => by first | exact h | exact absurd h.1 (fun e => by cases e)) (Or.inl ⟨by rfl, ?hy7⟩) (by assumption) ?rest7
    case hy7 =>
      intro w hSw
      have qh := hSw
      go_simp
      try with_reducible rfl
    go_simp
    refine wpAnyH_ready (rs := [4]) (by kernel_rfl) (by simp) ?_
    refine AllReadyH.cons rfl (fun K hK => ?_) AllReadyH.nil
    go_simp
    refine hK.out _ _ (H4.out.rg.name.cellAt 0) (fun hSn => ?_)
    clear hK K
    go_simp
    refine wpAnyH_ready (rs := [5]) (by kernel_rfl) (by simp) ?_
    refine AllReadyH.cons rfl (fun K hK => ?_) AllReadyH.nil
    refine stepIf (by rfl) ?_
    refine wp_append_cells _ _ _ 90 rfl w0.heap.size 3 (.int .i64 0) 1 8 Tryz.underlying90 info_int rfl (by decide) (.slice Al xs.length cl) xs.length (xs.map (Value.int .i64)) rfl H4.out.own (w3.heap.size + 1) (some ⟨w3.heap.size, 0, none⟩) 1 1 [.int .i64 xv] rfl (Lies.row (t := 3) (fr := (0, 0)) (heap_alloc_new _ _) (Nat.lt_succ_self _)) rfl (fun u hu => by simp at hu; rw [hu]; rfl) (by simp only [maxLen]; omega) (by omega) (by have := H4.out.rg.keeps.size; omega) ?_
    intro A2 c2 w5 own5 hg5 hor5 _ _
    obtain ⟨h6, f6, u6, c6⟩ := H3.out.push own5 hg5 hor5
    have H6 := Lib.hid h6
    have hn5 : w5.cell? ⟨w0.heap.size, 0, none⟩ = some (.pointer (some ⟨r, 0, none⟩)) := by
      rw [← World.cell?_setCell_other w5 ⟨zb, 0, none⟩ ⟨w0.heap.size, 0, none⟩ (.slice A2 (xs.length + 1) c2) (by intro e; injection e with e1; exact HNE.out e1)]
      exact h6.rg.name.cellAt 0
    clear own5 hg5 hor5 h6
    refine hK.out _ _ (hn5) (fun hSn => ?_)
    clear hK K
    go_simp
    refine wpAnyH_ready (rs := [6]) (by kernel_rfl) (by simp) ?_
    refine AllReadyH.cons rfl (fun K hK => ?_) AllReadyH.nil
    go_simp
    refine hK.out _ _ (H6.out.rg.name.cellAt 0) (fun hSn => ?_)
    clear hK K
    go_simp
    refine wpAnyH_done (by kernel_rfl) ?_ _
    go_end0
    exact ⟨rfl, xv, A2, c2, HXV.out, H6.out⟩
  case sb =>
    go_simp
    refine HCN.mono ?_
    rintro e w3 ⟨rfl, h3, k3⟩
    have H3 := Lib.hid (HD.out.read h3 k3)
    have H4 := Lib.hid (H3.out.calm ((Keeps.refl _ w3).alloc (.cells #[.int .i64 xv] 3)))
    clear h3 k3
    refine hK.out _ _ (H3.out.rg.name.cellAt 0) (fun hSn => ?_)
    clear hK K
    go_simp
    refine wpAnyH_take (i := 3) (v := ?v8) rfl (by kernel_rfl) (by kernel_rfl) (by kernel_rfl) (fun _ _ _ h => by first | exact h | exact absurd h.1 (fun e => by cases e)) (Or.inl ⟨by rfl, ?hy8⟩) (by assumption) ?rest8
    case hy8 =>
      intro w hSw
      have qh := hSw
      go_simp
      try with_reducible rfl
    go_simp
    refine wpAnyH_ready (rs := [0, 4]) (by kernel_rfl) (by simp) ?_
    refine AllReadyH.cons rfl (fun K hK => ?sc) (AllReadyH.cons rfl (fun K hK => ?sd) AllReadyH.nil)
    case sc =>
      have hp : (w3).cell? ⟨zb, 0, none⟩ = some (.slice Al xs.length cl) := H3.out.zbox.cellAt 0
      go_simp
      refine hK.out _ _ (hSn) (fun hSn => ?_)
      clear hK K
      go_simp
      refine wpAnyH_ready (rs := [4]) (by kernel_rfl) (by simp) ?_
      refine AllReadyH.cons rfl (fun K hK => ?_) AllReadyH.nil
      go_simp
      refine hK.out _ _ (H4.out.rg.name.cellAt 0) (fun hSn => ?_)
      clear hK K
      go_simp
      refine wpAnyH_ready (rs := [5]) (by kernel_rfl) (by simp) ?_
      refine AllReadyH.cons rfl (fun K hK => ?_) AllReadyH.nil
      refine stepIf (by rfl) ?_
      refine wp_append_cells _ _ _ 90 rfl w0.heap.size 3 (.int .i64 0) 1 8 Tryz.underlying90 info_int rfl (by decide) (.slice Al xs.length cl) xs.length (xs.map (Value.int .i64)) rfl H4.out.own (w3.heap.size + 1) (some ⟨w3.heap.size, 0, none⟩) 1 1 [.int .i64 xv] rfl (Lies.row (t := 3) (fr := (0, 0)) (heap_alloc_new _ _) (Nat.lt_succ_self _)) rfl (fun u hu => by simp at hu; rw [hu]; rfl) (by simp only [maxLen]; omega) (by omega) (by have := H4.out.rg.keeps.size; omega) ?_
      intro A2 c2 w5 own5 hg5 hor5 _ _
      obtain ⟨h6, f6, u6, c6⟩ := H3.out.push own5 hg5 hor5
      have H6 := Lib.hid h6
      have hn5 : w5.cell? ⟨w0.heap.size, 0, none⟩ = some (.pointer (some ⟨r, 0, none⟩)) := by
        rw [← World.cell?_setCell_other w5 ⟨zb, 0, none⟩ ⟨w0.heap.size, 0, none⟩ (.slice A2 (xs.length + 1) c2) (by intro e; injection e with e1; exact HNE.out e1)]
        exact h6.rg.name.cellAt 0
      clear own5 hg5 hor5 h6
      refine hK.out _ _ (hn5) (fun hSn => ?_)
      clear hK K
      go_simp
      refine wpAnyH_ready (rs := [6]) (by kernel_rfl) (by simp) ?_
      refine AllReadyH.cons rfl (fun K hK => ?_) AllReadyH.nil
      go_simp
      refine hK.out _ _ (H6.out.rg.name.cellAt 0) (fun hSn => ?_)
      clear hK K
      go_simp
      refine wpAnyH_done (by kernel_rfl) ?_ _
      go_end0
      exact ⟨rfl, xv, A2, c2, HXV.out, H6.out⟩
    case sd =>
      go_simp
      refine hK.out _ _ (H4.out.rg.name.cellAt 0) (fun hSn => ?_)
      clear hK K
      go_simp
      refine wpAnyH_ready (rs := [0]) (by kernel_rfl) (by simp) ?_
      refine AllReadyH.cons rfl (fun K hK => ?_) AllReadyH.nil
      have hp : (w3.alloc (.cells #[.int .i64 xv] 3)).cell? ⟨zb, 0, none⟩ = some (.slice Al xs.length cl) := H4.out.zbox.cellAt 0
      go_simp
      refine hK.out _ _ (hSn) (fun hSn => ?_)
      clear hK K
      go_simp
      refine wpAnyH_ready (rs := [5]) (by kernel_rfl) (by simp) ?_
      refine AllReadyH.cons rfl (fun K hK => ?_) AllReadyH.nil
      refine stepIf (by rfl) ?_
      refine wp_append_cells _ _ _ 90 rfl w0.heap.size 3 (.int .i64 0) 1 8 Tryz.underlying90 info_int rfl (by decide) (.slice Al xs.length cl) xs.length (xs.map (Value.int .i64)) rfl H4.out.own (w3.heap.size + 1) (some ⟨w3.heap.size, 0, none⟩) 1 1 [.int .i64 xv] rfl (Lies.row (t := 3) (fr := (0, 0)) (heap_alloc_new _ _) (Nat.lt_succ_self _)) rfl (fun u hu => by simp at hu; rw [hu]; rfl) (by simp only [maxLen]; omega) (by omega) (by have := H4.out.rg.keeps.size; omega) ?_
      intro A2 c2 w5 own5 hg5 hor5 _ _
      obtain ⟨h6, f6, u6, c6⟩ := H3.out.push own5 hg5 hor5
      have H6 := Lib.hid h6
      have hn5 : w5.cell? ⟨w0.heap.size, 0, none⟩ = some (.pointer (some ⟨r, 0, none⟩)) := by
        rw [← World.cell?_setCell_other w5 ⟨zb, 0, none⟩ ⟨w0.heap.size, 0, none⟩ (.slice A2 (xs.length + 1) c2) (by intro e; injection e with e1; exact HNE.out e1)]
        exact h6.rg.name.cellAt 0
      clear own5 hg5 hor5 h6
      refine hK.out _ _ (hn5) (fun hSn => ?_)
      clear hK K
      go_simp
      refine wpAnyH_ready (rs := [6]) (by kernel_rfl) (by simp) ?_
      refine AllReadyH.cons rfl (fun K hK => ?_) AllReadyH.nil
      go_simp
      refine hK.out _ _ (H6.out.rg.name.cellAt 0) (fun hSn => ?_)
      clear hK K
      go_simp
      refine wpAnyH_done (by kernel_rfl) ?_ _
      go_end0
      exact ⟨rfl, xv, A2, c2, HXV.out, H6.out⟩
/-- So far k entries are read. -/
def ZInv (w0 : World) (r B : Nat) (A : Option Addr) (cap : Nat) (b : List Oct) (i1 : Nat) (b1 : Bool) (s : St) (Ap Ac Az : Option Addr) (cp cc cz : Nat) (cells : List Value) (zb : Nat) (k : Nat) (W : World) : Prop :=
  ∃ (xs : List Int) (Al : Option Addr) (cl : Nat), xs.length = k ∧ (∀ l j, (repP (numP 2) k).from b i1 b1 = .ok l j → xs = l) ∧ Rz w0 W r B A cap b ((repP (numP 2) k).from b i1 b1).at_ ((repP (numP 2) k).from b i1 b1).isBad s Ap Ac Az cp cc cz cells zb xs Al cl
/-- All m entries are read, or there is a fault. -/
def ZRead (w0 : World) (r B : Nat) (A : Option Addr) (cap : Nat) (b : List Oct) (i1 : Nat) (b1 : Bool) (s : St) (Ap Ac Az : Option Addr) (cp cc cz : Nat) (cells : List Value) (zb m : Nat) (W : World) : Prop :=
  ∃ (xs : List Int) (Al : Option Addr) (cl : Nat), xs.length ≤ m ∧ (∀ l j, (repP (numP 2) m).from b i1 b1 = .ok l j → xs = l) ∧ Rz w0 W r B A cap b ((repP (numP 2) m).from b i1 b1).at_ ((repP (numP 2) m).from b i1 b1).isBad s Ap Ac Az cp cc cz cells zb xs Al cl
theorem zoneList_any {w0 w : World} {r B cap i : Nat} {A : Option Addr} {b : List Oct} {bad : Bool} {s : St} {Ap Ac Az : Option Addr} {cp cc cz : Nat} {cells : List Value} {zb : Nat} (h : Rz w0 w r B A cap b i bad s Ap Ac Az cp cc cz cells zb [] none 0) (hl : b.length ≤ 1099511627776) (m : Nat) (hm : m < 65536) :
    Calls Tryz.prog 81 #[.pointer (some ⟨r, 0, none⟩), .int .i32 m, .func (.func 86) #[] #[.pointer (some ⟨zb, 0, none⟩), .pointer (some ⟨w0.heap.size, 0, none⟩)]] w fun e w' => e = .returned (.tuple #[]) ∧ ∃ (xs : List Int) (Al : Option Addr) (cl : Nat), xs.length ≤ m ∧ (∀ l j, (repP (numP 2) m).from b i bad = .ok l j → xs = l) ∧ Rz w0 w' r B A cap b ((repP (numP 2) m).from b i bad).at_ ((repP (numP 2) m).from b i bad).isBad s Ap Ac Az cp cc cz cells zb xs Al cl := by
  have h0 : ZInv w0 r B A cap b i bad s Ap Ac Az cp cc cz cells zb 0 w := by
    refine ⟨[], none, 0, rfl, ?_, ?_⟩
    · intro l j e
      cases bad
      · injection e with e1 _
      · cases e
    · cases bad <;> exact h
  refine (list_any 86 _ (enters_of Tryz.func86 (by kernel_rfl) rfl) m r (ZInv w0 r B A cap b i bad s Ap Ac Az cp cc cz cells zb) (fun k => ((repP (numP 2) k).from b i bad).isBad) w (by omega) ?_ ?_ h0).mono ?_
  · rintro k W ⟨xs, Al, cl, _, _, hz⟩
    exact hz.rg.rd.box.cellAt 2
  · rintro k W hk _ ⟨xs, Al, cl, hx, hv, hz⟩
    refine (oneEntry_any hz hl (by omega)).mono ?_
    rintro e w' ⟨he, x, A', c', hx2, hz2⟩
    refine ⟨he, xs ++ [x], A', c', by simp [hx], rep_more hv hx2, ?_⟩
    rw [rep_at, rep_isBad]
    exact hz2
  · rintro e w' ⟨he, k, hk, ⟨xs, Al, cl, hx, hv, hz⟩, hend⟩
    refine ⟨he, xs, Al, cl, by omega, ?_, ?_⟩
    · rcases hend with rfl | hb
      · exact hv
      · exact fun l j e => absurd e (bad_none (rep_stop hk hb).2 l j)
    · rcases hend with rfl | hb
      · exact hz
      · obtain ⟨h1, h2⟩ := rep_stop hk hb
        rw [h1, h2, ← hb]
        exact hz
set_option maxRecDepth 100000 in
set_option maxHeartbeats 4000000 in
theorem oneZone_any {w0 w : World} {r B cap i : Nat} {A : Option Addr} {b : List Oct} {bad : Bool} {s : St} {Ap Ac Az : Option Addr} {cp cc cz : Nat} {cells : List Value} (h : Rg w0 w r B A cap b i bad s Ap Ac Az cp cc cz cells) (hl : b.length ≤ 1099511627776) (hn : s.zones.length ≤ 100000000) :
    Calls Tryz.prog 85 #[.pointer (some ⟨w0.heap.size, 0, none⟩), .pointer (some ⟨w0.heap.size + 2, 0, none⟩)] w fun e w' => e = .returned (.tuple #[]) ∧ ∃ (x : List Int) (A' : Option Addr) (c' : Nat) (cells' : List Value), (∀ y j, zoneP.from b i bad = .ok y j → x = y) ∧ Rg w0 w' r B A cap b (zoneP.from b i bad).at_ (zoneP.from b i bad).isBad { s with zones := s.zones ++ [x] } Ap Ac A' cp cc c' cells' := by
  have HZ := Lib.hid (Rz.start h)
  clear h
  obtain ⟨mv, hmv⟩ : ∃ z, z = sx32 (((numP 2).from b i bad).val 0) := ⟨_, rfl⟩
  obtain ⟨i1, hi1⟩ : ∃ z, z = ((numP 2).from b i bad).at_ := ⟨_, rfl⟩
  obtain ⟨b1, hb1⟩ : ∃ z, z = ((numP 2).from b i bad).isBad := ⟨_, rfl⟩
  have hmb := num_bound b i bad (Nat.le_refl 2)
  rw [← hmv] at hmb
  obtain ⟨m, hm⟩ : ∃ m : Nat, mv = (m : Int) := ⟨mv.toNat, by omega⟩
  have hm2 : m < 65536 := by omega
  have HZP : Hid (zoneP.from b i bad = (repP (numP 2) m).from b i1 b1) := Lib.hid (by
    have e1 : (((numP 2).from b i bad).val 0).toNat = m := by
      cases e : (numP 2).from b i bad with
      | bad q => rw [e] at hmv; simp only [Rd.val] at hmv ⊢; rw [hm] at hmv; have : sx32 0 = 0 := rfl; omega
      | ok y j =>
        have h3 := (num_val (Nat.le_refl 2) e).2.2
        rw [← hmv, hm] at h3
        simp only [Rd.val]
        omega
    unfold zoneP
    rw [from_seq 0, e1, ← hi1, ← hb1])
  have HN := number_any 2 r B A cap i b bad _ HZ.out.rg.rd.drew hl (by decide) (by decide)
  rw [← hmv, ← hi1, ← hb1, hm] at HN
  clear hmb hmv hi1 hb1 hm
  have hnm : (w.alloc (.cells #[.slice none 0 0] 90)).cell? ⟨w0.heap.size, 0, none⟩ = some (.pointer (some ⟨r, 0, none⟩)) := HZ.out.rg.name.cellAt 0
  have hmf : ∀ (fn : Fn) (first cap : Array Value) (w : World), (Instr.makeFunc fn first cap).run Tryz.prog w = .ok (.func fn first cap) w := fun _ _ _ _ => rfl
  go_enter Tryz.func85, Tryz.ntmps85
  go_wp2_with fail
  refine regionCut (fun a a' w' => (∃ u3 u4 u5 u6 u7 : Value, a' = (((((a.put (some 3) u3).put (some 4) u4).put (some 5) u5).put (some 6) u6).put (some 7) u7)) ∧ ZRead w0 r B A cap b i1 b1 s Ap Ac Az cp cc cz cells w.heap.size m w') ?_ ?_
  · skip
    refine wp_region_held_drew (S := fun W => W.cell? ⟨w0.heap.size, 0, none⟩ = some (.pointer (some ⟨r, 0, none⟩))) (by kernel_rfl) (hnm) ?_
    intro hSn
    refine wpAnyH_take (i := 0) (v := ?v9) rfl (by kernel_rfl) (by kernel_rfl) (by kernel_rfl) (fun _ _ _ h => by first | exact h | exact absurd h.1 (fun e => by cases e)) (Or.inl ⟨by rfl, ?hy9⟩) (by assumption) ?rest9
    case hy9 =>
      intro w hSw
      have qh := hSw
      go_simp
      try with_reducible rfl
    go_simp
    refine wpAnyH_take (i := 1) (v := ?v10) rfl (by kernel_rfl) (by kernel_rfl) (by kernel_rfl) (fun _ _ _ h => by first | exact h | exact absurd h.1 (fun e => by cases e)) (Or.inl ⟨by rfl, ?hy10⟩) (by assumption) ?rest10
    case hy10 =>
      intro w hSw
      have qh := hSw
      go_simp
      try with_reducible rfl
    go_simp
    refine wpAnyH_take (i := 3) (v := ?v11) rfl (by kernel_rfl) (by kernel_rfl) (by kernel_rfl) (fun _ _ _ h => by first | exact h | exact absurd h.1 (fun e => by cases e)) (Or.inl ⟨by rfl, ?hy11⟩) (by assumption) ?rest11
    case hy11 =>
      intro w hSw
      have qh := hSw
      go_simp
      try with_reducible rfl
    go_simp
    refine wpAnyH_ready (rs := [2]) (by kernel_rfl) (by simp) ?_
    refine AllReadyH.cons rfl (fun K hK => ?_) AllReadyH.nil
    go_simp
    refine HN.mono ?_
    rintro e w3 ⟨rfl, h3, k3⟩
    have H3 := Lib.hid (HZ.out.calm (Keeps.refl _ _).drew |>.read h3 k3)
    clear h3 k3
    refine hK.out _ _ (H3.out.rg.name.cellAt 0) (fun hSn => ?_)
    clear hK K
    go_simp
    refine wpAnyH_ready (rs := [4]) (by kernel_rfl) (by simp) ?_
    refine AllReadyH.cons rfl (fun K hK => ?_) AllReadyH.nil
    go_simp
    refine (zoneList_any H3.out hl m hm2).mono ?_
    rintro e w4 ⟨rfl, xs, Al, cl, hxl, hxv, hz4⟩
    have H4 := Lib.hid hz4
    have HXV := Lib.hid hxv
    clear hz4 hxv
    refine hK.out _ _ (H4.out.rg.name.cellAt 0) (fun hSn => ?_)
    clear hK K
    go_simp
    refine wpAnyH_done (by kernel_rfl) ?_ _
    exact ⟨rfl, ⟨_, _, _, _, _, rfl⟩, xs, Al, cl, hxl, HXV.out, H4.out⟩
  · rintro a' w4 ⟨⟨u3, u4, u5, u6, u7, rfl⟩, xs, Al, cl, hxl, hxv, hz4⟩
    have H4 := Lib.hid hz4
    have HXV : Hid (∀ y j, zoneP.from b i bad = .ok y j → xs = y) := Lib.hid (by rw [HZP.out]; exact hxv)
    clear hxv hz4 HZ HN hnm
    have c0 : w4.cell? ⟨w0.heap.size + 2, 2, none⟩ = some (.slice Az s.zones.length cz) := H4.out.rg.box.cellAt 2
    have c1 : w4.cell? ⟨w.heap.size, 0, none⟩ = some (.slice Al xs.length cl) := H4.out.zbox.cellAt 0
    have HA := Lib.hid (H4.out.calm ((Keeps.refl _ w4).alloc (.cells #[.slice Al xs.length cl] 90)))
    go_wp2_with (first
      | (at_builtin
         refine wpList_append_cells _ rfl _ _ 24 rfl w0.heap.size 90 (.slice none 0 0) 1 24 Tryz.underlying24 info_row rfl (by decide) (.slice Az s.zones.length cz) s.zones.length cells rfl HA.out.rg.lists.zones.own (w4.heap.size + 1) (some ⟨w4.heap.size, 0, none⟩) 1 1 [.slice Al xs.length cl] rfl (Lies.row (t := 90) (fr := (0, 0)) (heap_alloc_new _ _) (Nat.lt_succ_self _)) rfl (fun u hu => by simp at hu; rw [hu]; rfl) (by simp only [maxLen]; omega) (by omega) (by have := HA.out.rg.keeps.size; omega) ?_
         intro A2 c2 w5 own5 hg5 _ _ _
         obtain ⟨h6, f6, u6', c6⟩ := H4.out.rg.pushZ H4.out.own H4.out.new own5 hg5
         have H6 := Lib.hid h6
         clear own5 hg5 h6))
    go_end0
    refine ⟨rfl, xs, A2, c2, cells ++ [.slice Al xs.length cl], HXV.out, ?_⟩
    rw [HZP.out]
    exact H6.out
end Go.Proofs.YthmfbcfbcookiaaGreatDoor
/-
  image's reader of a state: one card: the walk. Conditions: lengths within 10 ^ 8.
-/
namespace Go.Proofs.YthmfbcfbcookiaaGreatDoor
open Go.RowKit
/-- A card that is being read: its block, its cells. -/
structure Rc (w0 w : World) (r B : Nat) (A : Option Addr) (cap : Nat) (b : List Oct) (i : Nat) (bad : Bool) (s : St) (Ap Ac Az : Option Addr) (cp cc cz : Nat) (cells : List Value) (cb : Nat) (cs : Array Value) : Prop where
  rg : Rg w0 w r B A cap b i bad s Ap Ac Az cp cc cz cells
  box : Whole w cb 42 cs
  far : ∀ k, (Value.slice Ac s.cards.length cc).ownBlock = some k → k ≠ cb
  lo : w0.heap.size ≤ cb
section
variable {w0 w w2 : World} {r B cap i : Nat} {A : Option Addr} {b : List Oct} {bad : Bool} {s : St} {Ap Ac Az : Option Addr} {cp cc cz : Nat} {cells : List Value} {cb : Nat} {cs : Array Value}
theorem Rc.start (h : Rg w0 w r B A cap b i bad s Ap Ac Az cp cc cz cells) (cs : Array Value) : Rc w0 (w.alloc (.cells cs 42)) r B A cap b i bad s Ap Ac Az cp cc cz cells w.heap.size cs :=
  ⟨h.calm ((Keeps.refl _ w).alloc _), Whole.made _ _ _, fun k hk => Nat.ne_of_lt (h.lists.cards.lt k hk).2, h.keeps.size⟩
theorem Rc.read {j : Nat} {c : Bool} (h : Rc w0 w r B A cap b i bad s Ap Ac Az cp cc cz cells cb cs) (hr : RdAt w2 r B A cap b j c) (hk : Keeps (fun k => k = r) w w2) : Rc w0 w2 r B A cap b j c s Ap Ac Az cp cc cz cells cb cs := by
  have ho := h.rg.old
  have hz := h.lo
  exact ⟨h.rg.read hr hk, h.box.keeps hk (by omega), h.far, h.lo⟩
theorem Rc.calm (h : Rc w0 w r B A cap b i bad s Ap Ac Az cp cc cz cells cb cs) (hk : Keeps (fun _ => False) w w2) : Rc w0 w2 r B A cap b i bad s Ap Ac Az cp cc cz cells cb cs := h.read (h.rg.rd.keeps hk id (fun _ _ => id)) (hk.mono fun _ _ e => e.elim)
theorem Rc.put (h : Rc w0 w r B A cap b i bad s Ap Ac Az cp cc cz cells cb cs) (k : Nat) (v : Value) : Rc w0 (w.setCell ⟨cb, k, none⟩ v) r B A cap b i bad s Ap Ac Az cp cc cz cells cb (cs.setIfInBounds k v) := by
  have hk : Keeps (fun x => x = cb) w (w.setCell ⟨cb, k, none⟩ v) := Keeps.setCell (S := fun x => x = cb) (Keeps.refl _ _) (fun _ => rfl) _
  have hT := whole_ofKind h.box
  have ho := h.rg.old
  have hz := h.lo
  have hB := h.rg.rd.below
  exact ⟨⟨h.rg.rd.keepsT hk hT (by decide) (fun k hk e => by omega), whole_keepsT h.rg.name hk hT (by decide), whole_keepsT h.rg.res hk hT (by decide), whole_keepsT h.rg.box hk hT (by decide),
    ⟨own_keepsT h.rg.lists.players hk hT (by decide), own_keepsS h.rg.lists.cards hk (fun k hk e => h.far k hk e), rows_keepsT h.rg.lists.zones hk hT (by decide) (by decide)⟩, h.rg.ap, h.rg.keeps.setCell (p := ⟨cb, k, none⟩) (fun h => absurd h (by show ¬ cb < w0.heap.size; omega)) v, h.rg.old⟩, h.box.put k v, h.far, h.lo⟩
end
/-- A block of six cells, known whole. -/
theorem six {w : World} {g : Nat} {t : TypeId} {a b c d e f : Value} (H : Whole w g t #[a, b, c, d, e, f]) :
    w.cell? ⟨g, 0, none⟩ = some a ∧ w.cell? ⟨g, 1, none⟩ = some b ∧ w.cell? ⟨g, 2, none⟩ = some c ∧ w.cell? ⟨g, 3, none⟩ = some d ∧ w.cell? ⟨g, 4, none⟩ = some e ∧ w.cell? ⟨g, 5, none⟩ = some f ∧
    w.frozen? ⟨g, 0, none⟩ = false ∧ w.frozen? ⟨g, 1, none⟩ = false ∧ w.frozen? ⟨g, 2, none⟩ = false ∧ w.frozen? ⟨g, 3, none⟩ = false ∧ w.frozen? ⟨g, 4, none⟩ = false ∧ w.frozen? ⟨g, 5, none⟩ = false :=
  ⟨H.cellAt 0, H.cellAt 1, H.cellAt 2, H.cellAt 3, H.cellAt 4, H.cellAt 5, H.free 0, H.free 1, H.free 2, H.free 3, H.free 4, H.free 5⟩
def CardCut (w0 : World) (r B : Nat) (A : Option Addr) (cap : Nat) (b : List Oct) (i : Nat) (bad : Bool) (s : St) (Ap Ac Az : Option Addr) (cp cc cz : Nat) (cells : List Value) (v1 v2 : Int) (a a' : Act) (w' : World) : Prop :=
  ∃ (cb : Nat) (u3 u4 u5 u6 u7 u8 u9 : Value), a' = ((((((((a.put (some 2) (.pointer (some ⟨cb, 0, none⟩))).put (some 3) u3).put (some 4) u4).put (some 5) u5).put (some 6) u6).put (some 7) u7).put (some 8) u8).put (some 9) u9) ∧ Rc w0 w' r B A cap b i bad s Ap Ac Az cp cc cz cells cb #[.int .i64 v1, .int .i64 v2, .int .i32 0, .int .i32 0, .int .i32 0, .int .i32 0]
def CardCut2 (w0 : World) (r B : Nat) (A : Option Addr) (cap : Nat) (b : List Oct) (i : Nat) (bad : Bool) (s : St) (Ap Ac Az : Option Addr) (cp cc cz : Nat) (cells : List Value) (cb : Nat) (cs : Array Value) (a a' : Act) (w' : World) : Prop :=
  (∃ u10 u11 u12 u13 u14 u15 u16 u17 u18 u19 u20 u21 : Value, a' = ((((((((((((a.put (some 10) u10).put (some 11) u11).put (some 12) u12).put (some 13) u13).put (some 14) u14).put (some 15) u15).put (some 16) u16).put (some 17) u17).put (some 18) u18).put (some 19) u19).put (some 20) u20).put (some 21) u21)) ∧ Rc w0 w' r B A cap b i bad s Ap Ac Az cp cc cz cells cb cs
set_option maxRecDepth 100000 in
set_option maxHeartbeats 4000000 in
theorem oneCard_any {w0 w : World} {r B cap i : Nat} {A : Option Addr} {b : List Oct} {bad : Bool} {s : St} {Ap Ac Az : Option Addr} {cp cc cz : Nat} {cells : List Value} (h : Rg w0 w r B A cap b i bad s Ap Ac Az cp cc cz cells) (hl : b.length ≤ 1099511627776) (hn : s.cards.length ≤ 100000000) :
    Calls Tryz.prog 84 #[.pointer (some ⟨w0.heap.size, 0, none⟩), .pointer (some ⟨w0.heap.size + 2, 0, none⟩)] w fun e w' => e = .returned (.tuple #[]) ∧ ∃ (x : Cd) (A' : Option Addr) (c' : Nat), (∀ y j, cardP.from b i bad = .ok y j → x = y) ∧ Rg w0 w' r B A cap b (cardP.from b i bad).at_ (cardP.from b i bad).isBad { s with cards := s.cards ++ [x] } Ap A' Az cp c' cz cells := by
  have hnm : w.cell? ⟨w0.heap.size, 0, none⟩ = some (.pointer (some ⟨r, 0, none⟩)) := h.name.cellAt 0
  have HD := Lib.hid (h.calm (Keeps.refl _ w).drew)
  clear h
  obtain ⟨v1, hv1⟩ : ∃ z, z = sx32 (((numP 2).from b i bad).val 0) := ⟨_, rfl⟩
  obtain ⟨i1, hi1⟩ : ∃ z, z = ((numP 2).from b i bad).at_ := ⟨_, rfl⟩
  obtain ⟨b1, hb1⟩ : ∃ z, z = ((numP 2).from b i bad).isBad := ⟨_, rfl⟩
  have HN1 := fun W (hW : RdAt W r B A cap b i bad) => number_any 2 r B A cap i b bad W hW hl (by decide) (by decide)
  rw [← hv1, ← hi1, ← hb1] at HN1
  obtain ⟨v2, hv2⟩ : ∃ z, z = sx32 (((numP 1).from b i1 b1).val 0) := ⟨_, rfl⟩
  obtain ⟨i2, hi2⟩ : ∃ z, z = ((numP 1).from b i1 b1).at_ := ⟨_, rfl⟩
  obtain ⟨b2, hb2⟩ : ∃ z, z = ((numP 1).from b i1 b1).isBad := ⟨_, rfl⟩
  have HN2 := fun W (hW : RdAt W r B A cap b i1 b1) => number_any 1 r B A cap i1 b b1 W hW hl (by decide) (by decide)
  rw [← hv2, ← hi2, ← hb2] at HN2
  obtain ⟨v3, hv3⟩ : ∃ z, z = sx32 (((numP 4).from b i2 b2).val 0) := ⟨_, rfl⟩
  obtain ⟨i3, hi3⟩ : ∃ z, z = ((numP 4).from b i2 b2).at_ := ⟨_, rfl⟩
  obtain ⟨b3, hb3⟩ : ∃ z, z = ((numP 4).from b i2 b2).isBad := ⟨_, rfl⟩
  have HN3 := fun W (hW : RdAt W r B A cap b i2 b2) => number_any 4 r B A cap i2 b b2 W hW hl (by decide) (by decide)
  rw [← hv3, ← hi3, ← hb3] at HN3
  obtain ⟨v4, hv4⟩ : ∃ z, z = sx32 (((numP 4).from b i3 b3).val 0) := ⟨_, rfl⟩
  obtain ⟨i4, hi4⟩ : ∃ z, z = ((numP 4).from b i3 b3).at_ := ⟨_, rfl⟩
  obtain ⟨b4, hb4⟩ : ∃ z, z = ((numP 4).from b i3 b3).isBad := ⟨_, rfl⟩
  have HN4 := fun W (hW : RdAt W r B A cap b i3 b3) => number_any 4 r B A cap i3 b b3 W hW hl (by decide) (by decide)
  rw [← hv4, ← hi4, ← hb4] at HN4
  obtain ⟨v5, hv5⟩ : ∃ z, z = sx32 (((numP 4).from b i4 b4).val 0) := ⟨_, rfl⟩
  obtain ⟨i5, hi5⟩ : ∃ z, z = ((numP 4).from b i4 b4).at_ := ⟨_, rfl⟩
  obtain ⟨b5, hb5⟩ : ∃ z, z = ((numP 4).from b i4 b4).isBad := ⟨_, rfl⟩
  have HN5 := fun W (hW : RdAt W r B A cap b i4 b4) => number_any 4 r B A cap i4 b b4 W hW hl (by decide) (by decide)
  rw [← hv5, ← hi5, ← hb5] at HN5
  obtain ⟨v6, hv6⟩ : ∃ z, z = sx32 (((numP 4).from b i5 b5).val 0) := ⟨_, rfl⟩
  obtain ⟨i6, hi6⟩ : ∃ z, z = ((numP 4).from b i5 b5).at_ := ⟨_, rfl⟩
  obtain ⟨b6, hb6⟩ : ∃ z, z = ((numP 4).from b i5 b5).isBad := ⟨_, rfl⟩
  have HN6 := fun W (hW : RdAt W r B A cap b i5 b5) => number_any 4 r B A cap i5 b b5 W hW hl (by decide) (by decide)
  rw [← hv6, ← hi6, ← hb6] at HN6
  have hq1 := num_bound b i bad (Nat.le_refl 2)
  have hq2 := num_bound b i1 b1 (show 1 ≤ 2 by decide)
  rw [← hv1] at hq1
  rw [← hv2] at hq2
  have hw1 : IntKind.i64.wrap v1 = v1 := IntWalk.i64_in _ (by omega)
  have hw2 : IntKind.i64.wrap v2 = v2 := IntWalk.i64_in _ (by omega)
  have HP : Hid (∃ (f : Cd), (∀ y j, cardP.from b i bad = .ok y j → f = y) ∧ f = ⟨v1, v2, v3, v4, v5, v6⟩ ∧ (cardP.from b i bad).at_ = i6 ∧ (cardP.from b i bad).isBad = b6) := Lib.hid (by
    have e1 : cardP.from b i bad = (s32P.map fun m => (⟨((numP 2).from b i bad).val 0, ((numP 1).from b i1 b1).val 0, v3, v4, v5, m⟩ : Cd)).from b i5 b5 := by
      unfold cardP
      rw [from_seq 0, ← hi1, ← hb1, from_seq 0, ← hi2, ← hb2, from_seq 0, s32_at, s32_bad, s32_val, ← hv3, ← hi3, ← hb3, from_seq 0, s32_at, s32_bad, s32_val, ← hv4, ← hi4, ← hb4, from_seq 0, s32_at, s32_bad, s32_val, ← hv5, ← hi5, ← hb5]
    refine ⟨⟨v1, v2, v3, v4, v5, v6⟩, fun y j e => ?_, rfl, ?_, ?_⟩
    · rw [e1, from_map] at e
      cases e6 : s32P.from b i5 b5 with
      | bad q => rw [e6] at e; cases e
      | ok m j6 =>
        rw [e6] at e
        injection e with e _
        have h6 := s32_val b i5 b5
        rw [e6, ← hv6] at h6
        have hb5f : b5 = false := by
          cases b5
          · rfl
          · cases e6
        subst hb5f
        have g5 : ((numP 4).from b i4 b4).isBad = false := hb5.symm
        have hb4f : b4 = false := by
          cases b4
          · rfl
          · cases g5
        subst hb4f
        have g4 : ((numP 4).from b i3 b3).isBad = false := hb4.symm
        have hb3f : b3 = false := by
          cases b3
          · rfl
          · cases g4
        subst hb3f
        have g3 : ((numP 4).from b i2 b2).isBad = false := hb3.symm
        have hb2f : b2 = false := by
          cases b2
          · rfl
          · cases g3
        subst hb2f
        have g2 : ((numP 1).from b i1 b1).isBad = false := hb2.symm
        cases f2 : (numP 1).from b i1 b1 with
        | bad q => rw [f2] at g2; cases g2
        | ok y2 j2 =>
          have hb1f : b1 = false := by
            cases b1
            · rfl
            · cases f2
          subst hb1f
          have g1 : ((numP 2).from b i bad).isBad = false := hb1.symm
          cases f1 : (numP 2).from b i bad with
          | bad q => rw [f1] at g1; cases g1
          | ok y1 j1 =>
            have k1 := (num_val (Nat.le_refl 2) f1).2.2
            have k2 := (num_val (show 1 ≤ 2 by decide) f2).2.2
            rw [← hv1] at k1
            rw [← hv2] at k2
            rw [← e, f1, f2, k1, k2]
            simp only [Rd.val] at h6 ⊢
            rw [h6]
    · rw [e1, from_map_at, s32_at, ← hi6]
    · rw [e1, from_map_bad, s32_bad, ← hb6])
  clear hv1 hi1 hb1 hv2 hi2 hb2 hv3 hi3 hb3 hv4 hi4 hb4 hv5 hi5 hb5 hv6 hi6 hb6 hq1 hq2
  go_enter Tryz.func84, Tryz.ntmps84
  go_wp2_with fail
  refine regionCut (CardCut w0 r B A cap b i2 b2 s Ap Ac Az cp cc cz cells v1 v2) ?_ ?_
  · skip
    refine wp_region_held_drew (S := fun W => W.cell? ⟨w0.heap.size, 0, none⟩ = some (.pointer (some ⟨r, 0, none⟩))) (by kernel_rfl) (hnm) ?_
    intro hSn
    refine wpAnyH_take (i := 0) (v := ?v1) rfl (by kernel_rfl) (by kernel_rfl) (by kernel_rfl) (fun _ _ _ h => by first | exact h | exact absurd h.1 (fun e => by cases e)) (Or.inl ⟨by rfl, ?hy1⟩) (by assumption) ?rest1
    case hy1 =>
      intro w hSw
      have qh := hSw
      go_simp
      try with_reducible rfl
    go_simp
    refine wpAnyH_take (i := 3) (v := ?v2) rfl (by kernel_rfl) (by kernel_rfl) (by kernel_rfl) (fun _ _ _ h => by first | exact h | exact absurd h.1 (fun e => by cases e)) (Or.inl ⟨by rfl, ?hy2⟩) (by assumption) ?rest2
    case hy2 =>
      intro w hSw
      have qh := hSw
      go_simp
      try with_reducible rfl
    go_simp
    refine wpAnyH_ready (rs := [1, 7]) (by kernel_rfl) (by simp) ?_
    refine AllReadyH.cons rfl (fun K hK => ?sa) (AllReadyH.cons rfl (fun K hK => ?sb) AllReadyH.nil)
    case sa =>
      go_simp
      refine (HN1 _ HD.out.rd).mono ?_
      rintro e w1 ⟨rfl, h3, k3⟩
      have H1 := Lib.hid (HD.out.read h3 k3)
      clear h3 k3
      refine hK.out _ _ (H1.out.name.cellAt 0) (fun hSn => ?_)
      clear hK K
      go_simp
      refine wpAnyH_take (i := 2) (v := ?v3) rfl (by kernel_rfl) (by kernel_rfl) (by kernel_rfl) (fun _ _ _ h => by first | exact h | exact absurd h.1 (fun e => by cases e)) (Or.inl ⟨by rfl, ?hy3⟩) (by assumption) ?rest3
      case hy3 =>
        intro w hSw
        have qh := hSw
        go_simp
        try with_reducible rfl
      go_simp
      refine wpAnyH_ready (rs := [4, 7]) (by kernel_rfl) (by simp) ?_
      refine AllReadyH.cons rfl (fun K hK => ?sc) (AllReadyH.cons rfl (fun K hK => ?sd) AllReadyH.nil)
      case sc =>
        go_simp
        refine (HN2 _ H1.out.rd).mono ?_
        rintro e w2 ⟨rfl, h3, k3⟩
        have H2 := Lib.hid (H1.out.read h3 k3)
        clear h3 k3
        refine hK.out _ _ (H2.out.name.cellAt 0) (fun hSn => ?_)
        clear hK K
        go_simp
        refine wpAnyH_take (i := 5) (v := ?v4) rfl (by kernel_rfl) (by kernel_rfl) (by kernel_rfl) (fun _ _ _ h => by first | exact h | exact absurd h.1 (fun e => by cases e)) (Or.inl ⟨by rfl, ?hy4⟩) (by assumption) ?rest4
        case hy4 =>
          intro w hSw
          have qh := hSw
          go_simp
          try with_reducible rfl
        go_simp
        refine wpAnyH_take (i := 6) (v := ?v5) rfl (by kernel_rfl) (by kernel_rfl) (by kernel_rfl) (fun _ _ _ h => by first | exact h | exact absurd h.1 (fun e => by cases e)) (Or.inl ⟨by rfl, ?hy5⟩) (by assumption) ?rest5
        case hy5 =>
          intro w hSw
          have qh := hSw
          go_simp
          try with_reducible rfl
        go_simp
        refine wpAnyH_ready (rs := [7]) (by kernel_rfl) (by simp) ?_
        refine AllReadyH.cons rfl (fun K hK => ?_) AllReadyH.nil
        go_simp
        have H3 := Lib.hid (Rc.start H2.out #[.int .i64 0, .int .i64 0, .int .i32 0, .int .i32 0, .int .i32 0, .int .i32 0])
        refine hK.out _ _ (H3.out.rg.name.cellAt 0) (fun hSn => ?_)
        clear hK K
        go_simp
        refine wpAnyH_ready (rs := [8]) (by kernel_rfl) (by simp) ?_
        refine AllReadyH.cons rfl (fun K hK => ?_) AllReadyH.nil
        obtain ⟨q0, q1, q2, q3, q4, q5, g0, g1, g2, g3, g4, g5⟩ := six H3.out.box
        go_simp
        have HE : Hid (Rc w0 _ r B A cap b i2 b2 s Ap Ac Az cp cc cz cells _ #[.int .i64 v1, .int .i64 v2, .int .i32 0, .int .i32 0, .int .i32 0, .int .i32 0]) := Lib.hid (Rc.start H2.out _)
        refine hK.out _ _ (HE.out.rg.name.cellAt 0) (fun hSn => ?_)
        clear hK K
        go_simp
        refine wpAnyH_done (by kernel_rfl) ?_ _
        exact ⟨rfl, _, _, _, _, _, _, _, _, rfl, HE.out⟩
      case sd =>
        go_simp
        have H2 := Lib.hid (Rc.start H1.out #[.int .i64 0, .int .i64 0, .int .i32 0, .int .i32 0, .int .i32 0, .int .i32 0])
        refine hK.out _ _ (H2.out.rg.name.cellAt 0) (fun hSn => ?_)
        clear hK K
        go_simp
        refine wpAnyH_ready (rs := [4]) (by kernel_rfl) (by simp) ?_
        refine AllReadyH.cons rfl (fun K hK => ?_) AllReadyH.nil
        go_simp
        refine (HN2 _ H2.out.rg.rd).mono ?_
        rintro e w2 ⟨rfl, h3, k3⟩
        have H3 := Lib.hid (H2.out.read h3 k3)
        clear h3 k3
        refine hK.out _ _ (H3.out.rg.name.cellAt 0) (fun hSn => ?_)
        clear hK K
        go_simp
        refine wpAnyH_take (i := 5) (v := ?v6) rfl (by kernel_rfl) (by kernel_rfl) (by kernel_rfl) (fun _ _ _ h => by first | exact h | exact absurd h.1 (fun e => by cases e)) (Or.inl ⟨by rfl, ?hy6⟩) (by assumption) ?rest6
        case hy6 =>
          intro w hSw
          have qh := hSw
          go_simp
          try with_reducible rfl
        go_simp
        refine wpAnyH_take (i := 6) (v := ?v7) rfl (by kernel_rfl) (by kernel_rfl) (by kernel_rfl) (fun _ _ _ h => by first | exact h | exact absurd h.1 (fun e => by cases e)) (Or.inl ⟨by rfl, ?hy7⟩) (by assumption) ?rest7
        case hy7 =>
          intro w hSw
          have qh := hSw
          go_simp
          try with_reducible rfl
        go_simp
        refine wpAnyH_ready (rs := [8]) (by kernel_rfl) (by simp) ?_
        refine AllReadyH.cons rfl (fun K hK => ?_) AllReadyH.nil
        obtain ⟨q0, q1, q2, q3, q4, q5, g0, g1, g2, g3, g4, g5⟩ := six H3.out.box
        go_simp
        have HE : Hid (Rc w0 _ r B A cap b i2 b2 s Ap Ac Az cp cc cz cells _ #[.int .i64 v1, .int .i64 v2, .int .i32 0, .int .i32 0, .int .i32 0, .int .i32 0]) := Lib.hid ((((((H3.out.put 0 (.int .i64 v1)).put 1 (.int .i64 v2)).put 2 (.int .i32 0)).put 3 (.int .i32 0)).put 4 (.int .i32 0)).put 5 (.int .i32 0))
        refine hK.out _ _ (HE.out.rg.name.cellAt 0) (fun hSn => ?_)
        clear hK K
        go_simp
        refine wpAnyH_done (by kernel_rfl) ?_ _
        exact ⟨rfl, _, _, _, _, _, _, _, _, rfl, HE.out⟩
    case sb =>
      go_simp
      have H1 : Hid (Rc w0 (w.drew.alloc (.cells #[.int .i64 0, .int .i64 0, .int .i32 0, .int .i32 0, .int .i32 0, .int .i32 0] 42)) r B A cap b i bad s Ap Ac Az cp cc cz cells w.heap.size #[.int .i64 0, .int .i64 0, .int .i32 0, .int .i32 0, .int .i32 0, .int .i32 0]) := Lib.hid (Rc.start HD.out #[.int .i64 0, .int .i64 0, .int .i32 0, .int .i32 0, .int .i32 0, .int .i32 0])
      refine hK.out _ _ (H1.out.rg.name.cellAt 0) (fun hSn => ?_)
      clear hK K
      go_simp
      refine wpAnyH_ready (rs := [1]) (by kernel_rfl) (by simp) ?_
      refine AllReadyH.cons rfl (fun K hK => ?_) AllReadyH.nil
      go_simp
      refine (HN1 _ H1.out.rg.rd).mono ?_
      rintro e w1 ⟨rfl, h3, k3⟩
      have H2 := Lib.hid (H1.out.read h3 k3)
      clear h3 k3
      refine hK.out _ _ (H2.out.rg.name.cellAt 0) (fun hSn => ?_)
      clear hK K
      go_simp
      refine wpAnyH_take (i := 2) (v := ?v8) rfl (by kernel_rfl) (by kernel_rfl) (by kernel_rfl) (fun _ _ _ h => by first | exact h | exact absurd h.1 (fun e => by cases e)) (Or.inl ⟨by rfl, ?hy8⟩) (by assumption) ?rest8
      case hy8 =>
        intro w hSw
        have qh := hSw
        go_simp
        try with_reducible rfl
      go_simp
      refine wpAnyH_ready (rs := [4]) (by kernel_rfl) (by simp) ?_
      refine AllReadyH.cons rfl (fun K hK => ?_) AllReadyH.nil
      go_simp
      refine (HN2 _ H2.out.rg.rd).mono ?_
      rintro e w2 ⟨rfl, h3, k3⟩
      have H3 := Lib.hid (H2.out.read h3 k3)
      clear h3 k3
      refine hK.out _ _ (H3.out.rg.name.cellAt 0) (fun hSn => ?_)
      clear hK K
      go_simp
      refine wpAnyH_take (i := 5) (v := ?v9) rfl (by kernel_rfl) (by kernel_rfl) (by kernel_rfl) (fun _ _ _ h => by first | exact h | exact absurd h.1 (fun e => by cases e)) (Or.inl ⟨by rfl, ?hy9⟩) (by assumption) ?rest9
      case hy9 =>
        intro w hSw
        have qh := hSw
        go_simp
        try with_reducible rfl
      go_simp
      refine wpAnyH_take (i := 6) (v := ?v10) rfl (by kernel_rfl) (by kernel_rfl) (by kernel_rfl) (fun _ _ _ h => by first | exact h | exact absurd h.1 (fun e => by cases e)) (Or.inl ⟨by rfl, ?hy10⟩) (by assumption) ?rest10
      case hy10 =>
        intro w hSw
        have qh := hSw
        go_simp
        try with_reducible rfl
      go_simp
      refine wpAnyH_ready (rs := [8]) (by kernel_rfl) (by simp) ?_
      refine AllReadyH.cons rfl (fun K hK => ?_) AllReadyH.nil
      obtain ⟨q0, q1, q2, q3, q4, q5, g0, g1, g2, g3, g4, g5⟩ := six H3.out.box
      go_simp
      have HE : Hid (Rc w0 _ r B A cap b i2 b2 s Ap Ac Az cp cc cz cells _ #[.int .i64 v1, .int .i64 v2, .int .i32 0, .int .i32 0, .int .i32 0, .int .i32 0]) := Lib.hid ((((((H3.out.put 0 (.int .i64 v1)).put 1 (.int .i64 v2)).put 2 (.int .i32 0)).put 3 (.int .i32 0)).put 4 (.int .i32 0)).put 5 (.int .i32 0))
      refine hK.out _ _ (HE.out.rg.name.cellAt 0) (fun hSn => ?_)
      clear hK K
      go_simp
      refine wpAnyH_done (by kernel_rfl) ?_ _
      exact ⟨rfl, _, _, _, _, _, _, _, _, rfl, HE.out⟩
  · rintro a' w2 ⟨cb, u3, u4, u5, u6, u7, u8, u9, rfl, h2⟩
    have H2 := Lib.hid h2
    clear h2 HD hnm
    have hnm : w2.cell? ⟨w0.heap.size, 0, none⟩ = some (.pointer (some ⟨r, 0, none⟩)) := H2.out.rg.name.cellAt 0
    have H2d := Lib.hid (H2.out.calm (Keeps.refl _ w2).drew)
    go_wp2_with fail
    go_simp
    refine regionCut (CardCut2 w0 r B A cap b i6 b6 s Ap Ac Az cp cc cz cells cb #[.int .i64 v1, .int .i64 v2, .int .i32 v3, .int .i32 v4, .int .i32 v5, .int .i32 v6]) ?_ ?_
    · skip
      refine wp_region_held_drew (S := fun W => W.cell? ⟨w0.heap.size, 0, none⟩ = some (.pointer (some ⟨r, 0, none⟩))) (by kernel_rfl) (hnm) ?_
      intro hSn
      refine wpAnyH_take (i := 0) (v := ?v11) rfl (by kernel_rfl) (by kernel_rfl) (by kernel_rfl) (fun _ _ _ h => by first | exact h | exact absurd h.1 (fun e => by cases e)) (Or.inl ⟨by rfl, ?hy11⟩) (by assumption) ?rest11
      case hy11 =>
        intro w hSw
        have qh := hSw
        go_simp
        try with_reducible rfl
      go_simp
      refine wpAnyH_take (i := 2) (v := ?v12) rfl (by kernel_rfl) (by kernel_rfl) (by kernel_rfl) (fun _ _ _ h => by first | exact h | exact absurd h.1 (fun e => by cases e)) (Or.inl ⟨by rfl, ?hy12⟩) (by assumption) ?rest12
      case hy12 =>
        intro w hSw
        have qh := hSw
        go_simp
        try with_reducible rfl
      go_simp
      refine wpAnyH_take (i := 4) (v := ?v13) rfl (by kernel_rfl) (by kernel_rfl) (by kernel_rfl) (fun _ _ _ h => by first | exact h | exact absurd h.1 (fun e => by cases e)) (Or.inl ⟨by rfl, ?hy13⟩) (by assumption) ?rest13
      case hy13 =>
        intro w hSw
        have qh := hSw
        go_simp
        try with_reducible rfl
      go_simp
      refine wpAnyH_take (i := 6) (v := ?v14) rfl (by kernel_rfl) (by kernel_rfl) (by kernel_rfl) (fun _ _ _ h => by first | exact h | exact absurd h.1 (fun e => by cases e)) (Or.inl ⟨by rfl, ?hy14⟩) (by assumption) ?rest14
      case hy14 =>
        intro w hSw
        have qh := hSw
        go_simp
        try with_reducible rfl
      go_simp
      refine wpAnyH_ready (rs := [1]) (by kernel_rfl) (by simp) ?_
      refine AllReadyH.cons rfl (fun K hK => ?_) AllReadyH.nil
      go_simp
      refine (HN3 _ H2d.out.rg.rd).mono ?_
      rintro e x3 ⟨rfl, h3, k3⟩
      have G3 := Lib.hid (H2d.out.read h3 k3)
      clear h3 k3
      refine hK.out _ _ (G3.out.rg.name.cellAt 0) (fun hSn => ?_)
      clear hK K
      go_simp
      refine wpAnyH_take (i := 8) (v := ?v15) rfl (by kernel_rfl) (by kernel_rfl) (by kernel_rfl) (fun _ _ _ h => by first | exact h | exact absurd h.1 (fun e => by cases e)) (Or.inl ⟨by rfl, ?hy15⟩) (by assumption) ?rest15
      case hy15 =>
        intro w hSw
        have qh := hSw
        go_simp
        try with_reducible rfl
      go_simp
      refine wpAnyH_ready (rs := [3]) (by kernel_rfl) (by simp) ?_
      refine AllReadyH.cons rfl (fun K hK => ?_) AllReadyH.nil
      go_simp
      refine (HN4 _ G3.out.rg.rd).mono ?_
      rintro e x4 ⟨rfl, h3, k3⟩
      have G4 := Lib.hid (G3.out.read h3 k3)
      clear h3 k3
      refine hK.out _ _ (G4.out.rg.name.cellAt 0) (fun hSn => ?_)
      clear hK K
      go_simp
      refine wpAnyH_ready (rs := [5]) (by kernel_rfl) (by simp) ?_
      refine AllReadyH.cons rfl (fun K hK => ?_) AllReadyH.nil
      go_simp
      refine (HN5 _ G4.out.rg.rd).mono ?_
      rintro e x5 ⟨rfl, h3, k3⟩
      have G5 := Lib.hid (G4.out.read h3 k3)
      clear h3 k3
      refine hK.out _ _ (G5.out.rg.name.cellAt 0) (fun hSn => ?_)
      clear hK K
      go_simp
      refine wpAnyH_ready (rs := [7]) (by kernel_rfl) (by simp) ?_
      refine AllReadyH.cons rfl (fun K hK => ?_) AllReadyH.nil
      go_simp
      refine (HN6 _ G5.out.rg.rd).mono ?_
      rintro e x6 ⟨rfl, h3, k3⟩
      have G6 := Lib.hid (G5.out.read h3 k3)
      clear h3 k3
      refine hK.out _ _ (G6.out.rg.name.cellAt 0) (fun hSn => ?_)
      clear hK K
      go_simp
      refine wpAnyH_ready (rs := [9]) (by kernel_rfl) (by simp) ?_
      refine AllReadyH.cons rfl (fun K hK => ?_) AllReadyH.nil
      obtain ⟨q0, q1, q2, q3, q4, q5, g0, g1, g2, g3, g4, g5⟩ := six G6.out.box
      clear q0 q1 g0 g1
      go_simp
      have P3 : Hid (Rc w0 _ r B A cap b i6 b6 s Ap Ac Az cp cc cz cells cb #[.int .i64 v1, .int .i64 v2, .int .i32 v3, .int .i32 0, .int .i32 0, .int .i32 0]) := Lib.hid (G6.out.put 2 (.int .i32 v3))
      refine hK.out _ _ (P3.out.rg.name.cellAt 0) (fun hSn => ?_)
      clear hK K
      go_simp
      refine wpAnyH_take (i := 10) (v := ?v16) rfl (by kernel_rfl) (by kernel_rfl) (by kernel_rfl) (fun _ _ _ h => by first | exact h | exact absurd h.1 (fun e => by cases e)) (Or.inl ⟨by rfl, ?hy16⟩) (by assumption) ?rest16
      case hy16 =>
        intro w hSw
        have qh := hSw
        go_simp
        try with_reducible rfl
      go_simp
      refine wpAnyH_ready (rs := [11]) (by kernel_rfl) (by simp) ?_
      refine AllReadyH.cons rfl (fun K hK => ?_) AllReadyH.nil
      obtain ⟨q0, q1, q2, q3, q4, q5, g0, g1, g2, g3, g4, g5⟩ := six P3.out.box
      clear q0 q1 g0 g1
      go_simp
      have P4 : Hid (Rc w0 _ r B A cap b i6 b6 s Ap Ac Az cp cc cz cells cb #[.int .i64 v1, .int .i64 v2, .int .i32 v3, .int .i32 v4, .int .i32 0, .int .i32 0]) := Lib.hid (P3.out.put 3 (.int .i32 v4))
      refine hK.out _ _ (P4.out.rg.name.cellAt 0) (fun hSn => ?_)
      clear hK K
      go_simp
      refine wpAnyH_take (i := 12) (v := ?v17) rfl (by kernel_rfl) (by kernel_rfl) (by kernel_rfl) (fun _ _ _ h => by first | exact h | exact absurd h.1 (fun e => by cases e)) (Or.inl ⟨by rfl, ?hy17⟩) (by assumption) ?rest17
      case hy17 =>
        intro w hSw
        have qh := hSw
        go_simp
        try with_reducible rfl
      go_simp
      refine wpAnyH_ready (rs := [13]) (by kernel_rfl) (by simp) ?_
      refine AllReadyH.cons rfl (fun K hK => ?_) AllReadyH.nil
      obtain ⟨q0, q1, q2, q3, q4, q5, g0, g1, g2, g3, g4, g5⟩ := six P4.out.box
      clear q0 q1 g0 g1
      go_simp
      have P5 : Hid (Rc w0 _ r B A cap b i6 b6 s Ap Ac Az cp cc cz cells cb #[.int .i64 v1, .int .i64 v2, .int .i32 v3, .int .i32 v4, .int .i32 v5, .int .i32 0]) := Lib.hid (P4.out.put 4 (.int .i32 v5))
      refine hK.out _ _ (P5.out.rg.name.cellAt 0) (fun hSn => ?_)
      clear hK K
      go_simp
      refine wpAnyH_take (i := 14) (v := ?v18) rfl (by kernel_rfl) (by kernel_rfl) (by kernel_rfl) (fun _ _ _ h => by first | exact h | exact absurd h.1 (fun e => by cases e)) (Or.inl ⟨by rfl, ?hy18⟩) (by assumption) ?rest18
      case hy18 =>
        intro w hSw
        have qh := hSw
        go_simp
        try with_reducible rfl
      go_simp
      refine wpAnyH_ready (rs := [15]) (by kernel_rfl) (by simp) ?_
      refine AllReadyH.cons rfl (fun K hK => ?_) AllReadyH.nil
      obtain ⟨q0, q1, q2, q3, q4, q5, g0, g1, g2, g3, g4, g5⟩ := six P5.out.box
      clear q0 q1 g0 g1
      go_simp
      have P6 : Hid (Rc w0 _ r B A cap b i6 b6 s Ap Ac Az cp cc cz cells cb #[.int .i64 v1, .int .i64 v2, .int .i32 v3, .int .i32 v4, .int .i32 v5, .int .i32 v6]) := Lib.hid (P5.out.put 5 (.int .i32 v6))
      refine hK.out _ _ (P6.out.rg.name.cellAt 0) (fun hSn => ?_)
      clear hK K
      go_simp
      refine wpAnyH_done (by kernel_rfl) ?_ _
      refine ⟨rfl, ?_, ?_⟩
      · exact ⟨.pointer (some ⟨r, 0, none⟩), .int .i32 v3, .pointer (some ⟨r, 0, none⟩), .int .i32 v4, .pointer (some ⟨r, 0, none⟩), .int .i32 v5, .pointer (some ⟨r, 0, none⟩), .int .i32 v6, .pointer (some ⟨cb, 2, none⟩), .pointer (some ⟨cb, 3, none⟩), .pointer (some ⟨cb, 4, none⟩), .pointer (some ⟨cb, 5, none⟩), by go_simp⟩
      · exact P6.out
    · rintro a' w3 ⟨⟨u10, u11, u12, u13, u14, u15, u16, u17, u18, u19, u20, u21, rfl⟩, h3⟩
      have H3 := Lib.hid h3
      clear h3 H2 H2d hnm HN1 HN2 HN3 HN4 HN5 HN6 hw1 hw2
      have c0 : w3.cell? ⟨w0.heap.size + 2, 1, none⟩ = some (.slice Ac s.cards.length cc) := H3.out.rg.box.cellAt 1
      obtain ⟨q0, q1, q2, q3, q4, q5, g0, g1, g2, g3, g4, g5⟩ := six H3.out.box
      have HA := Lib.hid (H3.out.calm ((Keeps.refl _ w3).alloc (.cells #[.int .i64 v1, .int .i64 v2, .int .i32 v3, .int .i32 v4, .int .i32 v5, .int .i32 v6] 42)))
      go_wp2_with (first
        | (at_builtin
           refine wpList_append_cells _ rfl _ _ 23 rfl w0.heap.size 42 (.agg #[.int .i64 0, .int .i64 0, .int .i32 0, .int .i32 0, .int .i32 0, .int .i32 0]) 6 32 Tryz.underlying23 info_cd rfl (by decide) (.slice Ac s.cards.length cc) s.cards.length (flat Cd.cells s.cards) rfl HA.out.rg.lists.cards (w3.heap.size + 1) (some ⟨w3.heap.size, 0, none⟩) 1 1 (Cd.cells ⟨v1, v2, v3, v4, v5, v6⟩) rfl (Lies.row (t := 42) (fr := (0, 0)) (heap_alloc_new _ _) (Nat.lt_succ_self _)) rfl (fun u hu => by simp [Cd.cells] at hu; rcases hu with rfl | rfl | rfl | rfl | rfl | rfl <;> rfl) (by simp only [maxLen]; omega) (by omega) (by have := HA.out.rg.keeps.size; omega) ?_
           intro A2 c2 w5 own5 hg5 _ _ _
           obtain ⟨h6, f6, u6', c6⟩ := H3.out.rg.pushC own5 hg5
           have H6 := Lib.hid h6
           clear own5 hg5 h6))
      go_end0
      obtain ⟨f, hf, hfe, e1, e2⟩ := HP.out
      subst hfe
      refine ⟨rfl, _, A2, c2, hf, ?_⟩
      rw [e1, e2]
      exact H6.out
end Go.Proofs.YthmfbcfbcookiaaGreatDoor
