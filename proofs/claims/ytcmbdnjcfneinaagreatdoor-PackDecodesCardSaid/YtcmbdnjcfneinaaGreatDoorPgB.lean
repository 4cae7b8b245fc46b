/-
  Packs are laid into a bag: the walks. Conditions: fewer than 400 effects of a kind, than 400 kinds of a pack.
-/
import Derived.Test.YtcmbdnjcfneinaaGreatDoorPgA
import Derived.Test.YtcmbdnjcfneinaaGreatDoorRdMd
namespace Go.Proofs.YtcmbdnjcfneinaaGreatDoor
open Go.RowKit
theorem info_pg0 : (Tryz.prog.info? 32).map (fun i => (i.zero, i.size, i.bytes)) = some (some (.slice none 0 0), 1, 24) := by kernel_rfl
set_option maxRecDepth 100000 in
set_option maxHeartbeats 1000000 in
theorem okAddBytes : AddOk 15 0 := fun p base n ln lc cap A LA cs xs w hW hcs hO hp hb hn => by
  replace hO : w.ownsRow base 32 1 (.slice A n cap) n xs := hO
  show Calls Tryz.prog _ _ w fun e w' => e = .returned (.tuple #[]) ∧ ∃ A' cap', Whole w' p 67 (cs.setIfInBounds 0 (.slice A' (n + 1) cap')) ∧ w'.ownsRow base 32 1 (.slice A' (n + 1) cap') (n + 1) (xs ++ [.slice LA ln lc]) ∧ Keeps (fun b => b = p ∨ (Value.slice A n cap).ownBlock = some b) w w'
  have c0 := (hW.cellAt 0).trans hcs
  have hj : 0 < cs.size := (Array.getElem?_eq_some_iff.1 hcs).1
  have HW := Lib.hid hW; have HO := Lib.hid hO
  have hin := hW.inside
  clear hW hcs hO
  go_enter Tryz.func15, Tryz.ntmps15
  go_wp2_with (at_builtin; (refine wpList_append_cells _ rfl (.tmp 14) (.tmp 16) 45 rfl base 32 (.slice none 0 0) 1 24 Tryz.underlying45 info_pg0 rfl (by decide) _ n _ rfl (HO.out.alloc _) (w.heap.size + 1) (some ⟨w.heap.size, 0, none⟩) 1 1 [.slice LA ln lc] rfl (Lies.row (t := 32) (fr := (0, 0)) (heap_alloc_new w _) (by simp)) rfl (by simp [Value.oneCell']) (by unfold maxLen; omega) (by omega) (by simp; omega) ?_); intro A' cap' w1 h1 h2 _ _ _; obtain ⟨hA, hB, hC, hD, x, hE⟩ := bag_next HW.out HO.out hp hj h1 h2; have HA := Lib.hid hA; have HB := Lib.hid hB; have HC := Lib.hid hC; clear hA hB hC h1 h2 c0)
  go_end0
  exact ⟨rfl, A', cap', HA.out, HB.out, HC.out⟩
set_option maxRecDepth 100000 in
theorem fullAddBytes : AddFull 15 0 := fun p n cap A v cs w hW hcs hn => by
  have c0 := (hW.cellAt 0).trans hcs
  clear hW hcs
  go_enter Tryz.func15, Tryz.ntmps15
  go_wp2_with fail
  go_end0
  exact ⟨rfl, rfl⟩
theorem info_pg1 : (Tryz.prog.info? 37).map (fun i => (i.zero, i.size, i.bytes)) = some (some (.slice none 0 0), 1, 24) := by kernel_rfl
set_option maxRecDepth 100000 in
set_option maxHeartbeats 1000000 in
theorem okAddInts : AddOk 150 1 := fun p base n ln lc cap A LA cs xs w hW hcs hO hp hb hn => by
  replace hO : w.ownsRow base 37 1 (.slice A n cap) n xs := hO
  show Calls Tryz.prog _ _ w fun e w' => e = .returned (.tuple #[]) ∧ ∃ A' cap', Whole w' p 67 (cs.setIfInBounds 1 (.slice A' (n + 1) cap')) ∧ w'.ownsRow base 37 1 (.slice A' (n + 1) cap') (n + 1) (xs ++ [.slice LA ln lc]) ∧ Keeps (fun b => b = p ∨ (Value.slice A n cap).ownBlock = some b) w w'
  have c0 := (hW.cellAt 1).trans hcs
  have hj : 1 < cs.size := (Array.getElem?_eq_some_iff.1 hcs).1
  have HW := Lib.hid hW; have HO := Lib.hid hO
  have hin := hW.inside
  clear hW hcs hO
  go_enter Tryz.func150, Tryz.ntmps150
  go_wp2_with (at_builtin; (refine wpList_append_cells _ rfl (.tmp 14) (.tmp 16) 46 rfl base 37 (.slice none 0 0) 1 24 Tryz.underlying46 info_pg1 rfl (by decide) _ n _ rfl (HO.out.alloc _) (w.heap.size + 1) (some ⟨w.heap.size, 0, none⟩) 1 1 [.slice LA ln lc] rfl (Lies.row (t := 37) (fr := (0, 0)) (heap_alloc_new w _) (by simp)) rfl (by simp [Value.oneCell']) (by unfold maxLen; omega) (by omega) (by simp; omega) ?_); intro A' cap' w1 h1 h2 _ _ _; obtain ⟨hA, hB, hC, hD, x, hE⟩ := bag_next HW.out HO.out hp hj h1 h2; have HA := Lib.hid hA; have HB := Lib.hid hB; have HC := Lib.hid hC; clear hA hB hC h1 h2 c0)
  go_end0
  exact ⟨rfl, A', cap', HA.out, HB.out, HC.out⟩
set_option maxRecDepth 100000 in
theorem fullAddInts : AddFull 150 1 := fun p n cap A v cs w hW hcs hn => by
  have c0 := (hW.cellAt 1).trans hcs
  clear hW hcs
  go_enter Tryz.func150, Tryz.ntmps150
  go_wp2_with fail
  go_end0
  exact ⟨rfl, rfl⟩
theorem info_pg2 : (Tryz.prog.info? 22).map (fun i => (i.zero, i.size, i.bytes)) = some (some (.slice none 0 0), 1, 24) := by kernel_rfl
set_option maxRecDepth 100000 in
set_option maxHeartbeats 1000000 in
theorem okAddLongs : AddOk 82 2 := fun p base n ln lc cap A LA cs xs w hW hcs hO hp hb hn => by
  replace hO : w.ownsRow base 22 1 (.slice A n cap) n xs := hO
  show Calls Tryz.prog _ _ w fun e w' => e = .returned (.tuple #[]) ∧ ∃ A' cap', Whole w' p 67 (cs.setIfInBounds 2 (.slice A' (n + 1) cap')) ∧ w'.ownsRow base 22 1 (.slice A' (n + 1) cap') (n + 1) (xs ++ [.slice LA ln lc]) ∧ Keeps (fun b => b = p ∨ (Value.slice A n cap).ownBlock = some b) w w'
  have c0 := (hW.cellAt 2).trans hcs
  have hj : 2 < cs.size := (Array.getElem?_eq_some_iff.1 hcs).1
  have HW := Lib.hid hW; have HO := Lib.hid hO
  have hin := hW.inside
  clear hW hcs hO
  go_enter Tryz.func82, Tryz.ntmps82
  go_wp2_with (at_builtin; (refine wpList_append_cells _ rfl (.tmp 14) (.tmp 16) 47 rfl base 22 (.slice none 0 0) 1 24 Tryz.underlying47 info_pg2 rfl (by decide) _ n _ rfl (HO.out.alloc _) (w.heap.size + 1) (some ⟨w.heap.size, 0, none⟩) 1 1 [.slice LA ln lc] rfl (Lies.row (t := 22) (fr := (0, 0)) (heap_alloc_new w _) (by simp)) rfl (by simp [Value.oneCell']) (by unfold maxLen; omega) (by omega) (by simp; omega) ?_); intro A' cap' w1 h1 h2 _ _ _; obtain ⟨hA, hB, hC, hD, x, hE⟩ := bag_next HW.out HO.out hp hj h1 h2; have HA := Lib.hid hA; have HB := Lib.hid hB; have HC := Lib.hid hC; clear hA hB hC h1 h2 c0)
  go_end0
  exact ⟨rfl, A', cap', HA.out, HB.out, HC.out⟩
set_option maxRecDepth 100000 in
theorem fullAddLongs : AddFull 82 2 := fun p n cap A v cs w hW hcs hn => by
  have c0 := (hW.cellAt 2).trans hcs
  clear hW hcs
  go_enter Tryz.func82, Tryz.ntmps82
  go_wp2_with fail
  go_end0
  exact ⟨rfl, rfl⟩
theorem info_pg5 : (Tryz.prog.info? 41).map (fun i => (i.zero, i.size, i.bytes)) = some (some (.slice none 0 0), 1, 24) := by kernel_rfl
set_option maxRecDepth 100000 in
set_option maxHeartbeats 1000000 in
theorem okAddSmalls : AddOk 165 5 := fun p base n ln lc cap A LA cs xs w hW hcs hO hp hb hn => by
  replace hO : w.ownsRow base 41 1 (.slice A n cap) n xs := hO
  show Calls Tryz.prog _ _ w fun e w' => e = .returned (.tuple #[]) ∧ ∃ A' cap', Whole w' p 67 (cs.setIfInBounds 5 (.slice A' (n + 1) cap')) ∧ w'.ownsRow base 41 1 (.slice A' (n + 1) cap') (n + 1) (xs ++ [.slice LA ln lc]) ∧ Keeps (fun b => b = p ∨ (Value.slice A n cap).ownBlock = some b) w w'
  have c0 := (hW.cellAt 5).trans hcs
  have hj : 5 < cs.size := (Array.getElem?_eq_some_iff.1 hcs).1
  have HW := Lib.hid hW; have HO := Lib.hid hO
  have hin := hW.inside
  clear hW hcs hO
  go_enter Tryz.func165, Tryz.ntmps165
  go_wp2_with (at_builtin; (refine wpList_append_cells _ rfl (.tmp 14) (.tmp 16) 50 rfl base 41 (.slice none 0 0) 1 24 Tryz.underlying50 info_pg5 rfl (by decide) _ n _ rfl (HO.out.alloc _) (w.heap.size + 1) (some ⟨w.heap.size, 0, none⟩) 1 1 [.slice LA ln lc] rfl (Lies.row (t := 41) (fr := (0, 0)) (heap_alloc_new w _) (by simp)) rfl (by simp [Value.oneCell']) (by unfold maxLen; omega) (by omega) (by simp; omega) ?_); intro A' cap' w1 h1 h2 _ _ _; obtain ⟨hA, hB, hC, hD, x, hE⟩ := bag_next HW.out HO.out hp hj h1 h2; have HA := Lib.hid hA; have HB := Lib.hid hB; have HC := Lib.hid hC; clear hA hB hC h1 h2 c0)
  go_end0
  exact ⟨rfl, A', cap', HA.out, HB.out, HC.out⟩
set_option maxRecDepth 100000 in
theorem fullAddSmalls : AddFull 165 5 := fun p n cap A v cs w hW hcs hn => by
  have c0 := (hW.cellAt 5).trans hcs
  clear hW hcs
  go_enter Tryz.func165, Tryz.ntmps165
  go_wp2_with fail
  go_end0
  exact ⟨rfl, rfl⟩
theorem info_pg6 : (Tryz.prog.info? 23).map (fun i => (i.zero, i.size, i.bytes)) = some (some (.slice none 0 0), 1, 24) := by kernel_rfl
set_option maxRecDepth 100000 in
set_option maxHeartbeats 1000000 in
theorem okAddTexts : AddOk 83 6 := fun p base n ln lc cap A LA cs xs w hW hcs hO hp hb hn => by
  replace hO : w.ownsRow base 23 1 (.slice A n cap) n xs := hO
  show Calls Tryz.prog _ _ w fun e w' => e = .returned (.tuple #[]) ∧ ∃ A' cap', Whole w' p 67 (cs.setIfInBounds 6 (.slice A' (n + 1) cap')) ∧ w'.ownsRow base 23 1 (.slice A' (n + 1) cap') (n + 1) (xs ++ [.slice LA ln lc]) ∧ Keeps (fun b => b = p ∨ (Value.slice A n cap).ownBlock = some b) w w'
  have c0 := (hW.cellAt 6).trans hcs
  have hj : 6 < cs.size := (Array.getElem?_eq_some_iff.1 hcs).1
  have HW := Lib.hid hW; have HO := Lib.hid hO
  have hin := hW.inside
  clear hW hcs hO
  go_enter Tryz.func83, Tryz.ntmps83
  go_wp2_with (at_builtin; (refine wpList_append_cells _ rfl (.tmp 14) (.tmp 16) 51 rfl base 23 (.slice none 0 0) 1 24 Tryz.underlying51 info_pg6 rfl (by decide) _ n _ rfl (HO.out.alloc _) (w.heap.size + 1) (some ⟨w.heap.size, 0, none⟩) 1 1 [.slice LA ln lc] rfl (Lies.row (t := 23) (fr := (0, 0)) (heap_alloc_new w _) (by simp)) rfl (by simp [Value.oneCell']) (by unfold maxLen; omega) (by omega) (by simp; omega) ?_); intro A' cap' w1 h1 h2 _ _ _; obtain ⟨hA, hB, hC, hD, x, hE⟩ := bag_next HW.out HO.out hp hj h1 h2; have HA := Lib.hid hA; have HB := Lib.hid hB; have HC := Lib.hid hC; clear hA hB hC h1 h2 c0)
  go_end0
  exact ⟨rfl, A', cap', HA.out, HB.out, HC.out⟩
set_option maxRecDepth 100000 in
theorem fullAddTexts : AddFull 83 6 := fun p n cap A v cs w hW hcs hn => by
  have c0 := (hW.cellAt 6).trans hcs
  clear hW hcs
  go_enter Tryz.func83, Tryz.ntmps83
  go_wp2_with fail
  go_end0
  exact ⟨rfl, rfl⟩
/-! ### The lists of an effect, of a kind, of a pack -/
def PE.sl (x : PE) : Sl := ⟨x.As, x.e.slots.length, x.cs⟩
def PE.co (x : PE) : Sl := ⟨x.Ac, x.e.code.length, x.cc⟩
def peL (x : PE) : Nat → List Sl := app (one 5 x.sl) (one 0 x.co)
def esL (es : List PE) : Nat → List Sl := fun j => es.flatMap fun x => peL x j
def PK.tg (k : PK) : Sl := ⟨k.At, k.tags.length, k.ct⟩
def PK.ef (k : PK) : Sl := ⟨k.Ae, k.es.length, k.ce⟩
def pkL (k : PK) : Nat → List Sl := app (one 1 k.tg) (app (one 18 k.ef) (esL k.es))
def ksL (ks : List PK) : Nat → List Sl := fun j => ks.flatMap fun x => pkL x j
def PPk.is (x : PPk) : Sl := ⟨x.Ai, x.ints.length, x.ci⟩
def PPk.ts (x : PPk) : Sl := ⟨x.At, x.texts.length, x.ct⟩
def PPk.kk (x : PPk) : Sl := ⟨x.Ak, x.ks.length, x.ck⟩
def ppL (x : PPk) : Nat → List Sl := app (one 2 x.is) (app (one 6 x.ts) (app (one 19 x.kk) (ksL x.ks)))
theorem esL_drop (es : List PE) (i : Nat) (h : i < es.length) : esL (es.drop i) = app (peL es[i]) (esL (es.drop (i + 1))) := by
  funext j
  unfold esL app
  rw [List.drop_eq_getElem_cons h, List.flatMap_cons]
theorem ksL_drop (es : List PK) (i : Nat) (h : i < es.length) : ksL (es.drop i) = app (pkL es[i]) (ksL (es.drop (i + 1))) := by
  funext j
  unfold ksL app
  rw [List.drop_eq_getElem_cons h, List.flatMap_cons]
theorem esL_end (es : List PE) (T : Nat → List Sl) : app (esL (es.drop es.length)) T = T := by
  rw [List.drop_length]; rfl
theorem ksL_end (es : List PK) (T : Nat → List Sl) : app (ksL (es.drop es.length)) T = T := by
  rw [List.drop_length]; rfl
section
variable {P T : Nat → List Sl} {w w' : World} {p : Nat}
set_option maxRecDepth 100000 in
set_option maxHeartbeats 2000000 in
theorem addEffect_T (x : PE) (h : BagT w p P (app (peL x) T)) :
    Calls Tryz.prog 159 #[.pointer (some ⟨p, 0, none⟩), .agg x.vals] w fun e w' => e = .returned (.tuple #[]) ∧ BagT w' p P T ∧ Keeps (BagG p w) w w' := by
  unfold peL at h
  rw [app_app] at h
  obtain ⟨w0, hw0⟩ : ∃ z, z = w.alloc (.cells #[.int .i64 x.e.on, .slice x.As x.e.slots.length x.cs, .slice x.Ac x.e.code.length x.cc, .int .i64 x.e.bound] 43) := ⟨_, rfl⟩
  have K0 : Hid (Keeps (fun _ => False) w w0) := Lib.hid (by rw [hw0]; exact (Keeps.refl _ _).alloc _)
  have WB0 : Hid (Whole w0 w.heap.size 43 #[.int .i64 x.e.on, .slice x.As x.e.slots.length x.cs, .slice x.Ac x.e.code.length x.cc, .int .i64 x.e.bound]) := Lib.hid (by rw [hw0]; exact Whole.made _ _ _)
  have H0 := Lib.hid (h.calm K0.out)
  have hpw := h.lt
  have hpw0 : p < w0.heap.size := Nat.lt_of_lt_of_le hpw K0.out.size
  have KG0 : Hid (Keeps (BagG p w0) w0 w0) := Lib.hid (Keeps.refl _ _)
  clear h 
  unfold PE.vals
  go_enter Tryz.func159, Tryz.ntmps159
  go_wp2_with fail
  rw [← hw0]
  clear hw0
  refine (addT (j := 5) (by decide) okAddSmalls fullAddSmalls x.sl H0.out).mono ?_
  rintro e w1 ⟨rfl, hb, hk⟩
  have H1 := Lib.hid hb
  have KG1 : Hid (Keeps (BagG p w0) w0 w1) := Lib.hid (BagG.and KG0.out hk)
  have WB1 := Lib.hid (BagG.box hk WB0.out (by decide) (by decide))
  have b1 : w1.cell? ⟨w.heap.size, 2, none⟩ = some (.slice x.Ac x.e.code.length x.cc) := WB1.out.cellAt 2
  clear hb hk H0 KG0
  go_wp2_with fail
  refine (addT (j := 0) (by decide) okAddBytes fullAddBytes x.co H1.out).mono ?_
  rintro e w2 ⟨rfl, hb, hk⟩
  have H2 := Lib.hid hb
  have KG2 : Hid (Keeps (BagG p w0) w0 w2) := Lib.hid (BagG.and KG1.out hk)
  clear hb hk H1 KG1 b1
  go_wp2_with fail
  go_end0
  exact ⟨rfl, H2.out, BagG.first K0.out KG2.out⟩
theorem info_pg18 : (Tryz.prog.info? 38).map (fun i => (i.zero, i.size, i.bytes)) = some (some (.slice none 0 0), 1, 24) := by kernel_rfl
set_option maxRecDepth 100000 in
set_option maxHeartbeats 4000000 in
theorem addEffects_T (es : List PE) (A0 : Option Addr) (c0' : Nat) (hes : es.length < 400) (hL : Lies w p A0 (effVals es)) (h : BagT w p P (app (one 18 ⟨A0, es.length, c0'⟩) (app (esL es) T))) :
    Calls Tryz.prog 151 #[.pointer (some ⟨p, 0, none⟩), .slice A0 es.length c0'] w fun e w' => e = .returned (.tuple #[]) ∧ BagT w' p P T ∧ Keeps (BagG p w) w w' := by
  obtain ⟨R, A, c, D, hB, hD, hP, hR⟩ := h.see
  have hpw := h.lt
  have HLI := Lib.hid hL
  have hj : 18 < (bagV R A c).size := (Array.getElem?_eq_some_iff.1 (bagV_at (R := R) (A := A) (c := c) (by decide))).1
  have c0 := (hB.hW.cellAt 18).trans (bagV_at (by decide))
  have HW := Lib.hid hB.hW
  have HO : Hid (w.ownsRow (p + 1) 38 1 (.slice (A 18) (R 18).length (c 18)) (R 18).length (vals (R 18))) := Lib.hid (hB.k 18 (by decide)).hO
  by_cases hl : D.length < 400
  · have hRl : (R 18).length < 400 := by rw [hR, List.length_take]; omega
    have HN : Hid (∀ w' A' c', Whole w' p 67 ((bagV R A c).setIfInBounds 18 (.slice A' ((R 18).length + 1) c')) → w'.ownsRow (p + 1) 38 1 (.slice A' ((R 18).length + 1) c') ((R 18).length + 1) (vals (R 18) ++ [.slice A0 es.length c0']) → Keeps (fun b => b = p ∨ (Value.slice (A 18) (R 18).length (c 18)).ownBlock = some b) w w' → BagT w' p P (app (esL es) T) ∧ Keeps (BagG p w) w w') := Lib.hid (fun w' A' c' h1 h2 h3 => ⟨hB.next (by decide) hD hP hR hl h1 h2 h3, BagG.of (j := 18) (by decide) h3 hB.hW HO.out (Nat.le_succ _)⟩)
    clear h hB hD hP hR hL
    generalize bagV R A c = cs at *
    generalize (R 18).length = n at *
    generalize vals (R 18) = xs at *
    generalize A 18 = Aj at *
    generalize c 18 = cj at *
    go_enter Tryz.func151, Tryz.ntmps151
    go_wp2_with (at_builtin; (refine wpList_append_cells _ rfl (.tmp 15) (.tmp 17) 63 rfl (p + 1) 38 (.slice none 0 0) 1 24 Tryz.underlying63 info_pg18 rfl (by decide) _ n _ rfl (HO.out.alloc _) (w.heap.size + 1) (some ⟨w.heap.size, 0, none⟩) 1 1 [.slice A0 es.length c0'] rfl (Lies.row (t := 38) (fr := (0, 0)) (heap_alloc_new w _) (by simp)) rfl (by simp [Value.oneCell']) (by unfold maxLen; omega) (by omega) (by simp; omega) ?_); intro A' cap' w1 h1 h2 _ _ _; obtain ⟨hA, hB, hC, hD, x, hE⟩ := bag_next HW.out HO.out (Nat.lt_succ_self _) hj h1 h2; obtain ⟨hA2, hB2⟩ := HN.out _ _ _ hA hB hC; have HT := Lib.hid hA2; have HG := Lib.hid hB2; clear hA hB hC h1 h2 c0 hA2 hB2 HN HW HO)
    clear hD hE hj
    generalize w1.setCell _ _ = w2 at *
    go_loopw [4] (fun v wr => ∃ i : Nat, i ≤ es.length ∧ v = .int .i64 i ∧ Hid (BagT wr p P (app (esL (es.drop i)) T)) ∧ Hid (Keeps (BagG p w) w wr)) (fun v _ => es.length - (intOf v).toNat)
    case atStart => exact ⟨0, Nat.zero_le _, rfl, HT, HG⟩
    case round =>
      clear HT HG
      obtain ⟨i, hi, rfl, HB, HK⟩ := hrel
      have h4I : (i : Int) < 400 := by omega
      have d4 : decide ((i : Int) < 400) = true := decide_eq_true h4I
      by_cases hil : i < es.length
      · have HAD := Lib.hid (addEffect_T es[i] (T := app (esL (es.drop (i + 1))) T) (w := wr) (p := p) (P := P) (by rw [← app_app, ← esL_drop es i hil]; exact HB.out))
        obtain ⟨g0, off0, hA, hg0, hc0⟩ := HLI.out (i * 4 + 0) _ ((flat_at 4 (fun x : PE => x.vals.toList) (fun _ => rfl) es i es[i] (List.getElem?_eq_getElem hil) 0 (by decide)).trans rfl)
        obtain rfl := hA
        have q0 : wr.cell? ⟨g0, off0 + i * 4, none⟩ = some _ := (Nat.add_assoc off0 (i * 4) 0) ▸ (HK.out.cell (by omega) (fun e => by have := e.1; omega)).trans hc0
        clear hc0
        obtain ⟨g1, off1, hA, hg1, hc1⟩ := HLI.out (i * 4 + 1) _ ((flat_at 4 (fun x : PE => x.vals.toList) (fun _ => rfl) es i es[i] (List.getElem?_eq_getElem hil) 1 (by decide)).trans rfl)
        obtain ⟨rfl, rfl⟩ : g0 = g1 ∧ off0 = off1 := by injection hA with hA; injection hA with h1 h2 _; exact ⟨h1, h2⟩
        have q1 : wr.cell? ⟨g0, off0 + i * 4 + 1, none⟩ = some _ := (Nat.add_assoc off0 (i * 4) 1) ▸ (HK.out.cell (by omega) (fun e => by have := e.1; omega)).trans hc1
        clear hc1 hA
        obtain ⟨g2, off2, hA, hg2, hc2⟩ := HLI.out (i * 4 + 2) _ ((flat_at 4 (fun x : PE => x.vals.toList) (fun _ => rfl) es i es[i] (List.getElem?_eq_getElem hil) 2 (by decide)).trans rfl)
        obtain ⟨rfl, rfl⟩ : g0 = g2 ∧ off0 = off2 := by injection hA with hA; injection hA with h1 h2 _; exact ⟨h1, h2⟩
        have q2 : wr.cell? ⟨g0, off0 + i * 4 + 2, none⟩ = some _ := (Nat.add_assoc off0 (i * 4) 2) ▸ (HK.out.cell (by omega) (fun e => by have := e.1; omega)).trans hc2
        clear hc2 hA
        obtain ⟨g3, off3, hA, hg3, hc3⟩ := HLI.out (i * 4 + 3) _ ((flat_at 4 (fun x : PE => x.vals.toList) (fun _ => rfl) es i es[i] (List.getElem?_eq_getElem hil) 3 (by decide)).trans rfl)
        obtain ⟨rfl, rfl⟩ : g0 = g3 ∧ off0 = off3 := by injection hA with hA; injection hA with h1 h2 _; exact ⟨h1, h2⟩
        have q3 : wr.cell? ⟨g0, off0 + i * 4 + 3, none⟩ = some _ := (Nat.add_assoc off0 (i * 4) 3) ▸ (HK.out.cell (by omega) (fun e => by have := e.1; omega)).trans hc3
        clear hc3 hA
        generalize es[i] = x at *
        unfold PE.vals at HAD
        go_wp2_with fail
        refine HAD.out.mono ?_
        rintro e w3 ⟨rfl, hb, hk⟩
        have HB2 := Lib.hid hb
        have HK2 : Hid (Keeps (BagG p w) w w3) := Lib.hid (BagG.and HK.out hk)
        clear hb hk HB HK HAD q0 q1 q2 q3
        go_wp2_with fail
        go_roundw
        case rel => exact ⟨i + 1, by omega, by go_num, HB2, HK2⟩
        case measure => (simp [intOf] <;> omega)
      · obtain rfl : i = es.length := by omega
        have HE := Lib.hid (esL_end es T ▸ HB.out)
        clear HB
        go_wp2_with fail
        go_end0
        exact ⟨rfl, HE.out, HK.out⟩
  · have hRl : ¬ (R 18).length < 400 := by rw [hR, List.length_take]; omega
    have HT : Hid (BagT w p P (app (esL es) T)) := Lib.hid (hB.skip hD hP hR hl)
    have HG : Hid (Keeps (BagG p w) w w) := Lib.hid (Keeps.refl _ _)
    clear h hB hD hP hR hL HW HO hj
    generalize (R 18).length = n at *
    generalize A 18 = Aj at *
    generalize c 18 = cj at *
    go_enter Tryz.func151, Tryz.ntmps151
    go_wp2_with fail
    clear c0
    go_loopw [4] (fun v wr => ∃ i : Nat, i ≤ es.length ∧ v = .int .i64 i ∧ Hid (BagT wr p P (app (esL (es.drop i)) T)) ∧ Hid (Keeps (BagG p w) w wr)) (fun v _ => es.length - (intOf v).toNat)
    case atStart => exact ⟨0, Nat.zero_le _, rfl, HT, HG⟩
    case round =>
      clear HT HG
      obtain ⟨i, hi, rfl, HB, HK⟩ := hrel
      have h4I : (i : Int) < 400 := by omega
      have d4 : decide ((i : Int) < 400) = true := decide_eq_true h4I
      by_cases hil : i < es.length
      · have HAD := Lib.hid (addEffect_T es[i] (T := app (esL (es.drop (i + 1))) T) (w := wr) (p := p) (P := P) (by rw [← app_app, ← esL_drop es i hil]; exact HB.out))
        obtain ⟨g0, off0, hA, hg0, hc0⟩ := HLI.out (i * 4 + 0) _ ((flat_at 4 (fun x : PE => x.vals.toList) (fun _ => rfl) es i es[i] (List.getElem?_eq_getElem hil) 0 (by decide)).trans rfl)
        obtain rfl := hA
        have q0 : wr.cell? ⟨g0, off0 + i * 4, none⟩ = some _ := (Nat.add_assoc off0 (i * 4) 0) ▸ (HK.out.cell (by omega) (fun e => by have := e.1; omega)).trans hc0
        clear hc0
        obtain ⟨g1, off1, hA, hg1, hc1⟩ := HLI.out (i * 4 + 1) _ ((flat_at 4 (fun x : PE => x.vals.toList) (fun _ => rfl) es i es[i] (List.getElem?_eq_getElem hil) 1 (by decide)).trans rfl)
        obtain ⟨rfl, rfl⟩ : g0 = g1 ∧ off0 = off1 := by injection hA with hA; injection hA with h1 h2 _; exact ⟨h1, h2⟩
        have q1 : wr.cell? ⟨g0, off0 + i * 4 + 1, none⟩ = some _ := (Nat.add_assoc off0 (i * 4) 1) ▸ (HK.out.cell (by omega) (fun e => by have := e.1; omega)).trans hc1
        clear hc1 hA
        obtain ⟨g2, off2, hA, hg2, hc2⟩ := HLI.out (i * 4 + 2) _ ((flat_at 4 (fun x : PE => x.vals.toList) (fun _ => rfl) es i es[i] (List.getElem?_eq_getElem hil) 2 (by decide)).trans rfl)
        obtain ⟨rfl, rfl⟩ : g0 = g2 ∧ off0 = off2 := by injection hA with hA; injection hA with h1 h2 _; exact ⟨h1, h2⟩
        have q2 : wr.cell? ⟨g0, off0 + i * 4 + 2, none⟩ = some _ := (Nat.add_assoc off0 (i * 4) 2) ▸ (HK.out.cell (by omega) (fun e => by have := e.1; omega)).trans hc2
        clear hc2 hA
        obtain ⟨g3, off3, hA, hg3, hc3⟩ := HLI.out (i * 4 + 3) _ ((flat_at 4 (fun x : PE => x.vals.toList) (fun _ => rfl) es i es[i] (List.getElem?_eq_getElem hil) 3 (by decide)).trans rfl)
        obtain ⟨rfl, rfl⟩ : g0 = g3 ∧ off0 = off3 := by injection hA with hA; injection hA with h1 h2 _; exact ⟨h1, h2⟩
        have q3 : wr.cell? ⟨g0, off0 + i * 4 + 3, none⟩ = some _ := (Nat.add_assoc off0 (i * 4) 3) ▸ (HK.out.cell (by omega) (fun e => by have := e.1; omega)).trans hc3
        clear hc3 hA
        generalize es[i] = x at *
        unfold PE.vals at HAD
        go_wp2_with fail
        refine HAD.out.mono ?_
        rintro e w3 ⟨rfl, hb, hk⟩
        have HB2 := Lib.hid hb
        have HK2 : Hid (Keeps (BagG p w) w w3) := Lib.hid (BagG.and HK.out hk)
        clear hb hk HB HK HAD q0 q1 q2 q3
        go_wp2_with fail
        go_roundw
        case rel => exact ⟨i + 1, by omega, by go_num, HB2, HK2⟩
        case measure => (simp [intOf] <;> omega)
      · obtain rfl : i = es.length := by omega
        have HE := Lib.hid (esL_end es T ▸ HB.out)
        clear HB
        go_wp2_with fail
        go_end0
        exact ⟨rfl, HE.out, HK.out⟩
set_option maxRecDepth 100000 in
set_option maxHeartbeats 2000000 in
theorem addKind_T (k : PK) (hes : k.es.length < 400) (hL : Lies w p k.Ae (effVals k.es)) (h : BagT w p P (app (pkL k) T)) :
    Calls Tryz.prog 120 #[.pointer (some ⟨p, 0, none⟩), .agg k.vals] w fun e w' => e = .returned (.tuple #[]) ∧ BagT w' p P T ∧ Keeps (BagG p w) w w' := by
  unfold pkL at h
  rw [app_app] at h
  have HLI := Lib.hid hL
  obtain ⟨w0, hw0⟩ : ∃ z, z = w.alloc (.cells #[.int .i64 k.name, .int .i64 k.cost, .int .i64 k.power, .int .i64 k.health, .slice k.At k.tags.length k.ct, .slice k.Ae k.es.length k.ce] 40) := ⟨_, rfl⟩
  have K0 : Hid (Keeps (fun _ => False) w w0) := Lib.hid (by rw [hw0]; exact (Keeps.refl _ _).alloc _)
  have WB0 : Hid (Whole w0 w.heap.size 40 #[.int .i64 k.name, .int .i64 k.cost, .int .i64 k.power, .int .i64 k.health, .slice k.At k.tags.length k.ct, .slice k.Ae k.es.length k.ce]) := Lib.hid (by rw [hw0]; exact Whole.made _ _ _)
  have H0 := Lib.hid (h.calm K0.out)
  have hpw := h.lt
  have hpw0 : p < w0.heap.size := Nat.lt_of_lt_of_le hpw K0.out.size
  have KG0 : Hid (Keeps (BagG p w0) w0 w0) := Lib.hid (Keeps.refl _ _)
  clear h hL
  unfold PK.vals
  go_enter Tryz.func120, Tryz.ntmps120
  go_wp2_with fail
  rw [← hw0]
  clear hw0
  refine (addT (j := 1) (by decide) okAddInts fullAddInts k.tg H0.out).mono ?_
  rintro e w1 ⟨rfl, hb, hk⟩
  have H1 := Lib.hid hb
  have KG1 : Hid (Keeps (BagG p w0) w0 w1) := Lib.hid (BagG.and KG0.out hk)
  have WB1 := Lib.hid (BagG.box hk WB0.out (by decide) (by decide))
  have b1 : w1.cell? ⟨w.heap.size, 5, none⟩ = some (.slice k.Ae k.es.length k.ce) := WB1.out.cellAt 5
  clear hb hk H0 KG0
  go_wp2_with fail
  refine (addEffects_T k.es k.Ae k.ce hes (HLI.out.keep (fun b o hb => by rw [KG1.out.cell (by omega) (fun e => by have := e.1; omega), K0.out.cell (by omega) id])) (by have := H1.out; rw [app_app] at this; exact this)).mono ?_
  rintro e w2 ⟨rfl, hb, hk⟩
  have H2 := Lib.hid hb
  have KG2 : Hid (Keeps (BagG p w0) w0 w2) := Lib.hid (BagG.and KG1.out hk)
  clear hb hk H1 KG1 b1
  go_wp2_with fail
  go_end0
  exact ⟨rfl, H2.out, BagG.first K0.out KG2.out⟩
/-- The effects of a kind lie below p. -/
def KdAt (w : World) (p : Nat) (k : PK) : Prop := k.es.length < 400 ∧ Lies w p k.Ae (effVals k.es)
theorem KdAt.keeps {k : PK} (h : KdAt w p k) (hk : Keeps (BagG p w) w w') (hp : p ≤ w.heap.size) : KdAt w' p k := ⟨h.1, h.2.keep (fun b o hb => hk.cell (by omega) (fun e => by have := e.1; omega))⟩
theorem info_pg19 : (Tryz.prog.info? 24).map (fun i => (i.zero, i.size, i.bytes)) = some (some (.slice none 0 0), 1, 24) := by kernel_rfl
set_option maxRecDepth 100000 in
set_option maxHeartbeats 4000000 in
theorem addKinds_T (es : List PK) (A0 : Option Addr) (c0' : Nat) (hes : es.length < 400) (hL : Lies w p A0 (kndVals es)) (hK : ∀ k ∈ es, KdAt w p k) (h : BagT w p P (app (one 19 ⟨A0, es.length, c0'⟩) (app (ksL es) T))) :
    Calls Tryz.prog 84 #[.pointer (some ⟨p, 0, none⟩), .slice A0 es.length c0'] w fun e w' => e = .returned (.tuple #[]) ∧ BagT w' p P T ∧ Keeps (BagG p w) w w' := by
  obtain ⟨R, A, c, D, hB, hD, hP, hR⟩ := h.see
  have hpw := h.lt
  have HKA := Lib.hid hK
  clear hK
  have HLI := Lib.hid hL
  have hj : 19 < (bagV R A c).size := (Array.getElem?_eq_some_iff.1 (bagV_at (R := R) (A := A) (c := c) (by decide))).1
  have c0 := (hB.hW.cellAt 19).trans (bagV_at (by decide))
  have HW := Lib.hid hB.hW
  have HO : Hid (w.ownsRow (p + 1) 24 1 (.slice (A 19) (R 19).length (c 19)) (R 19).length (vals (R 19))) := Lib.hid (hB.k 19 (by decide)).hO
  by_cases hl : D.length < 400
  · have hRl : (R 19).length < 400 := by rw [hR, List.length_take]; omega
    have HN : Hid (∀ w' A' c', Whole w' p 67 ((bagV R A c).setIfInBounds 19 (.slice A' ((R 19).length + 1) c')) → w'.ownsRow (p + 1) 24 1 (.slice A' ((R 19).length + 1) c') ((R 19).length + 1) (vals (R 19) ++ [.slice A0 es.length c0']) → Keeps (fun b => b = p ∨ (Value.slice (A 19) (R 19).length (c 19)).ownBlock = some b) w w' → BagT w' p P (app (ksL es) T) ∧ Keeps (BagG p w) w w') := Lib.hid (fun w' A' c' h1 h2 h3 => ⟨hB.next (by decide) hD hP hR hl h1 h2 h3, BagG.of (j := 19) (by decide) h3 hB.hW HO.out (Nat.le_succ _)⟩)
    clear h hB hD hP hR hL
    generalize bagV R A c = cs at *
    generalize (R 19).length = n at *
    generalize vals (R 19) = xs at *
    generalize A 19 = Aj at *
    generalize c 19 = cj at *
    go_enter Tryz.func84, Tryz.ntmps84
    go_wp2_with (at_builtin; (refine wpList_append_cells _ rfl (.tmp 15) (.tmp 17) 64 rfl (p + 1) 24 (.slice none 0 0) 1 24 Tryz.underlying64 info_pg19 rfl (by decide) _ n _ rfl (HO.out.alloc _) (w.heap.size + 1) (some ⟨w.heap.size, 0, none⟩) 1 1 [.slice A0 es.length c0'] rfl (Lies.row (t := 24) (fr := (0, 0)) (heap_alloc_new w _) (by simp)) rfl (by simp [Value.oneCell']) (by unfold maxLen; omega) (by omega) (by simp; omega) ?_); intro A' cap' w1 h1 h2 _ _ _; obtain ⟨hA, hB, hC, hD, x, hE⟩ := bag_next HW.out HO.out (Nat.lt_succ_self _) hj h1 h2; obtain ⟨hA2, hB2⟩ := HN.out _ _ _ hA hB hC; have HT := Lib.hid hA2; have HG := Lib.hid hB2; clear hA hB hC h1 h2 c0 hA2 hB2 HN HW HO)
    clear hD hE hj
    generalize w1.setCell _ _ = w2 at *
    go_loopw [4] (fun v wr => ∃ i : Nat, i ≤ es.length ∧ v = .int .i64 i ∧ Hid (BagT wr p P (app (ksL (es.drop i)) T)) ∧ Hid (Keeps (BagG p w) w wr)) (fun v _ => es.length - (intOf v).toNat)
    case atStart => exact ⟨0, Nat.zero_le _, rfl, HT, HG⟩
    case round =>
      clear HT HG
      obtain ⟨i, hi, rfl, HB, HK⟩ := hrel
      have h4I : (i : Int) < 400 := by omega
      have d4 : decide ((i : Int) < 400) = true := decide_eq_true h4I
      by_cases hil : i < es.length
      · have HAD := Lib.hid (addKind_T es[i] (HKA.out _ (List.getElem_mem hil)).1 ((HKA.out _ (List.getElem_mem hil)).keeps HK.out (Nat.le_of_lt hpw)).2 (T := app (ksL (es.drop (i + 1))) T) (w := wr) (p := p) (P := P) (by rw [← app_app, ← ksL_drop es i hil]; exact HB.out))
        obtain ⟨g0, off0, hA, hg0, hc0⟩ := HLI.out (i * 6 + 0) _ ((flat_at 6 (fun x : PK => x.vals.toList) (fun _ => rfl) es i es[i] (List.getElem?_eq_getElem hil) 0 (by decide)).trans rfl)
        obtain rfl := hA
        have q0 : wr.cell? ⟨g0, off0 + i * 6, none⟩ = some _ := (Nat.add_assoc off0 (i * 6) 0) ▸ (HK.out.cell (by omega) (fun e => by have := e.1; omega)).trans hc0
        clear hc0
        obtain ⟨g1, off1, hA, hg1, hc1⟩ := HLI.out (i * 6 + 1) _ ((flat_at 6 (fun x : PK => x.vals.toList) (fun _ => rfl) es i es[i] (List.getElem?_eq_getElem hil) 1 (by decide)).trans rfl)
        obtain ⟨rfl, rfl⟩ : g0 = g1 ∧ off0 = off1 := by injection hA with hA; injection hA with h1 h2 _; exact ⟨h1, h2⟩
        have q1 : wr.cell? ⟨g0, off0 + i * 6 + 1, none⟩ = some _ := (Nat.add_assoc off0 (i * 6) 1) ▸ (HK.out.cell (by omega) (fun e => by have := e.1; omega)).trans hc1
        clear hc1 hA
        obtain ⟨g2, off2, hA, hg2, hc2⟩ := HLI.out (i * 6 + 2) _ ((flat_at 6 (fun x : PK => x.vals.toList) (fun _ => rfl) es i es[i] (List.getElem?_eq_getElem hil) 2 (by decide)).trans rfl)
        obtain ⟨rfl, rfl⟩ : g0 = g2 ∧ off0 = off2 := by injection hA with hA; injection hA with h1 h2 _; exact ⟨h1, h2⟩
        have q2 : wr.cell? ⟨g0, off0 + i * 6 + 2, none⟩ = some _ := (Nat.add_assoc off0 (i * 6) 2) ▸ (HK.out.cell (by omega) (fun e => by have := e.1; omega)).trans hc2
        clear hc2 hA
        obtain ⟨g3, off3, hA, hg3, hc3⟩ := HLI.out (i * 6 + 3) _ ((flat_at 6 (fun x : PK => x.vals.toList) (fun _ => rfl) es i es[i] (List.getElem?_eq_getElem hil) 3 (by decide)).trans rfl)
        obtain ⟨rfl, rfl⟩ : g0 = g3 ∧ off0 = off3 := by injection hA with hA; injection hA with h1 h2 _; exact ⟨h1, h2⟩
        have q3 : wr.cell? ⟨g0, off0 + i * 6 + 3, none⟩ = some _ := (Nat.add_assoc off0 (i * 6) 3) ▸ (HK.out.cell (by omega) (fun e => by have := e.1; omega)).trans hc3
        clear hc3 hA
        obtain ⟨g4, off4, hA, hg4, hc4⟩ := HLI.out (i * 6 + 4) _ ((flat_at 6 (fun x : PK => x.vals.toList) (fun _ => rfl) es i es[i] (List.getElem?_eq_getElem hil) 4 (by decide)).trans rfl)
        obtain ⟨rfl, rfl⟩ : g0 = g4 ∧ off0 = off4 := by injection hA with hA; injection hA with h1 h2 _; exact ⟨h1, h2⟩
        have q4 : wr.cell? ⟨g0, off0 + i * 6 + 4, none⟩ = some _ := (Nat.add_assoc off0 (i * 6) 4) ▸ (HK.out.cell (by omega) (fun e => by have := e.1; omega)).trans hc4
        clear hc4 hA
        obtain ⟨g5, off5, hA, hg5, hc5⟩ := HLI.out (i * 6 + 5) _ ((flat_at 6 (fun x : PK => x.vals.toList) (fun _ => rfl) es i es[i] (List.getElem?_eq_getElem hil) 5 (by decide)).trans rfl)
        obtain ⟨rfl, rfl⟩ : g0 = g5 ∧ off0 = off5 := by injection hA with hA; injection hA with h1 h2 _; exact ⟨h1, h2⟩
        have q5 : wr.cell? ⟨g0, off0 + i * 6 + 5, none⟩ = some _ := (Nat.add_assoc off0 (i * 6) 5) ▸ (HK.out.cell (by omega) (fun e => by have := e.1; omega)).trans hc5
        clear hc5 hA
        generalize es[i] = x at *
        unfold PK.vals at HAD
        go_wp2_with fail
        refine HAD.out.mono ?_
        rintro e w3 ⟨rfl, hb, hk⟩
        have HB2 := Lib.hid hb
        have HK2 : Hid (Keeps (BagG p w) w w3) := Lib.hid (BagG.and HK.out hk)
        clear hb hk HB HK HAD q0 q1 q2 q3 q4 q5
        go_wp2_with fail
        go_roundw
        case rel => exact ⟨i + 1, by omega, by go_num, HB2, HK2⟩
        case measure => (simp [intOf] <;> omega)
      · obtain rfl : i = es.length := by omega
        have HE := Lib.hid (ksL_end es T ▸ HB.out)
        clear HB
        go_wp2_with fail
        go_end0
        exact ⟨rfl, HE.out, HK.out⟩
  · have hRl : ¬ (R 19).length < 400 := by rw [hR, List.length_take]; omega
    have HT : Hid (BagT w p P (app (ksL es) T)) := Lib.hid (hB.skip hD hP hR hl)
    have HG : Hid (Keeps (BagG p w) w w) := Lib.hid (Keeps.refl _ _)
    clear h hB hD hP hR hL HW HO hj
    generalize (R 19).length = n at *
    generalize A 19 = Aj at *
    generalize c 19 = cj at *
    go_enter Tryz.func84, Tryz.ntmps84
    go_wp2_with fail
    clear c0
    go_loopw [4] (fun v wr => ∃ i : Nat, i ≤ es.length ∧ v = .int .i64 i ∧ Hid (BagT wr p P (app (ksL (es.drop i)) T)) ∧ Hid (Keeps (BagG p w) w wr)) (fun v _ => es.length - (intOf v).toNat)
    case atStart => exact ⟨0, Nat.zero_le _, rfl, HT, HG⟩
    case round =>
      clear HT HG
      obtain ⟨i, hi, rfl, HB, HK⟩ := hrel
      have h4I : (i : Int) < 400 := by omega
      have d4 : decide ((i : Int) < 400) = true := decide_eq_true h4I
      by_cases hil : i < es.length
      · have HAD := Lib.hid (addKind_T es[i] (HKA.out _ (List.getElem_mem hil)).1 ((HKA.out _ (List.getElem_mem hil)).keeps HK.out (Nat.le_of_lt hpw)).2 (T := app (ksL (es.drop (i + 1))) T) (w := wr) (p := p) (P := P) (by rw [← app_app, ← ksL_drop es i hil]; exact HB.out))
        obtain ⟨g0, off0, hA, hg0, hc0⟩ := HLI.out (i * 6 + 0) _ ((flat_at 6 (fun x : PK => x.vals.toList) (fun _ => rfl) es i es[i] (List.getElem?_eq_getElem hil) 0 (by decide)).trans rfl)
        obtain rfl := hA
        have q0 : wr.cell? ⟨g0, off0 + i * 6, none⟩ = some _ := (Nat.add_assoc off0 (i * 6) 0) ▸ (HK.out.cell (by omega) (fun e => by have := e.1; omega)).trans hc0
        clear hc0
        obtain ⟨g1, off1, hA, hg1, hc1⟩ := HLI.out (i * 6 + 1) _ ((flat_at 6 (fun x : PK => x.vals.toList) (fun _ => rfl) es i es[i] (List.getElem?_eq_getElem hil) 1 (by decide)).trans rfl)
        obtain ⟨rfl, rfl⟩ : g0 = g1 ∧ off0 = off1 := by injection hA with hA; injection hA with h1 h2 _; exact ⟨h1, h2⟩
        have q1 : wr.cell? ⟨g0, off0 + i * 6 + 1, none⟩ = some _ := (Nat.add_assoc off0 (i * 6) 1) ▸ (HK.out.cell (by omega) (fun e => by have := e.1; omega)).trans hc1
        clear hc1 hA
        obtain ⟨g2, off2, hA, hg2, hc2⟩ := HLI.out (i * 6 + 2) _ ((flat_at 6 (fun x : PK => x.vals.toList) (fun _ => rfl) es i es[i] (List.getElem?_eq_getElem hil) 2 (by decide)).trans rfl)
        obtain ⟨rfl, rfl⟩ : g0 = g2 ∧ off0 = off2 := by injection hA with hA; injection hA with h1 h2 _; exact ⟨h1, h2⟩
        have q2 : wr.cell? ⟨g0, off0 + i * 6 + 2, none⟩ = some _ := (Nat.add_assoc off0 (i * 6) 2) ▸ (HK.out.cell (by omega) (fun e => by have := e.1; omega)).trans hc2
        clear hc2 hA
        obtain ⟨g3, off3, hA, hg3, hc3⟩ := HLI.out (i * 6 + 3) _ ((flat_at 6 (fun x : PK => x.vals.toList) (fun _ => rfl) es i es[i] (List.getElem?_eq_getElem hil) 3 (by decide)).trans rfl)
        obtain ⟨rfl, rfl⟩ : g0 = g3 ∧ off0 = off3 := by injection hA with hA; injection hA with h1 h2 _; exact ⟨h1, h2⟩
        have q3 : wr.cell? ⟨g0, off0 + i * 6 + 3, none⟩ = some _ := (Nat.add_assoc off0 (i * 6) 3) ▸ (HK.out.cell (by omega) (fun e => by have := e.1; omega)).trans hc3
        clear hc3 hA
        obtain ⟨g4, off4, hA, hg4, hc4⟩ := HLI.out (i * 6 + 4) _ ((flat_at 6 (fun x : PK => x.vals.toList) (fun _ => rfl) es i es[i] (List.getElem?_eq_getElem hil) 4 (by decide)).trans rfl)
        obtain ⟨rfl, rfl⟩ : g0 = g4 ∧ off0 = off4 := by injection hA with hA; injection hA with h1 h2 _; exact ⟨h1, h2⟩
        have q4 : wr.cell? ⟨g0, off0 + i * 6 + 4, none⟩ = some _ := (Nat.add_assoc off0 (i * 6) 4) ▸ (HK.out.cell (by omega) (fun e => by have := e.1; omega)).trans hc4
        clear hc4 hA
        obtain ⟨g5, off5, hA, hg5, hc5⟩ := HLI.out (i * 6 + 5) _ ((flat_at 6 (fun x : PK => x.vals.toList) (fun _ => rfl) es i es[i] (List.getElem?_eq_getElem hil) 5 (by decide)).trans rfl)
        obtain ⟨rfl, rfl⟩ : g0 = g5 ∧ off0 = off5 := by injection hA with hA; injection hA with h1 h2 _; exact ⟨h1, h2⟩
        have q5 : wr.cell? ⟨g0, off0 + i * 6 + 5, none⟩ = some _ := (Nat.add_assoc off0 (i * 6) 5) ▸ (HK.out.cell (by omega) (fun e => by have := e.1; omega)).trans hc5
        clear hc5 hA
        generalize es[i] = x at *
        unfold PK.vals at HAD
        go_wp2_with fail
        refine HAD.out.mono ?_
        rintro e w3 ⟨rfl, hb, hk⟩
        have HB2 := Lib.hid hb
        have HK2 : Hid (Keeps (BagG p w) w w3) := Lib.hid (BagG.and HK.out hk)
        clear hb hk HB HK HAD q0 q1 q2 q3 q4 q5
        go_wp2_with fail
        go_roundw
        case rel => exact ⟨i + 1, by omega, by go_num, HB2, HK2⟩
        case measure => (simp [intOf] <;> omega)
      · obtain rfl : i = es.length := by omega
        have HE := Lib.hid (ksL_end es T ▸ HB.out)
        clear HB
        go_wp2_with fail
        go_end0
        exact ⟨rfl, HE.out, HK.out⟩
set_option maxRecDepth 100000 in
set_option maxHeartbeats 2000000 in
theorem addPack_T (x : PPk) (hes : x.ks.length < 400) (hL : Lies w p x.Ak (kndVals x.ks)) (hK : ∀ k ∈ x.ks, KdAt w p k) (h : BagT w p P (app (ppL x) T)) :
    Calls Tryz.prog 22 #[.pointer (some ⟨p, 0, none⟩), .agg x.vals] w fun e w' => e = .returned (.tuple #[]) ∧ BagT w' p P T ∧ Keeps (BagG p w) w w' := by
  unfold ppL at h
  rw [app_app] at h
  have HLI := Lib.hid hL
  have HKA := Lib.hid hK
  obtain ⟨w0, hw0⟩ : ∃ z, z = w.alloc (.cells #[.int .i64 x.cards, .slice x.Ai x.ints.length x.ci, .slice x.At x.texts.length x.ct, .slice x.Ak x.ks.length x.ck] 26) := ⟨_, rfl⟩
  have K0 : Hid (Keeps (fun _ => False) w w0) := Lib.hid (by rw [hw0]; exact (Keeps.refl _ _).alloc _)
  have WB0 : Hid (Whole w0 w.heap.size 26 #[.int .i64 x.cards, .slice x.Ai x.ints.length x.ci, .slice x.At x.texts.length x.ct, .slice x.Ak x.ks.length x.ck]) := Lib.hid (by rw [hw0]; exact Whole.made _ _ _)
  have H0 := Lib.hid (h.calm K0.out)
  have hpw := h.lt
  have hpw0 : p < w0.heap.size := Nat.lt_of_lt_of_le hpw K0.out.size
  have KG0 : Hid (Keeps (BagG p w0) w0 w0) := Lib.hid (Keeps.refl _ _)
  clear h hL hK
  unfold PPk.vals
  go_enter Tryz.func22, Tryz.ntmps22
  go_wp2_with fail
  rw [← hw0]
  clear hw0
  refine (addT (j := 2) (by decide) okAddLongs fullAddLongs x.is H0.out).mono ?_
  rintro e w1 ⟨rfl, hb, hk⟩
  have H1 := Lib.hid hb
  have KG1 : Hid (Keeps (BagG p w0) w0 w1) := Lib.hid (BagG.and KG0.out hk)
  have WB1 := Lib.hid (BagG.box hk WB0.out (by decide) (by decide))
  have b1 : w1.cell? ⟨w.heap.size, 2, none⟩ = some (.slice x.At x.texts.length x.ct) := WB1.out.cellAt 2
  clear hb hk H0 KG0
  go_wp2_with fail
  refine (addT (j := 6) (by decide) okAddTexts fullAddTexts x.ts (by have := H1.out; rw [app_app] at this; exact this)).mono ?_
  rintro e w2 ⟨rfl, hb, hk⟩
  have H2 := Lib.hid hb
  have KG2 : Hid (Keeps (BagG p w0) w0 w2) := Lib.hid (BagG.and KG1.out hk)
  have WB2 := Lib.hid (BagG.box hk WB1.out (by decide) (by decide))
  have b2 : w2.cell? ⟨w.heap.size, 3, none⟩ = some (.slice x.Ak x.ks.length x.ck) := WB2.out.cellAt 3
  clear hb hk H1 KG1 b1
  go_wp2_with fail
  refine (addKinds_T x.ks x.Ak x.ck hes (HLI.out.keep (fun b o hb => by rw [KG2.out.cell (by omega) (fun e => by have := e.1; omega), K0.out.cell (by omega) id])) (fun k hk => ((HKA.out k hk).keeps (BagG.first K0.out KG2.out) (Nat.le_of_lt hpw))) (by have := H2.out; rw [app_app] at this; exact this)).mono ?_
  rintro e w3 ⟨rfl, hb, hk⟩
  have H3 := Lib.hid hb
  have KG3 : Hid (Keeps (BagG p w0) w0 w3) := Lib.hid (BagG.and KG2.out hk)
  clear hb hk H2 KG2 b2
  go_wp2_with fail
  go_end0
  exact ⟨rfl, H3.out, BagG.first K0.out KG3.out⟩
end
end Go.Proofs.YtcmbdnjcfneinaaGreatDoor
