/-
  The law KindsLists: the walk. Conditions: none.
-/
import Derived.Test.YtfcdbmfdaohpjaaDoorKindM
namespace Go.Proofs.YtfcdbmfdaohpjaaDoor
open Go.RowKit
set_option maxHeartbeats 4000000 in
set_option maxRecDepth 100000 in
theorem kindsLists_any (n : Int) (w : World) : Calls Tryd.prog 3 #[.int .i64 n] w fun e w' => e = .returned (.bool true) ∧ Below w.heap.size w w' := by
  have HG0 : Hid (BagOf w (w.alloc (.cells bagNone 45)) w.heap.size 0 [] none 0) := Lib.hid ⟨BagSn.start w, Nat.le_refl _, fun k r hr => by simp at hr, fun b ⟨k, r, hr, _⟩ => by simp at hr⟩
  have HB0 : Hid (Below w.heap.size w (w.alloc (.cells bagNone 45))) := Lib.hid ((Below.refl _ _).alloc (Nat.le_refl _) _)
  have hp0 : w.heap.size < (w.alloc (.cells bagNone 45)).heap.size := by simp
  go_enter Tryd.func3, Tryd.ntmps3
  go_wp2_with fail
  change Code.wp Tryd.prog _ _ _ (w.alloc (.cells bagNone 45))
  generalize w.alloc (.cells bagNone 45) = wb at *
  go_loopw [4] (fun vq wr => ∃ (q c : Nat) (rows : List Sl) (A : Option Addr), q ≤ 3 ∧ vq = .int .i64 q ∧ Hid (BagOf w wr w.heap.size (26 * q) rows A c) ∧ Hid (Below w.heap.size w wr) ∧ w.heap.size < wr.heap.size) (fun vq _ => 3 - (intOf vq).toNat)
  case atStart => exact ⟨0, 0, [], none, by omega, rfl, HG0, HB0, hp0⟩
  case round =>
    clear HG0 HB0 hp0
    obtain ⟨q, c, rows, A, hq, rfl, HG, HB, hpw⟩ := hrel
    by_cases hlt : q < 3
    · obtain ⟨wo, rfl⟩ : ∃ wo : World, wo = wr := ⟨_, rfl⟩
      have HLi := Lib.hid (fun W => list_any q hlt W)
      have HRL := Lib.hid (fun W => rlist_any q hlt W)
      have HSG := Lib.hid (fun (i : Nat) (a : Sg) (hi : (tbl q)[i]? = some a) b rb W => sign_any q i a n b rb W hlt hi)
      have HT := Lib.hid (fun (i : Nat) (a : Sg) (hi : (tbl q)[i]? = some a) => (gas_of hlt hi).2)
      have hlen : (tbl q).length ≤ 13 ∧ 0 < (tbl q).length := by rcases three hlt with rfl | rfl | rfl <;> decide
      have HBL : Hid (∀ b, blks rows b → b < wo.heap.size) := Lib.hid (fun b hb => blks_lt HG.out.1.hR hb)
      generalize tbl q = L at *
      go_wp2_with fail
      refine (HLi.out _).mono ?_
      rintro e w1 ⟨rfl, hs, hb⟩
      have HSa := Lib.hid hs
      have hga := hs.1.inside
      replace HG := Lib.hid (HG.out.past hb)
      replace HB := Lib.hid (belowThen' HB.out hb)
      have hz1 := hb.size
      clear hs hb
      go_wp2_with fail
      refine (HLi.out _).mono ?_
      rintro e w2 ⟨rfl, hs, hb⟩
      have HSb := Lib.hid hs
      have hgb := hs.1.inside
      replace HSa := Lib.hid (HSa.out.past hb)
      replace HG := Lib.hid (HG.out.past hb)
      replace HB := Lib.hid (belowThen' HB.out hb)
      have hz2 := hb.size
      clear hs hb
      go_wp2_with fail
      refine (HRL.out _).mono ?_
      rintro e w3 ⟨rfl, hs, hb⟩
      have HSr := Lib.hid hs
      have hgr := hs.1.inside
      replace HSa := Lib.hid (HSa.out.past hb)
      replace HSb := Lib.hid (HSb.out.past hb)
      replace HG := Lib.hid (HG.out.past hb)
      replace HB := Lib.hid (belowThen' HB.out hb)
      have hz3 := hb.size
      clear hs hb
      obtain ⟨ba, hba⟩ : ∃ ba, wo.heap.size = ba := ⟨_, rfl⟩
      obtain ⟨bb, hbb⟩ : ∃ bb, w1.heap.size = bb := ⟨_, rfl⟩
      obtain ⟨br, hbr⟩ : ∃ br, w2.heap.size = br := ⟨_, rfl⟩
      obtain ⟨z3, hbz⟩ : ∃ z3, w3.heap.size = z3 := ⟨_, rfl⟩
      rw [hba] at HSa HBL hga hz1 hpw ⊢
      rw [hbb] at HSb hga hgb hz1 hz2 ⊢
      rw [hbr] at HSr hgr hgb hz2 hz3 ⊢
      rw [hbz] at hgr hz3
      clear hba hbb hbr
      have HZ3 := Lib.hid hbz; clear hbz
      go_wp2_with fail
      have HRB0 : Hid (∀ b, blks rows b → b < ba ∨ (∃ j, j < 0 ∧ (b = ba + j ∨ b = bb + j))) := Lib.hid (fun b hb => .inl (HBL.out b hb))
      have hin0 : z3 ≤ w3.heap.size := Nat.le_of_eq HZ3.out.symm
      clear HBL
      go_loopw [8] (fun vi wr => ∃ (i c : Nat) (rows : List Sl) (A : Option Addr), i ≤ L.length ∧ vi = .int .i64 i ∧ Hid (BagOf w wr w.heap.size (26 * q + 2 * i) rows A c) ∧ Hid (SgAt wr (ba + L.length) ba L) ∧ Hid (SgAt wr (bb + L.length) bb L) ∧ Hid (RSgAt wr (br + L.length) br L) ∧ Hid (∀ b, blks rows b → b < ba ∨ (∃ j, j < i ∧ (b = ba + j ∨ b = bb + j))) ∧ Hid (Below w.heap.size w wr) ∧ z3 ≤ wr.heap.size) (fun vi _ => L.length - (intOf vi).toNat)
      case atStart => exact ⟨0, c, rows, A, by omega, rfl, HG, HSa, HSb, HSr, HRB0, HB, hin0⟩
      case round =>
        clear HG HSa HSb HSr HRB0 HB hin0
        obtain ⟨i, c, rows, A, hi, rfl, HG, HSa, HSb, HSr, HRB, HB, hzr⟩ := hrel
        by_cases hil : i < L.length
        · obtain ⟨wi, rfl⟩ : ∃ wi : World, wi = wr := ⟨_, rfl⟩
          obtain ⟨a, ha⟩ : ∃ a, L[i]? = some a := ⟨_, List.getElem?_eq_getElem hil⟩
          have hal := HT.out i a ha
          have HSI := Lib.hid (HSG.out i a ha)
          have c0 : ∀ r : Later wi, r.w.cell? ⟨ba + L.length, i * 4, none⟩ = some (.string a.name) := fun r => (SgAt.cells_at (HSa.out.past r.below).1 i a ha).1
          have c1 : ∀ r : Later wi, r.w.cell? ⟨ba + L.length, i * 4 + 1, none⟩ = some (.slice (some ⟨ba + i, 0, none⟩) a.args.length a.args.length) := fun r => (SgAt.cells_at (HSa.out.past r.below).1 i a ha).2.1
          have c2 : ∀ r : Later wi, r.w.cell? ⟨ba + L.length, i * 4 + 2, none⟩ = some (.int .i8 a.tell) := fun r => (SgAt.cells_at (HSa.out.past r.below).1 i a ha).2.2.1
          have c3 : ∀ r : Later wi, r.w.cell? ⟨ba + L.length, i * 4 + 3, none⟩ = some (.func (.func a.gas) #[] #[]) := fun r => (SgAt.cells_at (HSa.out.past r.below).1 i a ha).2.2.2
          have d0 : ∀ r : Later wi, r.w.cell? ⟨bb + L.length, i * 4, none⟩ = some (.string a.name) := fun r => (SgAt.cells_at (HSb.out.past r.below).1 i a ha).1
          have d1 : ∀ r : Later wi, r.w.cell? ⟨bb + L.length, i * 4 + 1, none⟩ = some (.slice (some ⟨bb + i, 0, none⟩) a.args.length a.args.length) := fun r => (SgAt.cells_at (HSb.out.past r.below).1 i a ha).2.1
          have d2 : ∀ r : Later wi, r.w.cell? ⟨bb + L.length, i * 4 + 2, none⟩ = some (.int .i8 a.tell) := fun r => (SgAt.cells_at (HSb.out.past r.below).1 i a ha).2.2.1
          have d3 : ∀ r : Later wi, r.w.cell? ⟨bb + L.length, i * 4 + 3, none⟩ = some (.func (.func a.gas) #[] #[]) := fun r => (SgAt.cells_at (HSb.out.past r.below).1 i a ha).2.2.2
          have r0 : ∀ r : Later wi, r.w.cell? ⟨br + L.length, i * 3, none⟩ = some (.string a.name) := fun r => (RSgAt.cells_at (HSr.out.past r.below).1 i a ha).1
          have r1 : ∀ r : Later wi, r.w.cell? ⟨br + L.length, i * 3 + 1, none⟩ = some (.slice (some ⟨br + i, 0, none⟩) a.args.length a.args.length) := fun r => (RSgAt.cells_at (HSr.out.past r.below).1 i a ha).2.1
          have r2 : ∀ r : Later wi, r.w.cell? ⟨br + L.length, i * 3 + 2, none⟩ = some (.int .i8 a.tell) := fun r => (RSgAt.cells_at (HSr.out.past r.below).1 i a ha).2.2
          have HCa : Hid (∀ r : Later wi, _) := Lib.hid (fun r : Later wi => HSI.out (ba + i) (br + i) r.w ((HSa.out.past r.below).2 i a ha) ((HSr.out.past r.below).2 i a ha))
          have HCb : Hid (∀ r : Later wi, _) := Lib.hid (fun r : Later wi => HSI.out (bb + i) (br + i) r.w ((HSb.out.past r.below).2 i a ha) ((HSr.out.past r.below).2 i a ha))
          clear HSI
          go_wp2_with fail
          haveI := later_some wi
          refine region_later (by kernel_rfl) (by kernel_rfl) ?_
          repeat (first
            | (quiet_step ((first | with_reducible exact later_calls (HCa.out _) | with_reducible exact later_calls (HCb.out _)))))
          refine wpQuiet_nil ?_
          rintro w' ⟨r, rfl⟩
          replace HSa := Lib.hid (HSa.out.past r.below)
          replace HSb := Lib.hid (HSb.out.past r.below)
          replace HSr := Lib.hid (HSr.out.past r.below)
          replace HG := Lib.hid (HG.out.past r.below)
          replace HB := Lib.hid (belowThen' HB.out r.below)
          have hz5 := r.below.size
          clear c0 c1 c2 c3 d0 d1 d2 d3 r0 r1 r2 HCa HCb
          generalize r.w = w5 at *
          obtain ⟨_, c1, _, _⟩ := SgAt.cells_at HSa.out.1 i a ha
          have hpc : w.heap.size < ba := hpw
          go_wp2_with fail
          clear c1
          refine (addTo_any HG.out (HSa.out.2 i a ha) hal ⟨fun h => by
            rcases HRB.out _ h with h | ⟨j, hj, h | h⟩ <;> omega, by omega⟩ (by omega) (Nat.le_refl _) (by omega)).mono ?_
          rintro e w6 ⟨rfl, ⟨A6, c6, hg6⟩, hb6, hk6⟩
          replace HSa := Lib.hid (SgAt.keepB HG.out HSa.out hk6)
          replace HSb := Lib.hid (SgAt.keepB HG.out HSb.out hk6)
          replace HSr := Lib.hid (RSgAt.keepB HG.out HSr.out hk6)
          replace HB := Lib.hid (HB.out.trans hb6)
          have hz6 := hk6.size
          replace HG := Lib.hid hg6
          clear hg6 hb6 hk6
          obtain ⟨_, c1, _, _⟩ := SgAt.cells_at HSb.out.1 i a ha
          go_wp2_with fail
          clear c1
          refine (addTo_any HG.out (HSb.out.2 i a ha) hal ⟨fun h => by
            rcases blks_snoc h with h | h
            · rcases HRB.out _ h with h | ⟨j, hj, h | h⟩ <;> omega
            · have := sl_blk h; omega, by omega⟩ (by omega) (Nat.le_refl _) (by omega)).mono ?_
          rintro e w7 ⟨rfl, ⟨A7, c7, hg7⟩, hb7, hk7⟩
          replace HSa := Lib.hid (SgAt.keepB HG.out HSa.out hk7)
          replace HSb := Lib.hid (SgAt.keepB HG.out HSb.out hk7)
          replace HSr := Lib.hid (RSgAt.keepB HG.out HSr.out hk7)
          replace HB := Lib.hid (HB.out.trans hb7)
          have hz7 := hk7.size
          have HG7 : Hid (BagOf w w7 w.heap.size (26 * q + 2 * (i + 1)) (rows ++ [a.sl (ba + i)] ++ [a.sl (bb + i)]) A7 c7) := Lib.hid hg7
          clear hg7 hb7 hk7 HG
          have HRB7 : Hid (∀ b, blks (rows ++ [a.sl (ba + i)] ++ [a.sl (bb + i)]) b → b < ba ∨ (∃ j, j < i + 1 ∧ (b = ba + j ∨ b = bb + j))) := Lib.hid (fun b h => by
            rcases blks_snoc h with h | h
            · rcases blks_snoc h with h | h
              · rcases HRB.out _ h with h | ⟨j, hj, h⟩
                · exact .inl h
                · exact .inr ⟨j, by omega, h⟩
              · exact .inr ⟨i, by omega, .inl (sl_blk h)⟩
            · exact .inr ⟨i, by omega, .inr (sl_blk h)⟩)
          have hz8 : z3 ≤ w7.heap.size := by omega
          go_wp2_with fail
          go_roundw
          case rel => exact ⟨i + 1, c7, _, A7, by omega, by go_num, HG7, HSa, HSb, HSr, HRB7, HB, hz8⟩
          case measure => simp [intOf]; omega
        · obtain rfl : i = L.length := by omega
          clear hi hil
          obtain ⟨wi, rfl⟩ : ∃ wi : World, wi = wr := ⟨_, rfl⟩
          obtain ⟨ga, hgae⟩ : ∃ ga, ba + L.length = ga := ⟨_, rfl⟩
          rw [hgae] at HSa hga ⊢
          have HWa := Lib.hid HSa.out.1
          have HSZ : Hid ((sgCells L ba).toArray.size = L.length * 4) := Lib.hid (sgCells_size L ba)
          have hgal : ba + L.length = ga := hgae
          have HGA := Lib.hid hgal
          clear HSa hgae hgal
          generalize (sgCells L ba).toArray = cs0 at *
          have hgn : Hid (¬ blks rows ga) := Lib.hid (fun h => by
            have := HGA.out
            rcases HRB.out _ h with h | ⟨j, hj, h | h⟩ <;> omega)
          have HWi := HWa
          go_wp2_with fail
          have hk0 : Hid (Keeps (fun b => b = ga) wi wi) := Lib.hid (Keeps.refl _ _)
          go_loopw [9] (fun vj wr => ∃ (j : Nat) (cs : Array Value), j ≤ L.length ∧ vj = .int .i64 j ∧ Hid (cs.size = L.length * 4) ∧ Hid (Whole wr ga 55 cs) ∧ Hid (Keeps (fun b => b = ga) wi wr)) (fun vj _ => L.length - (intOf vj).toNat)
          case atStart => exact ⟨0, cs0, by omega, rfl, HSZ, HWa, hk0⟩
          case round =>
            clear HSZ HWa hk0
            obtain ⟨j, cs, hj, rfl, HSZ, HWa, HK⟩ := hrel
            by_cases hjl : j < L.length
            · have hsz := HSZ.out
              obtain ⟨u0, k0⟩ : ∃ u, wr.cell? ⟨ga, j * 4, none⟩ = some u := ⟨_, (HWa.out.cellAt _).trans (Array.getElem?_eq_getElem (by omega))⟩
              obtain ⟨u1, k1⟩ : ∃ u, wr.cell? ⟨ga, j * 4 + 1, none⟩ = some u := ⟨_, (HWa.out.cellAt _).trans (Array.getElem?_eq_getElem (by omega))⟩
              obtain ⟨u2, k2⟩ : ∃ u, wr.cell? ⟨ga, j * 4 + 2, none⟩ = some u := ⟨_, (HWa.out.cellAt _).trans (Array.getElem?_eq_getElem (by omega))⟩
              obtain ⟨u3, k3⟩ : ∃ u, wr.cell? ⟨ga, j * 4 + 3, none⟩ = some u := ⟨_, (HWa.out.cellAt _).trans (Array.getElem?_eq_getElem (by omega))⟩
              have f0 := HWa.out.free (j * 4)
              have f1 := HWa.out.free (j * 4 + 1)
              have f2 := HWa.out.free (j * 4 + 2)
              have f3 := HWa.out.free (j * 4 + 3)
              obtain ⟨cs', e1, e2, e3⟩ := spoil HWa.out (j := j) (.string ⟨#[115, 112, 111, 105, 108, 116]⟩) (.slice none 0 0) (.int .i8 0) .nilFunc
              have HS' : Hid (cs'.size = L.length * 4) := Lib.hid (e1.trans hsz)
              have HW' := Lib.hid e2; have HK' := Lib.hid (HK.out.trans e3)
              clear e1 e2 e3 hsz HWa HK HSZ
              go_wp2_with fail
              go_roundw
              case rel => exact ⟨j + 1, cs', by omega, by go_num, HS', HW', HK'⟩
              case measure => simp [intOf]; omega
            · obtain rfl : j = L.length := by omega
              clear hj hjl
              have HO : Hid (wr.ownsRow 0 55 4 (.slice (some ⟨ga, 0, none⟩) L.length L.length) L.length cs.toList) := Lib.hid ⟨by rw [Array.length_toList]; exact HSZ.out, .inr ⟨ga, L.length, cs, rfl, Nat.zero_le _, HWa.out, Nat.le_refl _, by unfold maxLen; omega, HSZ.out, List.take_of_length_le (by rw [Array.length_toList, HSZ.out]; exact Nat.le_refl _)⟩⟩
              have hgr0 := HK.out.size
              go_wp2_with (at_builtin; (refine wpList_append_cells _ rfl (.tmp 94) (.tmp 96) 46 rfl 0 55 (.agg #[.string ⟨#[]⟩, .slice none 0 0, .int .i8 0, .nilFunc]) 4 56 Tryd.underlying46 (by kernel_rfl) rfl (by decide) _ L.length _ rfl (HO.out.alloc _) (wr.heap.size + 1) (some ⟨wr.heap.size, 0, none⟩) 1 1 [.string ⟨#[109, 111, 114, 101]⟩, .slice none 0 0, .int .i8 0, .nilFunc] rfl (Lies.row (t := 55) (fr := (0, 0)) (heap_alloc_new wr _) (by simp)) rfl (by simp [Value.oneCell']) (by unfold maxLen; omega) (by omega) (by simp) ?_); intro A' cap' w8 hown' hgrow _ _ _; have HK8 : Hid (Keeps (fun b => b = ga) wi w8) := Lib.hid ((HK.out.alloc _).grown hgrow (fun k hk _ => by injection hk with hk; exact hk.symm)); clear hown' hgrow HO HWa HSZ HK)
              have HGn := Lib.hid (HG.out.keepK HK8.out (fun e => by have := HGA.out; omega) (fun b hb e => own_kind HWi.out HG.out.1.hO (by decide) (e ▸ hb)) (fun b hb e => hgn.out (e ▸ hb)))
              have HB8 := Lib.hid (HB.out.trans (HK8.out.below (B := w.heap.size) HB.out.size (fun k e => by have := HGA.out; omega)))
              have HSb8 := Lib.hid (HSb.out.keeps HK8.out (fun e => by have := HGA.out; omega) (fun j hj e => by have := HGA.out; omega))
              have HSr8 := Lib.hid (HSr.out.keeps HK8.out (fun e => by have := HGA.out; omega) (fun j hj e => by have := HGA.out; omega))
              clear HG HB HSb HSr HK8 hgn HRB HWi
              refine (HLi.out _).mono ?_
              rintro e w9 ⟨rfl, hs, hb⟩
              have HSc := Lib.hid hs
              replace HSb8 := Lib.hid (HSb8.out.past hb)
              replace HSr8 := Lib.hid (HSr8.out.past hb)
              have HG9 := Lib.hid (HGn.out.past hb)
              have HB9 := Lib.hid (belowThen' HB8.out hb)
              clear hs hb HGn HB8
              obtain ⟨bc, hbc⟩ : ∃ bc, w8.heap.size = bc := ⟨_, rfl⟩
              rw [hbc] at HSc ⊢
              clear hbc
              obtain ⟨a0, ha0⟩ : ∃ a0, L[0]? = some a0 := ⟨_, List.getElem?_eq_getElem (by omega)⟩
              have c0 : ∀ r : Later w9, r.w.cell? ⟨bb + L.length, 0, none⟩ = some (.string a0.name) := fun r => (SgAt.cells_at (HSb8.out.past r.below).1 0 a0 ha0).1
              have c1 : ∀ r : Later w9, r.w.cell? ⟨bb + L.length, 1, none⟩ = some (.slice (some ⟨bb, 0, none⟩) a0.args.length a0.args.length) := fun r => (SgAt.cells_at (HSb8.out.past r.below).1 0 a0 ha0).2.1
              have c2 : ∀ r : Later w9, r.w.cell? ⟨bb + L.length, 2, none⟩ = some (.int .i8 a0.tell) := fun r => (SgAt.cells_at (HSb8.out.past r.below).1 0 a0 ha0).2.2.1
              have c3 : ∀ r : Later w9, r.w.cell? ⟨bb + L.length, 3, none⟩ = some (.func (.func a0.gas) #[] #[]) := fun r => (SgAt.cells_at (HSb8.out.past r.below).1 0 a0 ha0).2.2.2
              have d0 : ∀ r : Later w9, r.w.cell? ⟨bc + L.length, 0, none⟩ = some (.string a0.name) := fun r => (SgAt.cells_at (HSc.out.past r.below).1 0 a0 ha0).1
              have d1 : ∀ r : Later w9, r.w.cell? ⟨bc + L.length, 1, none⟩ = some (.slice (some ⟨bc, 0, none⟩) a0.args.length a0.args.length) := fun r => (SgAt.cells_at (HSc.out.past r.below).1 0 a0 ha0).2.1
              have d2 : ∀ r : Later w9, r.w.cell? ⟨bc + L.length, 2, none⟩ = some (.int .i8 a0.tell) := fun r => (SgAt.cells_at (HSc.out.past r.below).1 0 a0 ha0).2.2.1
              have d3 : ∀ r : Later w9, r.w.cell? ⟨bc + L.length, 3, none⟩ = some (.func (.func a0.gas) #[] #[]) := fun r => (SgAt.cells_at (HSc.out.past r.below).1 0 a0 ha0).2.2.2
              have r0 : ∀ r : Later w9, r.w.cell? ⟨br + L.length, 0, none⟩ = some (.string a0.name) := fun r => (RSgAt.cells_at (HSr8.out.past r.below).1 0 a0 ha0).1
              have r1 : ∀ r : Later w9, r.w.cell? ⟨br + L.length, 1, none⟩ = some (.slice (some ⟨br, 0, none⟩) a0.args.length a0.args.length) := fun r => (RSgAt.cells_at (HSr8.out.past r.below).1 0 a0 ha0).2.1
              have r2 : ∀ r : Later w9, r.w.cell? ⟨br + L.length, 2, none⟩ = some (.int .i8 a0.tell) := fun r => (RSgAt.cells_at (HSr8.out.past r.below).1 0 a0 ha0).2.2
              have HCb : Hid (∀ r : Later w9, Calls Tryd.prog 7 #[.agg #[.string a0.name, .slice (some ⟨bb, 0, none⟩) a0.args.length a0.args.length, .int .i8 a0.tell, .func (.func a0.gas) #[] #[]], .agg #[.string a0.name, .slice (some ⟨br, 0, none⟩) a0.args.length a0.args.length, .int .i8 a0.tell], .int .i64 q, .int .i64 0, .int .i64 n] r.w fun e w' => e = .returned (.bool true) ∧ Below r.w.heap.size r.w w') := Lib.hid (fun r : Later w9 => HSG.out 0 a0 ha0 bb br r.w ((HSb8.out.past r.below).2 0 a0 ha0) ((HSr8.out.past r.below).2 0 a0 ha0))
              have HCc : Hid (∀ r : Later w9, Calls Tryd.prog 7 #[.agg #[.string a0.name, .slice (some ⟨bc, 0, none⟩) a0.args.length a0.args.length, .int .i8 a0.tell, .func (.func a0.gas) #[] #[]], .agg #[.string a0.name, .slice (some ⟨br, 0, none⟩) a0.args.length a0.args.length, .int .i8 a0.tell], .int .i64 q, .int .i64 0, .int .i64 n] r.w fun e w' => e = .returned (.bool true) ∧ Below r.w.heap.size r.w w') := Lib.hid (fun r : Later w9 => HSG.out 0 a0 ha0 bc br r.w ((HSc.out.past r.below).2 0 a0 ha0) ((HSr8.out.past r.below).2 0 a0 ha0))
              clear HSG
              have ew : IntKind.i64.wrap ((L.length : Int) + 1) = (L.length : Int) + 1 := by rw [IntKind.wrap_i64]; omega
              have el : (((L.length : Int) + 1) != ((L.length : Int) + 1)) = false := by simp
              go_wp2_with fail
              haveI := later_some w9
              refine region_later (by kernel_rfl) (by kernel_rfl) ?_
              repeat (first
                | (quiet_step ((first | with_reducible exact later_calls (HCb.out _) | with_reducible exact later_calls (HCc.out _)))))
              refine wpQuiet_nil ?_
              rintro w' ⟨r, rfl⟩
              have HG10 := Lib.hid (HG9.out.past r.below)
              have HB10 := Lib.hid (belowThen' HB9.out r.below)
              clear c0 c1 c2 c3 d0 d1 d2 d3 r0 r1 r2 HCb HCc HSb8 HSc HSr8 HG9 HB9 el ew
              generalize r.w = w10 at *
              have hg := HG10.out
              have HG11 : Hid (BagOf w w10 w.heap.size (26 * (q + 1)) rows A c) := Lib.hid ⟨hg.1, by have := hg.2.1; omega, hg.2.2⟩
              have hpw2 : w.heap.size < w10.heap.size := hg.1.hW.inside
              clear hg HG10
              go_wp2_with fail
              go_roundw
              case rel => exact ⟨q + 1, c, rows, A, by omega, by go_num, HG11, HB10, hpw2⟩
              case measure => simp [intOf]; omega
    · obtain rfl : q = 3 := by omega
      clear hlt hq
      obtain ⟨wo, rfl⟩ : ∃ wo : World, wo = wr := ⟨_, rfl⟩
      go_wp2_with fail
      have HBL : Hid (∀ b, blks rows b → b < wo.heap.size) := Lib.hid (fun b hb => blks_lt HG.out.1.hR hb)
      refine (fields_any _).mono ?_
      rintro e w1 ⟨rfl, hs, hb⟩
      have HSl := Lib.hid hs
      replace HG := Lib.hid (HG.out.past hb)
      replace HB := Lib.hid (belowThen' HB.out hb)
      clear hs hb
      obtain ⟨lz, hlz⟩ : ∃ lz, wo.heap.size = lz := ⟨_, rfl⟩
      rw [hlz] at HSl HBL ⊢
      clear hlz
      obtain ⟨a0, ha0⟩ : ∃ a0, fields[0]? = some a0 := ⟨_, rfl⟩
      have HA0 := Lib.hid ha0; clear ha0
      have HLow := Lib.hid HG.out.2.2.2
      have HAp : Hid (Calls Tryd.prog 10 #[.pointer (some ⟨w.heap.size, 0, none⟩)] w1.drew fun e w' => e = .returned (.bool true) ∧ Keeps (blks rows) w1.drew w') := Lib.hid ((HG.out.1.past ((Below.refl _ w1).drew)).apart (by have := HG.out.2.1; omega) (fun k r hr => by have := HG.out.2.2.1 k r hr; omega))
      clear HG hpw
      have q1 : decide ((0 : Int) < 13) = true := by decide
      have q3 : ((0 : Int) < 13) = True := by simp
      go_wp2_with fail
      refine wp_region_any (by kernel_rfl) ?_
      change wpAny _ _ _ _ _ _ _ (World.drew _)
      refine wpAny_take (i := 0) (v := ?v1) rfl (by kernel_rfl) (by kernel_rfl) (by kernel_rfl) (fun _ _ _ h => h) (Or.inl ⟨by rfl, ?hy1⟩) ?rest1
      case hy1 => (intro w; go_simp; try with_reducible rfl)
      go_simp
      refine wpAny_ready (rs := [1]) (by kernel_rfl) (by simp) ?_
      refine AllReady.cons rfl (fun K hK => ?_) AllReady.nil
      go_simp
      refine HAp.out.mono ?_
      rintro e w2 ⟨rfl, hk⟩
      have HS2 := Lib.hid (sg_after HSl.out hk HBL.out (Nat.le_add_right lz 13))
      have HB2 := Lib.hid (below_after HB.out hk HLow.out)
      clear hk
      obtain ⟨k0, k1, k2, k3⟩ := sg_first HS2.out HA0.out
      refine hK _ _ ?_
      clear hK K
      refine wpAny_take (i := 2) (v := ?v2) rfl (by kernel_rfl) (by kernel_rfl) (by kernel_rfl) (fun _ _ _ h => h) (Or.inl ⟨by rfl, ?hy2⟩) ?rest2
      case hy2 => (intro w; go_simp; try with_reducible rfl)
      go_simp
      refine wpAny_take (i := 3) (v := ?v3) rfl (by kernel_rfl) (by kernel_rfl) (by kernel_rfl) (fun _ _ _ h => h) (Or.inl ⟨by rfl, ?hy3⟩) ?rest3
      case hy3 => (intro w; go_simp; try with_reducible rfl)
      go_simp
      refine wpAny_take (i := 4) (v := ?v4) rfl (by kernel_rfl) (by kernel_rfl) (by kernel_rfl) (fun _ _ _ h => h) (Or.inl ⟨by rfl, ?hy4⟩) ?rest4
      case hy4 => (intro w; go_simp; try with_reducible rfl)
      go_simp
      refine wpAny_take (i := 5) (v := ?v5) rfl (by kernel_rfl) (by kernel_rfl) (by kernel_rfl) (fun _ _ _ h => h) (Or.inl ⟨by rfl, ?hy5⟩) ?rest5
      case hy5 => (intro w; go_simp; try with_reducible rfl)
      go_simp
      refine wpAny_take (i := 6) (v := ?v6) rfl (by kernel_rfl) (by kernel_rfl) (by kernel_rfl) (fun _ _ _ h => h) (Or.inl ⟨by rfl, ?hy6⟩) ?rest6
      case hy6 => (intro w; go_simp; try with_reducible rfl)
      go_simp
      refine wpAny_take (i := 7) (v := ?v7) rfl (by kernel_rfl) (by kernel_rfl) (by kernel_rfl) (fun _ _ _ h => h) (Or.inl ⟨by rfl, ?hy7⟩) ?rest7
      case hy7 => (intro w; go_simp; try with_reducible rfl)
      go_simp
      refine wpAny_take (i := 8) (v := ?v8) rfl (by kernel_rfl) (by kernel_rfl) (by kernel_rfl) (fun _ _ _ h => h) (Or.inl ⟨by rfl, ?hy8⟩) ?rest8
      case hy8 => (intro w; go_simp; try with_reducible rfl)
      go_simp
      refine wpAny_take (i := 14) (v := ?v9) rfl (by kernel_rfl) (by kernel_rfl) (by kernel_rfl) (fun _ _ _ h => h) (Or.inl ⟨by rfl, ?hy9⟩) ?rest9
      case hy9 => (intro w; go_simp; try with_reducible rfl)
      go_simp
      refine wpAny_take (i := 9) (v := ?v10) rfl (by kernel_rfl) (by kernel_rfl) (by kernel_rfl) (fun _ _ _ h => h) (Or.inl ⟨by rfl, ?hy10⟩) ?rest10
      case hy10 => (intro w; go_simp; try with_reducible rfl)
      go_simp
      refine wpAny_ready (rs := [10, 11]) (by kernel_rfl) (by simp) ?_
      refine AllReady.cons rfl (fun K hK => ?s11) ?m11
      case s11 =>
        go_simp
        refine hK _ _ ?_
        clear hK K
        refine wpAny_ready (rs := [11]) (by kernel_rfl) (by simp) ?_
        refine AllReady.cons rfl (fun K hK => ?_) AllReady.nil
        go_simp
        refine (rfields_any _).mono ?_
        rintro e w3 ⟨rfl, hs, hb⟩
        have HSr := Lib.hid hs
        have HS3 := Lib.hid (HS2.out.past hb)
        have HB3 := Lib.hid (belowThen' HB2.out hb)
        clear k0 k1 k2 k3 hs hb
        obtain ⟨k0, k1, k2, k3⟩ := sg_first HS3.out HA0.out
        obtain ⟨m0, m1, m2⟩ := rsg_first HSr.out HA0.out
        refine hK _ _ ?_
        clear hK K
        refine wpAny_take (i := 12) (v := ?v12) rfl (by kernel_rfl) (by kernel_rfl) (by kernel_rfl) (fun _ _ _ h => h) (Or.inl ⟨by rfl, ?hy12⟩) ?rest12
        case hy12 => (intro w; go_simp; try with_reducible rfl)
        go_simp
        refine wpAny_ready (rs := [13]) (by kernel_rfl) (by simp) ?_
        refine AllReady.cons rfl (fun K hK => ?_) AllReady.nil
        go_simp
        refine hK _ _ ?_
        clear hK K
        refine wpAny_ready (rs := [15]) (by kernel_rfl) (by simp) ?_
        refine AllReady.cons rfl (fun K hK => ?_) AllReady.nil
        go_simp
        refine (sign_first n HS3.out HSr.out HA0.out).mono ?_
        rintro e w4 ⟨rfl, hb⟩
        have HB4 := Lib.hid (belowThen' HB3.out hb)
        clear hb
        refine hK _ _ ?_
        clear hK K
        refine wpAny_take (i := 16) (v := ?v13) rfl (by kernel_rfl) (by kernel_rfl) (by kernel_rfl) (fun _ _ _ h => h) (Or.inl ⟨by rfl, ?hy13⟩) ?rest13
        case hy13 => (intro w; go_simp; try with_reducible rfl)
        go_simp
        refine wpAny_take (i := 17) (v := ?v14) rfl (by kernel_rfl) (by kernel_rfl) (by kernel_rfl) (fun _ _ _ h => h) (Or.inl ⟨by rfl, ?hy14⟩) ?rest14
        case hy14 => (intro w; go_simp; try with_reducible rfl)
        go_simp
        refine wpAny_ready (rs := [18]) (by kernel_rfl) (by simp) ?_
        refine AllReady.cons rfl (fun K hK => ?_) AllReady.nil
        go_simp
        refine (lives_any _).mono ?_
        rintro e w5 ⟨rfl, hb⟩
        have HB5 := Lib.hid (belowThen' HB4.out hb)
        clear hb
        refine hK _ _ ?_
        clear hK K
        refine wpAny_take (i := 19) (v := ?v15) rfl (by kernel_rfl) (by kernel_rfl) (by kernel_rfl) (fun _ _ _ h => h) (Or.inl ⟨by rfl, ?hy15⟩) ?rest15
        case hy15 => (intro w; go_simp; try with_reducible rfl)
        go_simp
        refine wpAny_take (i := 20) (v := ?v16) rfl (by kernel_rfl) (by kernel_rfl) (by kernel_rfl) (fun _ _ _ h => h) (Or.inl ⟨by rfl, ?hy16⟩) ?rest16
        case hy16 => (intro w; go_simp; try with_reducible rfl)
        go_simp
        refine wpAny_done (by kernel_rfl) ?_ _
        go_wp2_with fail
        go_ret
        exact ⟨rfl, HB5.out⟩
      refine AllReady.cons rfl (fun K hK => ?s17) ?m17
      case s17 =>
        go_simp
        refine (rfields_any _).mono ?_
        rintro e w3 ⟨rfl, hs, hb⟩
        have HSr := Lib.hid hs
        have HS3 := Lib.hid (HS2.out.past hb)
        have HB3 := Lib.hid (belowThen' HB2.out hb)
        clear k0 k1 k2 k3 hs hb
        obtain ⟨k0, k1, k2, k3⟩ := sg_first HS3.out HA0.out
        obtain ⟨m0, m1, m2⟩ := rsg_first HSr.out HA0.out
        refine hK _ _ ?_
        clear hK K
        refine wpAny_take (i := 12) (v := ?v18) rfl (by kernel_rfl) (by kernel_rfl) (by kernel_rfl) (fun _ _ _ h => h) (Or.inl ⟨by rfl, ?hy18⟩) ?rest18
        case hy18 => (intro w; go_simp; try with_reducible rfl)
        go_simp
        refine wpAny_ready (rs := [10, 13]) (by kernel_rfl) (by simp) ?_
        refine AllReady.cons rfl (fun K hK => ?s19) ?m19
        case s19 =>
          go_simp
          refine hK _ _ ?_
          clear hK K
          refine wpAny_ready (rs := [13]) (by kernel_rfl) (by simp) ?_
          refine AllReady.cons rfl (fun K hK => ?_) AllReady.nil
          go_simp
          refine hK _ _ ?_
          clear hK K
          refine wpAny_ready (rs := [15]) (by kernel_rfl) (by simp) ?_
          refine AllReady.cons rfl (fun K hK => ?_) AllReady.nil
          go_simp
          refine (sign_first n HS3.out HSr.out HA0.out).mono ?_
          rintro e w4 ⟨rfl, hb⟩
          have HB4 := Lib.hid (belowThen' HB3.out hb)
          clear hb
          refine hK _ _ ?_
          clear hK K
          refine wpAny_take (i := 16) (v := ?v20) rfl (by kernel_rfl) (by kernel_rfl) (by kernel_rfl) (fun _ _ _ h => h) (Or.inl ⟨by rfl, ?hy20⟩) ?rest20
          case hy20 => (intro w; go_simp; try with_reducible rfl)
          go_simp
          refine wpAny_take (i := 17) (v := ?v21) rfl (by kernel_rfl) (by kernel_rfl) (by kernel_rfl) (fun _ _ _ h => h) (Or.inl ⟨by rfl, ?hy21⟩) ?rest21
          case hy21 => (intro w; go_simp; try with_reducible rfl)
          go_simp
          refine wpAny_ready (rs := [18]) (by kernel_rfl) (by simp) ?_
          refine AllReady.cons rfl (fun K hK => ?_) AllReady.nil
          go_simp
          refine (lives_any _).mono ?_
          rintro e w5 ⟨rfl, hb⟩
          have HB5 := Lib.hid (belowThen' HB4.out hb)
          clear hb
          refine hK _ _ ?_
          clear hK K
          refine wpAny_take (i := 19) (v := ?v22) rfl (by kernel_rfl) (by kernel_rfl) (by kernel_rfl) (fun _ _ _ h => h) (Or.inl ⟨by rfl, ?hy22⟩) ?rest22
          case hy22 => (intro w; go_simp; try with_reducible rfl)
          go_simp
          refine wpAny_take (i := 20) (v := ?v23) rfl (by kernel_rfl) (by kernel_rfl) (by kernel_rfl) (fun _ _ _ h => h) (Or.inl ⟨by rfl, ?hy23⟩) ?rest23
          case hy23 => (intro w; go_simp; try with_reducible rfl)
          go_simp
          refine wpAny_done (by kernel_rfl) ?_ _
          go_wp2_with fail
          go_ret
          exact ⟨rfl, HB5.out⟩
        refine AllReady.cons rfl (fun K hK => ?s24) ?m24
        case s24 =>
          go_simp
          refine hK _ _ ?_
          clear hK K
          refine wpAny_ready (rs := [10]) (by kernel_rfl) (by simp) ?_
          refine AllReady.cons rfl (fun K hK => ?_) AllReady.nil
          go_simp
          refine hK _ _ ?_
          clear hK K
          refine wpAny_ready (rs := [15]) (by kernel_rfl) (by simp) ?_
          refine AllReady.cons rfl (fun K hK => ?_) AllReady.nil
          go_simp
          refine (sign_first n HS3.out HSr.out HA0.out).mono ?_
          rintro e w4 ⟨rfl, hb⟩
          have HB4 := Lib.hid (belowThen' HB3.out hb)
          clear hb
          refine hK _ _ ?_
          clear hK K
          refine wpAny_take (i := 16) (v := ?v25) rfl (by kernel_rfl) (by kernel_rfl) (by kernel_rfl) (fun _ _ _ h => h) (Or.inl ⟨by rfl, ?hy25⟩) ?rest25
          case hy25 => (intro w; go_simp; try with_reducible rfl)
          go_simp
          refine wpAny_take (i := 17) (v := ?v26) rfl (by kernel_rfl) (by kernel_rfl) (by kernel_rfl) (fun _ _ _ h => h) (Or.inl ⟨by rfl, ?hy26⟩) ?rest26
          case hy26 => (intro w; go_simp; try with_reducible rfl)
          go_simp
          refine wpAny_ready (rs := [18]) (by kernel_rfl) (by simp) ?_
          refine AllReady.cons rfl (fun K hK => ?_) AllReady.nil
          go_simp
          refine (lives_any _).mono ?_
          rintro e w5 ⟨rfl, hb⟩
          have HB5 := Lib.hid (belowThen' HB4.out hb)
          clear hb
          refine hK _ _ ?_
          clear hK K
          refine wpAny_take (i := 19) (v := ?v27) rfl (by kernel_rfl) (by kernel_rfl) (by kernel_rfl) (fun _ _ _ h => h) (Or.inl ⟨by rfl, ?hy27⟩) ?rest27
          case hy27 => (intro w; go_simp; try with_reducible rfl)
          go_simp
          refine wpAny_take (i := 20) (v := ?v28) rfl (by kernel_rfl) (by kernel_rfl) (by kernel_rfl) (fun _ _ _ h => h) (Or.inl ⟨by rfl, ?hy28⟩) ?rest28
          case hy28 => (intro w; go_simp; try with_reducible rfl)
          go_simp
          refine wpAny_done (by kernel_rfl) ?_ _
          go_wp2_with fail
          go_ret
          exact ⟨rfl, HB5.out⟩
        exact AllReady.nil
      exact AllReady.nil
end Go.Proofs.YtfcdbmfdaohpjaaDoor
