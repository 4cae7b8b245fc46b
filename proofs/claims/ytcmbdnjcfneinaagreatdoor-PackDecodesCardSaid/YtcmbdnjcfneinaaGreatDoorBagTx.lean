/-
  The bag: its lists of texts, marked, gone on with and looked at: the walk. Conditions: no two of them lie in one block; lengths within 10 ^ 9; the table of powers of ten.
-/
import Derived.Test.YtcmbdnjcfneinaaGreatDoorBagP
import Derived.Test.YtcmbdnjcfneinaaGreatDoorBagA
import Derived.Test.YtcmbdnjcfneinaaGreatDoorWvA
import Derived.Test.YtcmbdnjcfneinaaGreatDoorMemM
import Derived.RegionTactic
import Derived.Deep.RegionWith
namespace Go.Proofs.YtcmbdnjcfneinaaGreatDoor
open Go.RowKit
theorem info_strB : (Tryz.prog.info? 9).map (fun i => (i.zero, i.size, i.bytes)) = some (some (.string ⟨#[]⟩), 1, 16) := by kernel_rfl
theorem info_strsB : (Tryz.prog.info? 23).map (fun i => (i.zero, i.size, i.bytes)) = some (some (.slice none 0 0), 1, 24) := by kernel_rfl
/-- The mark i of the list n. -/
def markN (n i : Nat) : ByteArray := (ByteArray.mk #[33]) ++ ByteArray.mk (Lib.itoa (1048576 * (n : Int) + (i : Int) + 1)).toArray
def mkT (n i : Nat) : List Value := [.string (markN n i)]
theorem mkT_length (n i : Nat) : (mkT n i).length = 1 := rfl
theorem mkT_at (k m i : Nat) (h : i < m) : (marks mkT k m)[i]? = some (.string (markN k i)) := by
  have := marks_get mkT mkT_length k m i 0 h (by decide)
  rw [Nat.mul_one, Nat.add_zero] at this
  rw [this]; rfl
set_option maxRecDepth 4000 in
set_option maxHeartbeats 1000000 in
theorem textB_any (n i : Nat) (x y : Int) (hx : x = n) (hy : y = i) (w : World) (hn : n ≤ 1000000) (hi : i ≤ 1000000000000) (hp : Pow w) :
    Calls Tryz.prog 87 #[.int .i64 x, .int .i64 y] w fun e w' => e = .returned (.string (markN n i)) ∧ Keeps (fun _ => False) w w' := by
  subst hx hy
  have HC := fun (w : World) (h : Lib.TabIs Tryz.prog w "internal/strconv.uint64pow10" .u64 Lib.pow10Tab) => Any.strconv_Itoa Tryz.layNm171 (1048576 * (n : Int) + (i : Int) + 1) (by omega) (by omega) w h
  obtain ⟨m, hm⟩ : ∃ m, m = ByteArray.mk (Lib.itoa (1048576 * (n : Int) + (i : Int) + 1)).toArray := ⟨_, rfl⟩
  have HM : Hid (markN n i = ByteArray.mk #[33] ++ m) := Lib.hid (by rw [hm]; rfl)
  have hms : m.size ≤ 21 := by rw [hm]; exact Lib.itoa_length_le (1048576 * (n : Int) + (i : Int) + 1) (by omega) (by omega)
  rw [← hm] at HC
  have HP := Lib.hid hp
  clear hp hm
  go_enter Tryz.func87, Tryz.ntmps87
  go_wp2_with fail
  refine (numB_any n i _ (by omega) (by omega)).mono ?_
  rintro e w1 ⟨rfl, rfl⟩
  go_wp2_with fail
  refine (HC _ HP.out).mono ?_
  rintro e w1 ⟨rfl, k, os, rfl⟩
  clear HC
  go_wp2_with fail
  go_ret
  exact ⟨by rw [HM.out]; rfl, grow_keeps _ _ _⟩
section
variable {mk : Nat → Nat → List Value} {e eo : TypeId} {s base : Nat} {rows : List Sl} {w0 w w' : World} {n m c i : Nat} {ov mv lv : Value} {ones mores : List Value} {D E : Nat → Prop} {r : Sl}
theorem MarkedIn.past (h : MarkedIn mk e s rows w0 w n i r) (hk : Keeps (fun _ => False) w w') : MarkedIn mk e s rows w0 w' n i r :=
  ⟨h.keeps.trans (hk.mono fun _ _ h => h.elim), fun k q hne hq => by
    obtain ⟨xs, hx, hm⟩ := h.own k q hne hq
    exact ⟨xs, own_keepsS hx hk (fun _ _ => id), hm⟩, by
    obtain ⟨xs, hx, ht⟩ := h.here
    exact ⟨xs, own_keepsS hx hk (fun _ _ => id), ht⟩⟩
theorem GoingIn.past (h : GoingIn mk e eo s base rows w0 w n m c ov mv lv ones mores D E r) (hk : Keeps (fun _ => False) w w') : GoingIn mk e eo s base rows w0 w' n m c ov mv lv ones mores D E r :=
  ⟨h.keeps.trans (hk.mono fun _ _ h => h.elim), Nat.le_trans h.big hk.size, fun b hb => Nat.lt_of_lt_of_le (h.lt b hb) hk.size, own_keepsS h.one hk (fun _ _ => id), own_keepsS h.more hk (fun _ _ => id), h.oneD, h.moreD, h.om, own_keepsS h.own hk (fun _ _ => id), h.lE, h.lnew,
    fun k q hkn hq => ⟨own_keepsS (h.rest k q hkn hq).1 hk (fun _ _ => id), (h.rest k q hkn hq).2⟩, h.here.keeps hk (fun b hb => h.lt b (.inr hb)) (fun _ _ => id), h.cn, fun hc => by
      obtain ⟨h1, a, cp, h2, h3⟩ := h.first hc
      exact ⟨h1, a, cp, h2, h3.keeps hk (fun b hb => h.lt b (.inr hb)) (fun _ _ => id)⟩,
    fun k hkn => (h.did k hkn).keep (fun b o hb => hk.cell (h.lt b (.inl hb)) id) (fun _ => id) (fun _ => rfl) (fun _ => rfl)⟩
end
set_option maxRecDepth 100000 in
set_option maxHeartbeats 2000000 in
theorem apartTexts_any (p gO capO : Nat) (rows : List Sl) (w : World) (hF : BagFix w p 6 gO capO rows) (hR : SlRows 9 1 rows w) (hn : rows.length ≤ 400) (hl : ∀ (k : Nat) (r : Sl), rows[k]? = some r → r.len ≤ 1000000000) (hp : ∀ w1, Keeps (blks rows) w w1 → Pow w1) :
    Calls Tryz.prog 60 #[.pointer (some ⟨p, 0, none⟩)] w fun e w' => e = .returned (.bool true) ∧ Keeps (blks rows) w w' := by
  have HF := Lib.hid hF
  have HAp := Lib.hid hR.apart
  have HM0 : Hid (Marked mkT 9 1 rows w w 0) := Lib.hid (Marked.start hR (Keeps.refl _ _))
  have HL := Lib.hid hl
  have HPw := Lib.hid hp
  clear hl hR hp
  have c0 := hF.hp
  go_enter Tryz.func60, Tryz.ntmps60
  go_wp2_with fail
  clear c0
  go_loopw [3] (fun v wr => ∃ n : Nat, n ≤ rows.length ∧ v = .int .i64 n ∧ Hid (Marked mkT 9 1 rows w wr n)) (fun v _ => rows.length - (intOf v).toNat)
  case atStart => exact ⟨0, by omega, rfl, HM0⟩
  case round =>
    clear HM0 hF
    obtain ⟨n, hnr, rfl, HM⟩ := hrel
    have HFr := Lib.hid (HF.out.keeps HM.out.keeps)
    have c0 := HFr.out.hp
    by_cases hlt : n < rows.length
    · obtain ⟨r, hr⟩ : ∃ r, rows[n]? = some r := ⟨_, List.getElem?_eq_getElem hlt⟩
      have c1 := HFr.out.hO n r hr
      have HI0 := Lib.hid (HM.out.enter hr)
      have hrl := HL.out n r hr
      have HRr := Lib.hid hr
      obtain ⟨ra, rl, rc⟩ := r
      clear HM hr
      go_wp2_with fail
      clear c0 c1
      go_loopw [4] (fun v wr => ∃ i : Nat, i ≤ rl ∧ v = .int .i64 i ∧ Hid (MarkedIn mkT 9 1 rows w wr n i ⟨ra, rl, rc⟩)) (fun v _ => rl - (intOf v).toNat)
      case atStart => exact ⟨0, by omega, rfl, HI0⟩
      case round =>
        clear HI0 HFr
        obtain ⟨i, hir, rfl, HI⟩ := hrel
        have HFr := Lib.hid (HF.out.keeps HI.out.keeps)
        have c0 := HFr.out.hp
        have c1 := HFr.out.hO n _ HRr.out
        by_cases hil : i < rl
        · obtain ⟨g, cs, hg, hW, hsz⟩ := HI.out.cell hil
          obtain rfl : ra = some ⟨g, 0, none⟩ := hg
          obtain ⟨u, hu⟩ : ∃ u, wr.cell? ⟨g, i, none⟩ = some u := ⟨_, (hW.cellAt i).trans (Array.getElem?_eq_getElem (by simp only [Nat.mul_one] at hsz; omega))⟩
          have hfr := hW.free i
          clear hW hsz
          have HID := Lib.hid (HI.out.drew)
          clear HI
          go_wp2_with fail
          refine wp_region_upTo 12 (fun W => W.cell? ⟨p, 6, none⟩ = some (.slice (some ⟨gO, 0, none⟩) rows.length capO) ∧ W.cell? ⟨gO, n, none⟩ = some (.slice (some ⟨g, 0, none⟩) rl rc)) (fun _ => True) (by kernel_rfl) ?_
          have hS0 : Hid (wr.drew.cell? ⟨p, 6, none⟩ = some (.slice (some ⟨gO, 0, none⟩) rows.length capO) ∧ wr.drew.cell? ⟨gO, n, none⟩ = some (.slice (some ⟨g, 0, none⟩) rl rc)) := Lib.hid ⟨c0, c1⟩
          have hu0 : wr.drew.cell? ⟨g, i, none⟩ = some u := hu
          have hgs : g < wr.drew.heap.size := World.block_lt_of_cell? _ _ hu0
          have hp0 : p < wr.drew.heap.size := World.block_lt_of_cell? _ _ hS0.out.1
          have hq0 : gO < wr.drew.heap.size := World.block_lt_of_cell? _ _ hS0.out.2
          clear c0 c1 hu hfr
          generalize wr.drew = Wd at *
          refine upTo_take (i := 0) (v := ?v1) rfl (by kernel_rfl) (by kernel_rfl) (by kernel_rfl) (fun _ _ _ h => by first | exact h | exact absurd h.1 (fun e => by cases e)) (by decide) (Or.inl ⟨by rfl, ?hy1⟩) (hS0.out) (fun _ => trivial) ?rest1
          case hy1 =>
            intro w hSw
            clear hSw
            go_simp
            try with_reducible rfl
          go_simp
          refine upTo_take (i := 1) (v := ?v2) rfl (by kernel_rfl) (by kernel_rfl) (by kernel_rfl) (fun _ _ _ h => by first | exact h | exact absurd h.1 (fun e => by cases e)) (by decide) (Or.inl ⟨by rfl, ?hy2⟩) (hS0.out) (fun _ => trivial) ?rest2
          case hy2 =>
            intro w hSw
            clear hSw
            go_simp
            try with_reducible rfl
          go_simp
          refine upTo_take (i := 2) (v := ?v3) rfl (by kernel_rfl) (by kernel_rfl) (by kernel_rfl) (fun _ _ _ h => by first | exact h | exact absurd h.1 (fun e => by cases e)) (by decide) (Or.inl ⟨by rfl, ?hy3⟩) (hS0.out) (fun _ => trivial) ?rest3
          case hy3 =>
            intro w hSw
            clear hSw
            go_simp
            try with_reducible rfl
          go_simp
          refine upTo_take (i := 3) (v := ?v4) rfl (by kernel_rfl) (by kernel_rfl) (by kernel_rfl) (fun _ _ _ h => by first | exact h | exact absurd h.1 (fun e => by cases e)) (by decide) (Or.inl ⟨by rfl, ?hy4⟩) (hS0.out) (fun _ => trivial) ?rest4
          case hy4 =>
            intro w hSw
            obtain ⟨q0, q1⟩ := hSw
            go_simp
            try with_reducible rfl
          go_simp
          refine upTo_take (i := 4) (v := ?v5) rfl (by kernel_rfl) (by kernel_rfl) (by kernel_rfl) (fun _ _ _ h => by first | exact h | exact absurd h.1 (fun e => by cases e)) (by decide) (Or.inl ⟨by rfl, ?hy5⟩) (hS0.out) (fun _ => trivial) ?rest5
          case hy5 =>
            intro w hSw
            clear hSw
            go_simp
            try with_reducible rfl
          go_simp
          refine upTo_take (i := 5) (v := ?v6) rfl (by kernel_rfl) (by kernel_rfl) (by kernel_rfl) (fun _ _ _ h => by first | exact h | exact absurd h.1 (fun e => by cases e)) (by decide) (Or.inl ⟨by rfl, ?hy6⟩) (hS0.out) (fun _ => trivial) ?rest6
          case hy6 =>
            intro w hSw
            clear hSw
            go_simp
            try with_reducible rfl
          go_simp
          refine upTo_take (i := 6) (v := ?v7) rfl (by kernel_rfl) (by kernel_rfl) (by kernel_rfl) (fun _ _ _ h => by first | exact h | exact absurd h.1 (fun e => by cases e)) (by decide) (Or.inl ⟨by rfl, ?hy7⟩) (hS0.out) (fun _ => trivial) ?rest7
          case hy7 =>
            intro w hSw
            obtain ⟨q0, q1⟩ := hSw
            go_simp
            try with_reducible rfl
          go_simp
          refine upTo_take (i := 7) (v := ?v8) rfl (by kernel_rfl) (by kernel_rfl) (by kernel_rfl) (fun _ _ _ h => by first | exact h | exact absurd h.1 (fun e => by cases e)) (by decide) (Or.inl ⟨by rfl, ?hy8⟩) (hS0.out) (fun _ => trivial) ?rest8
          case hy8 =>
            intro w hSw
            clear hSw
            go_simp
            try with_reducible rfl
          go_simp
          refine upTo_take (i := 8) (v := ?v9) rfl (by kernel_rfl) (by kernel_rfl) (by kernel_rfl) (fun _ _ _ h => by first | exact h | exact absurd h.1 (fun e => by cases e)) (by decide) (Or.inl ⟨by rfl, ?hy9⟩) (hS0.out) (fun _ => trivial) ?rest9
          case hy9 =>
            intro w hSw
            clear hSw
            go_simp
            try with_reducible rfl
          go_simp
          refine upTo_take (i := 9) (v := ?v10) rfl (by kernel_rfl) (by kernel_rfl) (by kernel_rfl) (fun _ _ _ h => by first | exact h | exact absurd h.1 (fun e => by cases e)) (by decide) (Or.inl ⟨by rfl, ?hy10⟩) (hS0.out) (fun _ => trivial) ?rest10
          case hy10 =>
            intro w hSw
            clear hSw
            go_simp
            try with_reducible rfl
          go_simp
          refine upTo_next (i := 10) (by kernel_rfl) rfl ?_
          intro K hK
          go_simp
          refine (textB_any n i n i rfl rfl Wd (by omega) (by omega) (HPw.out _ HID.out.keeps)).mono ?_
          rintro r W1 ⟨rfl, k1⟩
          have HI1 := Lib.hid (HID.out.past k1)
          have hS1 : Hid (W1.cell? ⟨p, 6, none⟩ = some (.slice (some ⟨gO, 0, none⟩) rows.length capO) ∧ W1.cell? ⟨gO, n, none⟩ = some (.slice (some ⟨g, 0, none⟩) rl rc)) := Lib.hid ⟨(k1.cell hp0 id).trans hS0.out.1, (k1.cell hq0 id).trans hS0.out.2⟩
          have hu1 : W1.cell? ⟨g, i, none⟩ = some u := (k1.cell hgs id).trans hu0
          obtain ⟨g', cs', hg', hW', _⟩ := HI1.out.cell hil
          obtain rfl : g = g' := by injection hg' with hg'; injection hg'
          have hfr1 := hW'.free i
          have HP := Lib.hid (HI1.out.put (u := .string (markN n i)) HRr.out HAp.out hil rfl rfl)
          clear hW' hg' k1 hu0 HID HI1
          refine hK.out _ _ (hS1.out) (fun _ => trivial) ?_
          clear hK K
          go_simp
          refine upTo_take (i := 11) (v := ?v11) rfl (by kernel_rfl) (by kernel_rfl) (by kernel_rfl) (fun _ _ _ h => by first | exact h | exact absurd h.1 (fun e => by cases e)) (by decide) (Or.inl ⟨by rfl, ?hy11⟩) (hS1.out) (fun _ => trivial) ?rest11
          case hy11 =>
            intro w hSw
            clear hSw
            go_simp
            try with_reducible rfl
          go_simp
          have hS2 : Hid ((W1.setCell ⟨g, i, none⟩ (.string (markN n i))).cell? ⟨p, 6, none⟩ = some (.slice (some ⟨gO, 0, none⟩) rows.length capO) ∧ (W1.setCell ⟨g, i, none⟩ (.string (markN n i))).cell? ⟨gO, n, none⟩ = some (.slice (some ⟨g, 0, none⟩) rl rc)) := Lib.hid (by
            have h1 := HF.out.keeps HP.out.keeps
            exact ⟨h1.hp, h1.hO n _ HRr.out⟩)
          refine upTo_next (i := 12) (by kernel_rfl) rfl ?_
          intro K hK
          go_simp
          refine hK.out _ _ (hS2.out) (fun h => absurd h (by decide)) ?_
          clear hK K
          go_simp
          refine upTo_done (by kernel_rfl) ?_ _
          go_wp2_with fail
          go_roundw
          case rel => exact ⟨i + 1, by omega, by go_num, HP⟩
          case measure => (simp [intOf] <;> omega)
        · obtain rfl : i = rl := by omega
          have HM := Lib.hid (HI.out.leave HRr.out)
          clear HI
          go_wp2_with fail
          go_roundw
          case rel => exact ⟨n + 1, by omega, by go_num, HM⟩
          case measure => (simp [intOf] <;> omega)
    · obtain rfl : n = rows.length := by omega
      have HG0 := Lib.hid (Going.start (eo := 23) (base := wr.heap.size) HM.out rfl)
      have hb0 := HM.out.keeps.size
      clear hlt HM HFr
      go_wp2_with fail
      clear c0
      generalize wr.heap.size = base at *
      go_loopw [5, 6, 7] (fun vo vm v wq => ∃ (n : Nat) (ov mv : Value) (ones mores : List Value) (D : Nat → Prop), n ≤ rows.length ∧ v = .int .i64 n ∧ ov = vo ∧ mv = vm ∧ Hid (Going mkT 9 23 1 base rows w wq n ov mv ones mores D)) (fun _ _ v _ => rows.length - (intOf v).toNat)
      case atStart => exact ⟨0, _, _, [], [], fun _ => False, by omega, rfl, rfl, rfl, HG0⟩
      case round =>
        clear HG0
        obtain ⟨n, ov, mv, ones, mores, D, hnr, rfl, rfl, rfl, HG⟩ := hrel
        have HFr := Lib.hid (HF.out.keeps HG.out.keeps)
        have c0 := HFr.out.hp
        by_cases hlt : n < rows.length
        · obtain ⟨r, hr⟩ : ∃ r, rows[n]? = some r := ⟨_, List.getElem?_eq_getElem hlt⟩
          have c1 := HFr.out.hO n r hr
          have HI0 := Lib.hid (HG.out.enter HAp.out hr)
          have hrl := HL.out n r hr
          have HRr := Lib.hid hr
          obtain ⟨ra, rl, rc⟩ := r
          clear HG hr HFr
          go_wp2_with fail
          clear c0 c1
          go_loopw [5, 8, 9] (fun vo vl v wq => ∃ (m c lcap : Nat) (lA : Option Addr) (ones : List Value) (E : Nat → Prop), m ≤ 70 ∧ v = .int .i64 ((rl : Int) + (m : Int)) ∧ vl = .slice lA (rl + m) lcap ∧ c = (if m = 0 then n else n + 1) ∧ Hid (GoingIn mkT 9 23 1 base rows w wq n m c vo mv vl ones mores D E ⟨ra, rl, rc⟩)) (fun _ _ v _ => (rl : Int).toNat + 70 - (intOf v).toNat)
          case atStart => exact ⟨0, n, rc, ra, ones, _, by omega, by simp, rfl, rfl, HI0⟩
          case round =>
            clear HI0
            obtain ⟨m, c, lcap, lA, ones, E, hm, rfl, rfl, hc, HI⟩ := hrel
            have HFr := Lib.hid (HF.out.keeps HI.out.keeps)
            have c0 := HFr.out.hp
            have c1 := HFr.out.hO n _ HRr.out
            clear HFr
            obtain ⟨wq, rfl⟩ : ∃ wq : World, wq = wr := ⟨_, rfl⟩
            by_cases hm0 : m = 0
            · subst hm0
              obtain rfl : c = n := by simpa using hc
              clear hc hm
              go_wp2_with fail
              refine (textB_any c rl _ _ rfl (by simp) wq (by omega) (by omega) (HPw.out _ HI.out.keeps)).mono ?_
              rintro e wz ⟨rfl, k1⟩
              replace HI := Lib.hid (HI.out.past k1)
              clear k1
              have own0 : Hid (wz.ownsRow 0 9 1 (.slice lA rl lcap) rl (marks mkT c rl)) := Lib.hid HI.out.own
              go_wp2_with (first
                | (at_builtin; (refine wpList_append_cells _ rfl (.tmp 78) (.tmp 82) 23 rfl 0 9 (.string ⟨#[]⟩) 1 16 Tryz.underlying23 info_strB rfl (by decide) _ (rl) _ rfl (own0.out.alloc _) (wz.heap.size + 1) (some ⟨wz.heap.size, 0, none⟩) 1 1 (mkT c rl) rfl (by exact Lies.row (t := 9) (fr := (0, 0)) (heap_alloc_new wz _) (by simp)) rfl (by simp [mkT, Value.oneCell']) (by unfold maxLen; omega) (by omega) (by simp) ?_); intro A' cap' w1 h1 h2 h3 _ h4; obtain ⟨E1, hI1⟩ := HI.out.pushed mkT_length h1 h2 h3 h4; have HI1 := Lib.hid hI1; have HF1 := Lib.hid (HF.out.keeps hI1.keeps); clear h1 h2 h3 h4 hI1 c0 c1; have d0 := HF1.out.hp; have d1 := HF1.out.hO c _ HRr.out)
                | (at_builtin; (refine wpList_append_cells _ rfl (.tmp 94) (.tmp 96) 51 rfl base 23 (.slice none 0 0) 1 24 Tryz.underlying51 info_strsB rfl (by decide) _ c _ rfl (HI1.out.one.alloc _) (w1.heap.size + 1) (some ⟨w1.heap.size, 0, none⟩) 1 1 [.slice A' (rl + 1) cap'] rfl (Lies.row (t := 23) (fr := (0, 0)) (heap_alloc_new w1 _) (by simp)) rfl (by simp [Value.oneCell']) (by unfold maxLen; omega) (by omega) (by have := HI1.out.big; simp; omega) ?_); intro A2 cap2 w2 h1 h2 h3 _ h4; have HI2 := Lib.hid (HI1.out.took hb0 rfl (pushed_of HI1.out.one h1 h2 h3 h4)); clear h1 h2 h3 h4 HI1))
              go_roundw
              case rel => exact ⟨1, c + 1, cap', A', _, E1, by omega, by go_num, rfl, rfl, HI2⟩
              case measure => (simp [intOf] <;> omega)
            · obtain rfl : c = n + 1 := by rw [if_neg hm0] at hc; exact hc
              clear hc
              by_cases hm7 : m < 70
              · have hne : ¬ ((rl : Int) + (m : Int) = (rl : Int)) := by omega
                go_wp2_with fail
                refine (textB_any n (rl + m) _ _ rfl (by rw [Int.natCast_add]) wq (by omega) (by omega) (HPw.out _ HI.out.keeps)).mono ?_
                rintro e wz ⟨rfl, k1⟩
                replace HI := Lib.hid (HI.out.past k1)
                clear k1
                go_wp2_with (at_builtin; (refine wpList_append_cells _ rfl (.tmp 78) (.tmp 82) 23 rfl 0 9 (.string ⟨#[]⟩) 1 16 Tryz.underlying23 info_strB rfl (by decide) _ (rl + m) _ rfl (HI.out.own.alloc _) (wz.heap.size + 1) (some ⟨wz.heap.size, 0, none⟩) 1 1 (mkT n (rl + m)) rfl (by exact Lies.row (t := 9) (fr := (0, 0)) (heap_alloc_new wz _) (by simp)) rfl (by simp [mkT, Value.oneCell']) (by unfold maxLen; omega) (by omega) (by simp) ?_); intro A' cap' w1 h1 h2 h3 _ h4; obtain ⟨E1, hI1⟩ := HI.out.pushed mkT_length h1 h2 h3 h4; have HI1 := Lib.hid hI1; have HF1 := Lib.hid (HF.out.keeps hI1.keeps); clear h1 h2 h3 h4 hI1 c0 c1; have d0 := HF1.out.hp; have d1 := HF1.out.hO n _ HRr.out)
                go_roundw
                case rel => exact ⟨m + 1, n + 1, cap', A', _, E1, by omega, by go_num, rfl, rfl, HI1⟩
                case measure => (simp [intOf] <;> omega)
              · obtain rfl : m = 70 := by omega
                clear hm hm0 hm7
                go_wp2_with (at_builtin; (refine wpList_append_cells _ rfl (.tmp 98) (.tmp 100) 51 rfl base 23 (.slice none 0 0) 1 24 Tryz.underlying51 info_strsB rfl (by decide) _ n _ rfl (HI.out.more.alloc _) (wq.heap.size + 1) (some ⟨wq.heap.size, 0, none⟩) 1 1 [.slice lA (rl + 70) lcap] rfl (Lies.row (t := 23) (fr := (0, 0)) (heap_alloc_new wq _) (by simp)) rfl (by simp [Value.oneCell']) (by unfold maxLen; omega) (by omega) (by have := HI.out.big; simp; omega) ?_); intro A2 cap2 w2 h1 h2 h3 _ h4; have HG := Lib.hid (HI.out.leave HRr.out hb0 rfl (pushed_of HI.out.more h1 h2 h3 h4)); clear h1 h2 h3 h4 HI)
                go_roundw
                case rel => exact ⟨n + 1, _, _, _, _, _, by omega, by go_num, rfl, rfl, HG⟩
                case measure => (simp [intOf] <;> omega)
        · obtain rfl : n = rows.length := by omega
          clear hlt hb0
          obtain ⟨wq, rfl⟩ : ∃ wq : World, wq = wr := ⟨_, rfl⟩
          obtain ⟨mA, mcap, rfl, _, _⟩ := own_slice HG.out.more
          obtain ⟨oA, ocap, rfl, _, _⟩ := own_slice HG.out.one
          have HLm := Lib.hid (own_lies HG.out.more)
          have HLo := Lib.hid (own_lies HG.out.one)
          have HPk : Hid (∀ W, Keeps (fun _ => False) wq W → Pow W) := Lib.hid (fun W hW => HPw.out W (HG.out.keeps.trans (hW.mono (fun _ _ h => h.elim))))
          go_wp2_with fail
          clear c0
          go_loopw [10] (fun v wr => ∃ n : Nat, n ≤ rows.length ∧ v = .int .i64 n ∧ Hid (Keeps (fun _ => False) wq wr)) (fun v _ => rows.length - (intOf v).toNat)
          case atStart => exact ⟨0, by omega, rfl, Lib.hid (Keeps.refl _ _)⟩
          case round =>
            obtain ⟨n, hn2, rfl, HK⟩ := hrel
            by_cases hlt : n < rows.length
            · obtain ⟨r, hr⟩ : ∃ r, rows[n]? = some r := ⟨_, List.getElem?_eq_getElem hlt⟩
              obtain ⟨h1, ⟨a, c, h2, h3⟩, a', c', h4, h5⟩ := HG.out.did n hlt r hr
              obtain ⟨gm, om, rfl, hgm, hcm⟩ := HLm.out n _ h4
              obtain ⟨go, oo, rfl, hgo, hco⟩ := HLo.out n _ h2
              have hrl := HL.out n r hr
              have c0 := HFr.out.hp
              have c1 := HFr.out.hO n r hr
              have HLT := Lib.hid HG.out.lt
              have hF := HFr.out.lt
              obtain ⟨ra, rl, rc⟩ := r
              have H1 := Lib.hid h1; have H3 := Lib.hid h3; have H5 := Lib.hid h5
              have HC : Hid (∀ W, Keeps (fun _ => False) wq W → W.cell? ⟨p, 6, none⟩ = some (.slice (some ⟨gO, 0, none⟩) rows.length capO) ∧ W.cell? ⟨gO, n, none⟩ = some (.slice ra rl rc) ∧ W.cell? ⟨gm, om + n, none⟩ = some (.slice a' (rl + 70) c') ∧ W.cell? ⟨go, oo + n, none⟩ = some (.slice a (rl + 1) c)) := Lib.hid (fun W hW => ⟨(hW.cell hF.1 id).trans c0, (hW.cell hF.2 id).trans c1, (hW.cell hgm id).trans hcm, (hW.cell hgo id).trans hco⟩)
              clear h1 h2 h3 h4 h5 hr c0 c1 hcm hco hgm hgo
              obtain ⟨c0, c1, c2, c3⟩ := HC.out wr HK.out
              go_wp2_with fail
              clear c0 c1 c2 c3
              go_loopw [11] (fun v wr => ∃ i : Nat, i ≤ rl + 70 ∧ v = .int .i64 i ∧ Hid (Keeps (fun _ => False) wq wr)) (fun v _ => rl + 70 - (intOf v).toNat)
              case atStart => exact ⟨0, by omega, rfl, HK⟩
              case round =>
                clear HK
                obtain ⟨i, hi, rfl, HK⟩ := hrel
                obtain ⟨c0, c1, c2, c3⟩ := HC.out wr HK.out
                by_cases hil : i < rl + 70
                · obtain ⟨b5, rfl, hD5, d5⟩ := H5.out i _ (mkT_at n _ i hil)
                  have HB5 : Hid (∀ W, Keeps (fun _ => False) wq W → W.cell? ⟨b5, i, none⟩ = some (.string (markN n i))) := Lib.hid (fun W hW => (hW.cell (HLT.out _ hD5) id).trans d5)
                  have q5 := HB5.out wr HK.out
                  clear d5 hD5
                  rcases Nat.lt_trichotomy i rl with h | h | h
                  · obtain ⟨b1, rfl, hD, d1⟩ := H1.out i _ (mkT_at n _ i h)
                    have q1 : wr.cell? ⟨b1, i, none⟩ = some (.string (markN n i)) := (HK.out.cell (HLT.out _ hD) id).trans d1
                    clear d1 hD
                    have hne : ¬ ((i : Int) = (rl : Int)) := by omega
                    go_wp2_with fail
                    refine (textB_any n i _ _ rfl rfl wr (by omega) (by omega) (HPk.out _ HK.out)).mono ?_
                    rintro e w2 ⟨rfl, k1⟩
                    have K2 := Lib.hid (HK.out.trans k1)
                    obtain ⟨e0, e1, e2, e3⟩ := HC.out w2 K2.out
                    have y5 := HB5.out w2 K2.out
                    clear c0 c1 c2 c3 q5 k1 q1
                    go_wp2_with fail
                    refine (textB_any n i _ _ rfl rfl w2 (by omega) (by omega) (HPk.out _ K2.out)).mono ?_
                    rintro e w3 ⟨rfl, k1⟩
                    have K3 := Lib.hid (K2.out.trans k1)
                    clear e0 e1 e2 e3 y5 k1 K2 HK
                    go_wp2_with fail
                    go_roundw
                    case rel => exact ⟨i + 1, by omega, by go_num, K3⟩
                    case measure => (simp [intOf] <;> omega)
                  · obtain rfl : i = rl := h
                    obtain ⟨b3, rfl, hD, d1⟩ := H3.out i _ (mkT_at n _ i (by omega))
                    have q1 : wr.cell? ⟨b3, i, none⟩ = some (.string (markN n i)) := (HK.out.cell (HLT.out _ hD) id).trans d1
                    clear d1 hD
                    go_wp2_with fail
                    refine (textB_any n i _ _ rfl rfl wr (by omega) (by omega) (HPk.out _ HK.out)).mono ?_
                    rintro e w2 ⟨rfl, k1⟩
                    have K2 := Lib.hid (HK.out.trans k1)
                    obtain ⟨e0, e1, e2, e3⟩ := HC.out w2 K2.out
                    have y5 := HB5.out w2 K2.out
                    clear c0 c1 c2 c3 q5 k1 q1
                    go_wp2_with fail
                    refine (textB_any n i _ _ rfl rfl w2 (by omega) (by omega) (HPk.out _ K2.out)).mono ?_
                    rintro e w3 ⟨rfl, k1⟩
                    have K3 := Lib.hid (K2.out.trans k1)
                    clear e0 e1 e2 e3 y5 k1 K2 HK
                    go_wp2_with fail
                    go_roundw
                    case rel => exact ⟨i + 1, by omega, by go_num, K3⟩
                    case measure => (simp [intOf] <;> omega)
                  · have hne : ¬ ((i : Int) = (rl : Int)) := by omega
                    go_wp2_with fail
                    refine (textB_any n i _ _ rfl rfl wr (by omega) (by omega) (HPk.out _ HK.out)).mono ?_
                    rintro e w2 ⟨rfl, k1⟩
                    have K2 := Lib.hid (HK.out.trans k1)
                    obtain ⟨e0, e1, e2, e3⟩ := HC.out w2 K2.out
                    have y5 := HB5.out w2 K2.out
                    clear c0 c1 c2 c3 q5 k1 
                    go_wp2_with fail
                    refine (textB_any n i _ _ rfl rfl w2 (by omega) (by omega) (HPk.out _ K2.out)).mono ?_
                    rintro e w3 ⟨rfl, k1⟩
                    have K3 := Lib.hid (K2.out.trans k1)
                    clear e0 e1 e2 e3 y5 k1 K2 HK
                    go_wp2_with fail
                    go_roundw
                    case rel => exact ⟨i + 1, by omega, by go_num, K3⟩
                    case measure => (simp [intOf] <;> omega)
                · obtain rfl : i = rl + 70 := by omega
                  go_wp2_with fail
                  go_roundw
                  case rel => exact ⟨n + 1, by omega, by go_num, HK⟩
                  case measure => (simp [intOf] <;> omega)
            · obtain rfl : n = rows.length := by omega
              have HK2 := Lib.hid (HG.out.keeps.trans (HK.out.mono (T := blks rows) (fun _ _ h => h.elim)))
              go_wp2_with fail
              go_ret
              exact ⟨rfl, HK2.out⟩
end Go.Proofs.YtcmbdnjcfneinaaGreatDoor
