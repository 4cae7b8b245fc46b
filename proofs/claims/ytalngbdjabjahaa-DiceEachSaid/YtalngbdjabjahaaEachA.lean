/-
  DiceEach: the walk of answersOf. Conditions: the list is an order's length at most 4096.
-/
import Derived.Test.YtalngbdjabjahaaDiceE
namespace Go.Proofs.Ytalngbdjabjahaa
open Go.RowKit
/-- A row whose first cells are the numbers l. -/
def Row (w : World) (g : Nat) (l : List Int) : Prop := ∃ cs, Whole w g 3 cs ∧ ∀ k, k < l.length → cs[k]? = some (.int .i64 (l.getD k 0))
section
variable {w w' : World} {g : Nat} {l : List Int}
theorem Row.cell (h : Row w g l) {k : Nat} (hk : k < l.length) : w.cell? ⟨g, k, none⟩ = some (.int .i64 (l.getD k 0)) := by
  obtain ⟨cs, hw, hc⟩ := h; rw [hw.cellAt]; exact hc k hk
theorem Row.free (h : Row w g l) (k : Nat) : w.frozen? ⟨g, k, none⟩ = false := by obtain ⟨cs, hw, _⟩ := h; exact hw.free k
theorem Row.inside (h : Row w g l) : g < w.heap.size := by obtain ⟨cs, hw, _⟩ := h; exact hw.inside
theorem Row.alloc (h : Row w g l) (o : Obj) : Row (w.alloc o) g l := by obtain ⟨cs, hw, hc⟩ := h; exact ⟨cs, hw.alloc o, hc⟩
theorem Row.drewN (h : Row w g l) (n : Nat) : Row (w.drewN n) g l := h
theorem Row.grown {row : Option Nat} (h : Row w g l) (hg : w.grownBy w' row) (hr : ∀ k, row = some k → g < k) : Row w' g l := by obtain ⟨cs, hw, hc⟩ := h; exact ⟨cs, hw.grown hg hr, hc⟩
theorem Row.put (h : Row w g l) {i : Nat} (hi : i < l.length) (x : Int) : Row (w.setCell ⟨g, i, none⟩ (.int .i64 x)) g (l.set i x) := by
  obtain ⟨cs, hw, hc⟩ := h
  refine ⟨_, hw.put i _, fun k hk => ?_⟩
  have hk' : k < l.length := by simpa using hk
  rw [Array.getElem?_setIfInBounds, List.getD_eq_getElem?_getD, List.getElem?_set]
  by_cases e : i = k
  · subst e
    have hlt : i < cs.size := by
      rcases Nat.lt_or_ge i cs.size with h | h
      · exact h
      · have := hc i hi; rw [Array.getElem?_eq_none h] at this; cases this
    rw [if_pos rfl, if_pos hlt, if_pos rfl, if_pos hi]; rfl
  · rw [if_neg e, if_neg e, ← List.getD_eq_getElem?_getD]; exact hc k hk'
end
theorem row_of {w : World} {base : Nat} {A : Option Addr} {n cap : Nat} {l : List Int} (h : w.ownsRow base 3 1 (.slice A n cap) n (l.map (Value.int .i64))) (hn : 0 < n) : ∃ g, A = some ⟨g, 0, none⟩ ∧ base ≤ g ∧ Row w g l ∧ l.length = n := by
  obtain ⟨g, cs, e, hb, hw, hs, hc, ht⟩ := own_whole h hn
  have hl : l.length = n := by have := own_length h; simpa using this
  refine ⟨g, e, hb, ⟨cs, hw, fun k hk => ?_⟩, hl⟩
  have h1 : (cs.toList.take n)[k]? = (l.map (Value.int .i64))[k]? := by rw [ht]
  rw [List.getElem?_take, if_pos (by omega), Array.getElem?_toList] at h1
  rw [h1, List.getElem?_map, List.getD_eq_getElem?_getD, List.getElem?_eq_getElem hk]; rfl
theorem rng_snoc (k : Nat) : (rng k).map (Value.int .i64) ++ [.int .i64 (k : Int)] = (rng (k + 1)).map (Value.int .i64) := by
  unfold rng; rw [List.range_succ]; simp
def ansCells (js : List Int) : List Value := js.flatMap fun j => [.int .i64 j, .bool false]
theorem ansCells_snoc (js : List Int) (j : Int) : ansCells js ++ [.int .i64 j, .bool false] = ansCells (js ++ [j]) := by simp [ansCells]
theorem info_ans : ∃ i, Try.prog.info? 43 = some i ∧ i.zero = some (.agg #[.int .i64 0, .bool false]) ∧ i.size = 2 ∧ i.bytes = 16 := by
  have h : (Try.prog.info? 43).map (fun i => (i.zero, i.size, i.bytes)) = some (some (.agg #[.int .i64 0, .bool false]), 2, 16) := by kernel_rfl
  obtain ⟨i, hi, e⟩ := Option.map_eq_some_iff.1 h
  simp only [Prod.mk.injEq] at e
  exact ⟨i, hi, e.1, e.2.1, e.2.2⟩
theorem info_intE : (Try.prog.info? 3).map (fun i => (i.zero, i.size, i.bytes)) = some (some (.int .i64 0), 1, 8) := by kernel_rfl
theorem addr_add (b o i : Nat) : (⟨b, o, none⟩ : Addr).add i = ⟨b, o + i, none⟩ := by unfold Addr.add; split <;> simp_all
theorem new_two (w : World) (u v : Value) (t : TypeId) : ∀ (j : Nat) (x : Value), [u, v][j]? = some x → (w.alloc (.cells #[u, v] t)).cell? ((⟨w.heap.size, 0, none⟩ : Addr).add j) = some x := by
  intro j x h
  rw [addr_add, Nat.zero_add, (Whole.made w t #[u, v]).cellAt j, ← h]
  simp
/-- What answersOf leaves. -/
def AnsPost (js : List Int) (w : World) (e : Ending) (w' : World) : Prop := ∃ A' cap', e = .returned (.slice A' js.length cap') ∧ w'.ownsRow w.heap.size 43 2 (.slice A' js.length cap') js.length (ansCells js) ∧ Keeps (fun _ => False) w w'
theorem ansPost_of {js done : List Int} {w w' : World} {base : Nat} {A' : Option Addr} {cap' : Nat} (h : done = js) (hb : w.heap.size ≤ base) (hO : w'.ownsRow base 43 2 (.slice A' done.length cap') done.length (ansCells done)) (hB : Below w.heap.size w w') : AnsPost js w (.returned (.slice A' done.length cap')) w' := by
  subst h
  refine ⟨A', cap', rfl, ⟨hO.1, ?_⟩, keepsAll hB⟩
  rcases hO.2 with h | ⟨g, cap, cur, h1, h2, h3⟩
  · exact .inl h
  · exact .inr ⟨g, cap, cur, h1, Nat.le_trans hb h2, h3⟩
theorem ans_next {w wo w5 w6 : World} {g base : Nat} {lcur done : List Int} {j : Nat} {A2 A3 : Option Addr} {cap2 cap3 : Nat} (hR : Row w5 g lcur) (hO : w5.ownsRow base 43 2 (.slice A2 done.length cap2) done.length (ansCells done)) (hB : Below w.heap.size w w5)
    (hg : g < wo.heap.size) (hs : base ≤ w5.heap.size) (hbase : w.heap.size ≤ base) (hgr : (w5.alloc (.cells #[.int .i64 j, .bool false] 43)).grownBy w6 (Value.slice A2 done.length cap2).ownBlock) (hown : w6.ownsRow base 43 2 (.slice A3 (done.length + 1) cap3) (done.length + 1) (ansCells done ++ [.int .i64 j, .bool false])) (hbo : base = wo.heap.size := by rfl) :
    Row w6 g lcur ∧ Below w.heap.size w w6 ∧ w6.ownsRow base 43 2 (.slice A3 (done ++ [(j : Int)]).length cap3) (done ++ [(j : Int)]).length (ansCells (done ++ [(j : Int)])) ∧ base ≤ w6.heap.size := by
  subst hbo
  have hlt : ∀ b, (Value.slice A2 done.length cap2).ownBlock = some b → wo.heap.size ≤ b := fun b hb => (hO.lt b hb).1
  refine ⟨(hR.alloc _).grown hgr (fun b hb => Nat.lt_of_lt_of_le hg (hlt b hb)), (hB.alloc hB.size _).grown hgr (Nat.le_trans hB.size (by simp)) (fun b hb => Nat.le_trans hbase (hlt b hb)), ?_, Nat.le_trans hs (Nat.le_trans (by simp) hgr.size)⟩
  rw [← ansCells_snoc, List.length_append]
  exact hown
theorem row_two {w : World} {g i j : Nat} {l : List Int} (h : Row w g l) (hi : i < l.length) (hj : j < l.length) : w.cell? ⟨g, i, none⟩ = some (.int .i64 (l.getD i 0)) ∧ w.cell? ⟨g, j, none⟩ = some (.int .i64 (l.getD j 0)) ∧ w.frozen? ⟨g, i, none⟩ = false ∧ w.frozen? ⟨g, j, none⟩ = false ∧ (w.setCell ⟨g, i, none⟩ (.int .i64 (l.getD j 0))).cell? ⟨g, j, none⟩ = some (.int .i64 (l.getD j 0)) ∧ (w.setCell ⟨g, i, none⟩ (.int .i64 (l.getD j 0))).frozen? ⟨g, j, none⟩ = false := by
  refine ⟨h.cell hi, h.cell hj, h.free i, h.free j, ?_, (h.put hi _).free j⟩
  rw [(h.put hi (l.getD j 0)).cell (by simpa using hj)]
  congr 2
  rw [List.getD_eq_getElem?_getD, List.getElem?_set]
  by_cases e : i = j
  · subst e; rw [if_pos rfl, if_pos hi]; rfl
  · rw [if_neg e, List.getD_eq_getElem?_getD]
theorem row_swp {w : World} {g i j : Nat} {l : List Int} (h : Row w g l) (hi : i < l.length) (hj : j < l.length) : Row ((w.setCell ⟨g, i, none⟩ (.int .i64 (l.getD j 0))).setCell ⟨g, j, none⟩ (.int .i64 (l.getD i 0))) g (swp l i j) :=
  (h.put hi (l.getD j 0)).put (by simpa using hj) (l.getD i 0)
set_option maxHeartbeats 4000000 in
set_option maxRecDepth 100000 in
theorem answersOf_any (o js : List Int) (A : Option Addr) (B cap : Nat) (w : World) (hl : Lies w B A (o.map (Value.int .i64))) (hB : B ≤ w.heap.size) (hm : o.length ≤ 4096) (hjs : Hid (backL (o.length - 1) (rng o.length) o = js)) :
    Calls Try.prog 13 #[.slice A o.length cap] w (AnsPost js w) := by
  have HL := Lib.hid hl; clear hl
  obtain ⟨ia, ia1, ia2, ia3, ia4⟩ := info_ans
  have IA1 := Lib.hid ia1; have IA2 := Lib.hid ia2; have IA3 := Lib.hid ia3; have IA4 := Lib.hid ia4
  clear ia1 ia2 ia3 ia4
  go_enter Try.func13, Try.ntmps13
  go_wp2_with fail
  go_loopw [3, 5] (fun vl vi wr => ∃ (k : Nat) (A1 : Option Addr) (cap1 : Nat), k ≤ o.length ∧ vi = .int .i64 k ∧ vl = .slice A1 k cap1 ∧ Hid (wr.ownsRow w.heap.size 3 1 (.slice A1 k cap1) k ((rng k).map (Value.int .i64))) ∧ Hid (Below w.heap.size w wr)) (fun _ vi _ => o.length - (intOf vi).toNat)
  case atStart => exact ⟨0, none, 0, by omega, rfl, rfl, Lib.hid (World.ownsRow_nil _ _ _ _), Lib.hid (Below.refl _ _)⟩
  case round =>
    obtain ⟨k, A1, cap1, hk, rfl, rfl, HO, HB⟩ := hrel
    by_cases hlt : k < o.length
    · go_wp2_with (at_builtin; go_must (refine wpList_append_lies _ rfl (.tmp 15) (.tmp 17) 27 rfl w.heap.size 3 (.int .i64 0) 8 Try.underlying27 info_intE rfl _ k _ rfl (HO.out.alloc _) (wr.heap.size + 1) (some ⟨wr.heap.size, 0, none⟩) 1 1 [.int .i64 k] rfl (Lies.row (t := 3) (fr := (0, 0)) (heap_alloc_new wr _) (by simp)) rfl (by simp [Value.oneCell']) (by unfold maxLen; omega) (by omega) (by have := HB.out.size; simp; omega) ?_); intro A' cap' w1 hown' hgrow _ _)
      rw [rng_snoc] at hown'
      have HO' := Lib.hid hown'
      have HB' : Hid (Below w.heap.size w w1) := Lib.hid ((HB.out.alloc HB.out.size _).grown hgrow (Nat.le_trans HB.out.size (by simp)) (fun b hb => (HO.out.lt b hb).1))
      clear hown' hgrow
      go_roundw
      case rel => exact ⟨k + 1, A', cap', by omega, by go_num, rfl, HO', HB'⟩
      case measure => simp [intOf]; omega
    · have hkk := Lib.hid (show k = o.length by omega)
      by_cases hz : k = 0
      · have HR : Hid ([] = js) := Lib.hid (by
          have ho : o = [] := List.length_eq_zero_iff.1 (by rw [← hkk.out]; exact hz)
          rw [← hjs.out, ho]; rfl)
        have hlen : (o.length : Int) < 1 := by omega
        clear hz
        go_wp2_with fail
        obtain ⟨wo, rfl⟩ : ∃ wo : World, wo = wr := ⟨_, rfl⟩
        go_loopw [4, 6] (fun vo vi wr => vo = .slice none 0 0 ∧ vi = .int .i64 ((o.length : Int) - 1) ∧ wr = wo) (fun _ _ _ => 0)
        case atStart => exact ⟨rfl, rfl, rfl⟩
        case round =>
          obtain ⟨rfl, rfl, rfl⟩ := hrel
          go_wp2_with fail
          go_ret
          exact ansPost_of (base := w.heap.size) HR.out (Nat.le_refl _) (World.ownsRow_nil _ _ _ _) HB.out
      · have hk0 : 0 < k := by omega
        obtain ⟨g, rfl, hg, hrow, hrl⟩ := row_of HO.out hk0
        have HRow := Lib.hid hrow; have HRL : Hid ((rng k).length = o.length) := Lib.hid (hrl.trans hkk.out)
        have HF : Hid ([] ++ backL (o.length - 1) (rng k) o = js) := Lib.hid (by rw [hkk.out, List.nil_append]; exact hjs.out)
        clear hrow hrl HO hjs hz
        have ho1 : 1 ≤ o.length := by omega
        have hrun := HB.out.size
        have hin := HRow.out.inside
        generalize rng k = l0 at *
        go_wp2_with fail
        obtain ⟨wo, rfl⟩ : ∃ wo : World, wo = wr := ⟨_, rfl⟩
        go_loopw [4, 6] (fun vo vi wr => ∃ (i : Nat) (done lcur : List Int) (A2 : Option Addr) (cap2 : Nat), i < o.length ∧ vi = .int .i64 i ∧ vo = .slice A2 done.length cap2 ∧ done.length + i < o.length ∧ Hid (lcur.length = o.length) ∧ Hid (done ++ backL i lcur o = js) ∧ Hid (Row wr g lcur) ∧ Hid (wr.ownsRow wo.heap.size 43 2 (.slice A2 done.length cap2) done.length (ansCells done)) ∧ Hid (Below w.heap.size w wr) ∧ wo.heap.size ≤ wr.heap.size) (fun _ vi _ => (intOf vi).toNat)
        case atStart => exact ⟨o.length - 1, [], l0, none, 0, by omega, i64_eq (by omega), rfl, by simp; omega, HRL, HF, HRow, Lib.hid (World.ownsRow_nil _ _ _ _), HB, Nat.le_refl _⟩
        case round =>
          clear HRL HF HRow HB
          obtain ⟨i, done, lcur, A2, cap2, hi, rfl, rfl, hdi, HRL, HF, HRow, HO, HB, hsz⟩ := hrel
          cases i with
          | zero =>
            have HJ : Hid (done = js) := Lib.hid (by have := HF.out; rw [backL, List.append_nil] at this; exact this)
            go_wp2_with fail
            go_ret
            exact ansPost_of HJ.out hrun HO.out HB.out
          | succ m =>
            have hlc := HRL.out
            obtain ⟨go, offo, rfl, hgo, hco⟩ := HL.out (m + 1) _ (map_get o (m + 1) hi)
            have hco' : wr.cell? ⟨go, offo + (m + 1), none⟩ = some (.int .i64 (o.getD (m + 1) 0)) := by
              rw [getD_get hi]; exact (HB.out.cell (p := ⟨go, offo + (m + 1), none⟩) (by show go < w.heap.size; omega)).trans hco
            have HF2 : Hid (done ++ (((lookFrom lcur (o.getD (m + 1) 0) (m + 1) 0 : Nat) : Int) :: backL m (swp lcur (m + 1) (lookFrom lcur (o.getD (m + 1) 0) (m + 1) 0)) o) = js) := HF
            clear HF hco
            generalize o.getD (m + 1) 0 = x at *
            have HLC := Lib.hid hlc; clear hlc
            go_wp2_with fail
            obtain ⟨wi, rfl⟩ : ∃ wi : World, wi = wr := ⟨_, rfl⟩
            go_loopw [7] (fun vj wr => ∃ j d : Nat, j ≤ m + 1 ∧ vj = .int .i64 j ∧ Hid (lookFrom lcur x (m + 1) 0 = lookFrom lcur x (m + 1 - j) j) ∧ wr = wi.drewN d) (fun vj _ => m + 1 - (intOf vj).toNat)
            case atStart => exact ⟨0, 0, by omega, rfl, Lib.hid rfl, rfl⟩
            case round =>
              obtain ⟨j, d, hj, rfl, HJ, rfl⟩ := hrel
              have hkb : o.length ≤ k := by have := hkk.out; omega
              by_cases hjl : j < m + 1
              · have cj : wi.cell? ⟨g, j, none⟩ = some (.int .i64 (lcur.getD j 0)) := HRow.out.cell (by rw [HLC.out]; omega)
                have hb2 : decide ((j : Int) < (m : Int) + 1) = true := by simp; omega
                by_cases hjx : lcur.getD j 0 = x
                · have HJ0 : Hid (lookFrom lcur x (m + 1) 0 = j) := Lib.hid (by
                    rw [HJ.out, show m + 1 - j = (m + 1 - (j + 1)) + 1 by omega, lookFrom, if_pos hjx])
                  rw [hjx] at cj
                  have hb1 : ((x : Int) != x) = false := by simp
                  clear hjx
                  go_wp2_with fail
                  go_quiet (fail)
                  clear cj hb1 hb2
                  rw [World.drewN_drewN]
                  have HR5 := Lib.hid (HRow.out.drewN (d + nq))
                  have HO5 : Hid ((wi.drewN (d + nq)).ownsRow wo.heap.size 43 2 (.slice A2 done.length cap2) done.length (ansCells done)) := HO
                  have HB5 := Lib.hid (belowN HB.out (d + nq))
                  have hsz5 : wo.heap.size ≤ (wi.drewN (d + nq)).heap.size := hsz
                  clear HRow HO HB hco'
                  generalize wi.drewN (d + nq) = w5 at *
                  go_wp2_with (at_builtin; go_must (refine wpList_append_own _ rfl (.tmp 42) (.tmp 45) 29 rfl wo.heap.size 43 ia (.agg #[.int .i64 0, .bool false]) 2 16 Try.underlying29 IA1.out IA2.out IA3.out IA4.out rfl (by decide) _ done.length _ rfl (HO5.out.alloc _) ⟨w5.heap.size, 0, none⟩ 1 1 [.int .i64 j, .bool false] rfl rfl (new_two w5 _ _ _) (by simp [Value.oneCell']) (by unfold maxLen; omega) (by omega) (by simp; omega) ?_); intro v' w6 hown' hgrow _; obtain ⟨A3, cap3, rfl, _, _⟩ := own_slice hown'; obtain ⟨hr6, hb6, ho6, hs6⟩ := ans_next HR5.out HO5.out HB5.out hin hsz5 hrun hgrow hown'; have HR6 := Lib.hid hr6; have HB6 := Lib.hid hb6; have HO6 := Lib.hid ho6; clear hr6 hb6 ho6 hgrow hown'; have hin6 := HR6.out.inside; obtain ⟨q0, q1, q2, q3, q4, q5⟩ := row_two HR6.out (i := m + 1) (j := j) (by rw [HLC.out]; omega) (by rw [HLC.out]; omega); have HSW := Lib.hid (row_swp HR6.out (i := m + 1) (j := j) (by rw [HLC.out]; omega) (by rw [HLC.out]; omega)); generalize lcur.getD (m + 1) 0 = y1 at *; generalize lcur.getD j 0 = y2 at *)
                  go_roundw
                  case rel =>
                    refine ⟨m, done ++ [(j : Int)], swp lcur (m + 1) j, A3, cap3, by omega, rfl, by rw [List.length_append]; rfl, by simp; omega, Lib.hid (by rw [swp_length]; exact HLC.out), Lib.hid ?_, HSW, Lib.hid (ownsRow_setCell_below (ownsRow_setCell_below HO6.out (by show g < wo.heap.size; omega) _) (by show g < wo.heap.size; omega) _), Lib.hid ((HB6.out.setCell hg _).setCell hg _), by simpa using hs6⟩
                    have h1 := HF2.out
                    rw [HJ0.out] at h1
                    rw [List.append_assoc]
                    exact h1
                  case measure => simp [intOf]
                · have HJ' : Hid (lookFrom lcur x (m + 1) 0 = lookFrom lcur x (m + 1 - (j + 1)) (j + 1)) := Lib.hid (by
                    rw [HJ.out, show m + 1 - j = (m + 1 - (j + 1)) + 1 by omega, lookFrom, if_neg hjx])
                  generalize lcur.getD j 0 = y at *
                  have hb1 : ((y : Int) != x) = true := by simp [hjx]
                  clear hjx
                  go_wp2_with fail
                  go_quiet (fail)
                  go_wp2_with fail
                  go_roundw
                  case rel => exact ⟨j + 1, _, by omega, by go_num, HJ', rfl⟩
                  case measure => simp [intOf]; omega
              · have HJ0 : Hid (lookFrom lcur x (m + 1) 0 = j) := Lib.hid (by
                  rw [HJ.out, show m + 1 - j = 0 by omega, lookFrom])
                have hb2 : decide ((j : Int) < (m : Int) + 1) = false := by simp; omega
                go_wp2_with fail
                go_quiet (fail)
                clear hb2
                rw [World.drewN_drewN]
                have HR5 := Lib.hid (HRow.out.drewN (d + nq))
                have HO5 : Hid ((wi.drewN (d + nq)).ownsRow wo.heap.size 43 2 (.slice A2 done.length cap2) done.length (ansCells done)) := HO
                have HB5 := Lib.hid (belowN HB.out (d + nq))
                have hsz5 : wo.heap.size ≤ (wi.drewN (d + nq)).heap.size := hsz
                clear HRow HO HB hco'
                generalize wi.drewN (d + nq) = w5 at *
                go_wp2_with (at_builtin; go_must (refine wpList_append_own _ rfl (.tmp 42) (.tmp 45) 29 rfl wo.heap.size 43 ia (.agg #[.int .i64 0, .bool false]) 2 16 Try.underlying29 IA1.out IA2.out IA3.out IA4.out rfl (by decide) _ done.length _ rfl (HO5.out.alloc _) ⟨w5.heap.size, 0, none⟩ 1 1 [.int .i64 j, .bool false] rfl rfl (new_two w5 _ _ _) (by simp [Value.oneCell']) (by unfold maxLen; omega) (by omega) (by simp; omega) ?_); intro v' w6 hown' hgrow _; obtain ⟨A3, cap3, rfl, _, _⟩ := own_slice hown'; obtain ⟨hr6, hb6, ho6, hs6⟩ := ans_next HR5.out HO5.out HB5.out hin hsz5 hrun hgrow hown'; have HR6 := Lib.hid hr6; have HB6 := Lib.hid hb6; have HO6 := Lib.hid ho6; clear hr6 hb6 ho6 hgrow hown'; have hin6 := HR6.out.inside; obtain ⟨q0, q1, q2, q3, q4, q5⟩ := row_two HR6.out (i := m + 1) (j := j) (by rw [HLC.out]; omega) (by rw [HLC.out]; omega); have HSW := Lib.hid (row_swp HR6.out (i := m + 1) (j := j) (by rw [HLC.out]; omega) (by rw [HLC.out]; omega)); generalize lcur.getD (m + 1) 0 = y1 at *; generalize lcur.getD j 0 = y2 at *)
                go_roundw
                case rel =>
                  refine ⟨m, done ++ [(j : Int)], swp lcur (m + 1) j, A3, cap3, by omega, rfl, by rw [List.length_append]; rfl, by simp; omega, Lib.hid (by rw [swp_length]; exact HLC.out), Lib.hid ?_, HSW, Lib.hid (ownsRow_setCell_below (ownsRow_setCell_below HO6.out (by show g < wo.heap.size; omega) _) (by show g < wo.heap.size; omega) _), Lib.hid ((HB6.out.setCell hg _).setCell hg _), by simpa using hs6⟩
                  have h1 := HF2.out
                  rw [HJ0.out] at h1
                  rw [List.append_assoc]
                  exact h1
                case measure => simp [intOf]
end Go.Proofs.Ytalngbdjabjahaa
