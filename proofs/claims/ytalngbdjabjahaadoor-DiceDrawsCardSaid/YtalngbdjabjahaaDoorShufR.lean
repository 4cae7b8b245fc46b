/-
  The document's Shuffle: the walk. Conditions: Go's own limits.
-/
import Derived.Test.YtalngbdjabjahaaDoorRowI
import Derived.Test.YtalngbdjabjahaaDoorShufL
namespace Go.Proofs.YtalngbdjabjahaaDoor
open Go.RowKit
theorem info_intR : (Tryd.prog.info? 3).map (fun i => (i.zero, i.size, i.bytes)) = some (some (.int .i64 0), 1, 8) := by kernel_rfl
set_option maxHeartbeats 1000000 in
theorem first_any (n : Nat) (hn : n ≤ 65536) (w : World) :
    Calls Tryd.prog 17 #[.int .i64 n] w fun e w' => ∃ A cap, e = .returned (.slice A n cap) ∧ w'.ownsRow w.heap.size 3 1 (.slice A n cap) n ((rng n).map (Value.int .i64)) ∧ Below w.heap.size w w' := by
  go_enter Tryd.func17, Tryd.ntmps17
  go_wp2_with fail
  go_loopw [3, 4] (fun vl vi wr => ∃ (k : Nat) (A1 : Option Addr) (cap1 : Nat), k ≤ n ∧ vi = .int .i64 k ∧ vl = .slice A1 k cap1 ∧ Hid (wr.ownsRow w.heap.size 3 1 (.slice A1 k cap1) k ((rng k).map (Value.int .i64))) ∧ Hid (Below w.heap.size w wr)) (fun _ vi _ => n - (intOf vi).toNat)
  case atStart => exact ⟨0, none, 0, by omega, rfl, rfl, Lib.hid (World.ownsRow_nil _ _ _ _), Lib.hid (Below.refl _ _)⟩
  case round =>
    obtain ⟨k, A1, cap1, hk, rfl, rfl, HO, HB⟩ := hrel
    by_cases hlt : k < n
    · go_wp2_with (at_builtin; go_must (refine wpList_append_lies _ rfl (.tmp 10) (.tmp 12) 27 rfl w.heap.size 3 (.int .i64 0) 8 Tryd.underlying27 info_intR rfl _ k _ rfl (HO.out.alloc _) (wr.heap.size + 1) (some ⟨wr.heap.size, 0, none⟩) 1 1 [.int .i64 k] rfl (Lies.row (t := 3) (fr := (0, 0)) (heap_alloc_new wr _) (by simp)) rfl (by simp [Value.oneCell']) (by unfold maxLen; omega) (by omega) (by have := HB.out.size; simp; omega) ?_); intro A' cap' w1 hown' hgrow _ _)
      rw [rng_snoc] at hown'
      have HO' := Lib.hid hown'
      have HB' : Hid (Below w.heap.size w w1) := Lib.hid ((HB.out.alloc HB.out.size _).grown hgrow (Nat.le_trans HB.out.size (by simp)) (fun b hb => (HO.out.lt b hb).1))
      clear hown' hgrow
      go_roundw
      case rel => exact ⟨k + 1, A', cap', by omega, by go_num, rfl, HO', HB'⟩
      case measure => simp [intOf]; omega
    · obtain rfl : k = n := by omega
      go_wp2_with fail
      go_ret
      exact ⟨A1, cap1, rfl, HO.out, HB.out⟩
/-- What the document's Shuffle leaves. -/
def RefPost (w : World) (R : Option (List Int) × List Int) (e : Ending) (w' : World) : Prop :=
  Below w.heap.size w w' ∧ ∃ As cs, Lies w' w'.heap.size As (R.2.map (Value.int .i64)) ∧
  match R.1 with
  | some l => ∃ A c, e = .returned (.tuple #[.slice A l.length c, .bool true, .slice As R.2.length cs]) ∧ Lies w' w'.heap.size A (l.map (Value.int .i64))
  | none => e = .returned (.tuple #[.slice none 0 0, .bool false, .slice As R.2.length cs])
section
variable {w w' : World} {R : Option (List Int) × List Int} {s : List Int} {As : Option Addr} {cs base : Nat}
theorem refPost_none {k : Nat} (hR : (none, s) = R) (hB : Below w.heap.size w w') (hk : s.length = k) (hO : w'.ownsRow base 2 1 (.slice As k cs) k (s.map (Value.int .i64))) :
    RefPost w R (.returned (.tuple #[.slice none 0 0, .bool false, .slice As k cs])) w' := by
  subst hR; subst hk; exact ⟨hB, As, cs, own_lies hO, rfl⟩
theorem refPost_some {l : List Int} {A : Option Addr} {c n : Nat} (hR : (some l, s) = R) (hB : Below w.heap.size w w') (hO : w'.ownsRow base 2 1 (.slice As s.length cs) s.length (s.map (Value.int .i64))) (hl : l.length = n) (hL : Lies w' w'.heap.size A (l.map (Value.int .i64))) :
    RefPost w R (.returned (.tuple #[.slice A n c, .bool true, .slice As s.length cs])) w' := by
  subst hR; subst hl; exact ⟨hB, As, cs, own_lies hO, A, c, rfl, hL⟩
end
theorem refShuffle_no (n : Int) (A : Option Addr) (m cap : Nat) (w : World) (h : n < 0 ∨ 65536 < n) :
    Calls Tryd.prog 7 #[.int .i64 n, .slice A m cap] w fun e w' => e = .returned (.tuple #[.slice none 0 0, .bool false, .slice none 0 0]) ∧ w = w' := by
  by_cases h0 : n < 0
  · go_enter Tryd.func7, Tryd.ntmps7
    go_wp2_with fail
    go_ret3
    exact ⟨rfl, rfl⟩
  · have h1 : 65536 < n := by omega
    go_enter Tryd.func7, Tryd.ntmps7
    go_wp2_with fail
    go_ret3
    exact ⟨rfl, rfl⟩
theorem lnxt_len (s : List Int) (k : Nat) : (lnxt s k).length = s.length + 1 := by simp [lnxt]
theorem row_lies {w : World} {g B : Nat} {l : List Int} (h : Row w g l) (hg : g < B) : Lies w B (some ⟨g, 0, none⟩) (l.map (Value.int .i64)) := fun k u hu => by
  have hk : k < l.length := by
    rcases Nat.lt_or_ge k (l.map (Value.int .i64)).length with h | h
    · simpa using h
    · rw [List.getElem?_eq_none h] at hu; cases hu
  refine ⟨g, 0, rfl, hg, ?_⟩
  rw [Nat.zero_add, h.cell hk, ← hu, List.getElem?_map, List.getElem?_eq_getElem hk, getD_get hk]; rfl
theorem ref_next {base gl m cs cap' : Nat} {As Al A' : Option Addr} {s l : List Int} {w wr w2 : World} {o : Obj} (hO : wr.ownsRow base 2 1 (.slice As s.length cs) s.length (s.map (Value.int .i64))) (hR : Row wr gl l) (hL : Lies wr base Al (l.map (Value.int .i64))) (hB : Below w.heap.size w wr)
    (hb : base ≤ wr.heap.size) (hg : gl < base) (hw : w.heap.size ≤ gl) (hown : w2.ownsRow base 2 1 (.slice A' (s.length + 1) cap') (s.length + 1) (s.map (Value.int .i64) ++ [.int .i64 ((m : Int) + 2)])) (hgrow : (wr.alloc o).grownBy w2 (Value.slice As s.length cs).ownBlock) :
    w2.ownsRow base 2 1 (.slice A' (s.length + 1) cap') (s.length + 1) ((lnxt s (m + 2)).map (Value.int .i64)) ∧ Row w2 gl l ∧ Lies w2 base Al (l.map (Value.int .i64)) ∧ Below w.heap.size w w2 ∧ base ≤ w2.heap.size ∧ (∀ b q, b < base → w2.cell? ⟨b, q, none⟩ = wr.cell? ⟨b, q, none⟩) := by
  have hlt : ∀ b, (Value.slice As s.length cs).ownBlock = some b → base ≤ b := fun b hb => (hO.lt b hb).1
  have hK : Keeps (fun b => base ≤ b) wr w2 := ((Keeps.refl _ wr).alloc _).grown hgrow (fun b hb _ => hlt b hb)
  have hbel : Below base wr w2 := hK.below hb (fun _ h => h)
  refine ⟨?_, ?_, hL.below hbel, hB.trans (hbel.mono (by omega)), Nat.le_trans hb hK.size, fun b q hq => hK.cell (Nat.lt_of_lt_of_le hq hb) (by omega)⟩
  · have e2 : (lnxt s (m + 2)).map (Value.int .i64) = s.map (Value.int .i64) ++ [.int .i64 ((m : Int) + 2)] := by simp [lnxt]
    rw [e2]; exact hown
  · obtain ⟨c, hw, hc⟩ := hR
    exact ⟨c, hw.keeps hK (by omega), hc⟩
set_option maxHeartbeats 4000000 in
set_option maxRecDepth 100000 in
theorem refShuffle_any (n : Nat) (F : Nat → Prop) (A : Option Addr) (cap : Nat) (L : List (Int × Bool)) (w : World) (hF : ∀ g, F g → g < w.heap.size) (hL : AnsLies w F A L) (hn : n ≤ 65536) (R : Option (List Int) × List Int) (hR : Hid (shuf (lans L) lnxt (n - 1) (rng n) [] = R)) :
    Calls Tryd.prog 7 #[.int .i64 n, .slice A L.length cap] w (RefPost w R) := by
  have HL := Lib.hid hL; have HFl := Lib.hid hF
  clear hL hF
  go_enter Tryd.func7, Tryd.ntmps7
  go_wp2_with fail
  refine (first_any n hn _).mono ?_
  rintro e w1 ⟨Al, capl, rfl, hO, hb⟩
  have HOl := Lib.hid hO; have HB1 := Lib.hid hb
  clear hO hb
  have hs1 := HB1.out.size
  obtain ⟨gl, hgl⟩ : ∃ gl : Nat, n < 2 ∨ Al = some ⟨gl, 0, none⟩ ∧ w.heap.size ≤ gl ∧ Row w1 gl (rng n) := by
    by_cases h : n < 2
    · exact ⟨0, .inl h⟩
    · obtain ⟨g, h1, h2, h3, _⟩ := row_of HOl.out (by omega)
      exact ⟨g, .inr ⟨h1, h2, h3⟩⟩
  have HLl : Hid (Lies w1 w1.heap.size Al ((rng n).map (Value.int .i64))) := Lib.hid (own_lies HOl.out)
  have HG := Lib.hid hgl; clear hgl HOl
  have hl0 := Lib.hid (rng_length n)
  generalize rng n = l0 at *
  obtain ⟨base, hbase⟩ : ∃ base : Nat, base = w1.heap.size := ⟨_, rfl⟩
  have HBa := Lib.hid hbase; clear hbase
  go_wp2_with fail
  go_loopw [7, 9] (fun va vi wr => ∃ (i : Nat) (l s : List Int) (As : Option Addr) (cs : Nat), i ≤ n ∧ vi = .int .i64 ((i : Int) - 1) ∧ va = .slice As s.length cs ∧ (s.length + i ≤ n) ∧ Hid (l.length = n) ∧ Hid (shuf (lans L) lnxt (i - 1) l s = R) ∧ Hid (n < 2 ∨ Al = some ⟨gl, 0, none⟩ ∧ w.heap.size ≤ gl ∧ gl < base ∧ Row wr gl l) ∧ Hid (Lies wr base Al (l.map (Value.int .i64))) ∧ Hid (wr.ownsRow base 2 1 (.slice As s.length cs) s.length (s.map (Value.int .i64))) ∧ Hid (Below w.heap.size w wr) ∧ base ≤ wr.heap.size) (fun _ vi _ => (intOf vi + 1).toNat)
  case atStart => exact ⟨n, l0, [], none, 0, by omega, rfl, rfl, by simp, hl0, hR, Lib.hid (by
      rcases HG.out with h | ⟨h1, h2, h3⟩
      · exact .inl h
      · exact .inr ⟨h1, h2, by rw [HBa.out]; exact h3.inside, h3⟩), Lib.hid (by rw [HBa.out]; exact HLl.out), Lib.hid (World.ownsRow_nil _ _ _ _), HB1, Nat.le_of_eq HBa.out⟩
  case round =>
    clear hl0 hR HG HLl HB1 hs1
    obtain ⟨i, l, s, As, cs, hi, rfl, rfl, hsn, hl, HR, HG, HLl, HO, HB, hsz⟩ := hrel
    by_cases h1 : i ≤ 1
    · have hz : i - 1 = 0 := by omega
      have HR' := HR.out
      rw [hz, shuf_zero] at HR'
      have HR'' := Lib.hid HR'; clear HR' hz HR
      go_wp2_with fail
      go_ret3
      exact refPost_some HR''.out HB.out HO.out hl.out (HLl.out.more hsz)
    · obtain ⟨m, rfl⟩ : ∃ m, i = m + 2 := ⟨i - 2, by omega⟩
      have HR1 : Hid (shuf (lans L) lnxt (m + 1) l s = R) := HR
      have hno := Lib.hid (fun h => (shuf_no (lans L) lnxt (i := m) (l := l) (s := s) h).symm.trans HR1.out)
      have hyes := Lib.hid (fun h => (shuf_yes (lans L) lnxt (i := m) (l := l) (s := s) h).symm.trans HR1.out)
      obtain ⟨hAl, hgw, hgb, hRow⟩ := HG.out.resolve_left (by omega)
      subst hAl
      have HRow := Lib.hid hRow; clear hRow HG HR HR1
      clear hi
      rw [show ((m + 2 : Nat) : Int) - 1 = (m : Int) + 1 by omega]
      cases hLs : L[s.length]? with
      | none =>
        have hle : L.length ≤ s.length := List.getElem?_eq_none_iff.1 hLs
        have hans : Hid (okAns (lans L s (m + 2)) (m + 1) = false) := Lib.hid (by unfold lans; rw [hLs]; rfl)
        clear hLs
        go_wp2_with (at_builtin; go_must (refine wpList_append_lies _ rfl (.tmp 29) (.tmp 32) 24 rfl base 2 (.int .i64 0) 8 Tryd.underlying24 info_i64 rfl _ s.length _ rfl (HO.out.alloc _) (wr.heap.size + 1) (some ⟨wr.heap.size, 0, none⟩) 1 1 [.int .i64 ((m : Int) + 2)] rfl (Lies.row (t := 2) (fr := (0, 0)) (heap_alloc_new wr _) (by simp)) rfl (by simp [Value.oneCell']) (by unfold maxLen; omega) (by omega) (by simp; omega) ?_); intro A' cap' w2 hown' hgrow _ _; obtain ⟨k1, k2, k3, k4, k5, k6⟩ := ref_next HO.out HRow.out HLl.out HB.out hsz hgb hgw hown' hgrow; have HO2 := Lib.hid k1; have HRow2 := Lib.hid k2; have HLl2 := Lib.hid k3; have HB2 := Lib.hid k4; clear k1 k2 k3 k4 hown' hgrow k6)
        go_ret3
        exact refPost_none (hno.out hans.out) HB2.out (lnxt_len _ _) HO2.out
      | some p =>
        have hlt : s.length < L.length := (List.getElem?_eq_some_iff.1 hLs).1
        obtain ⟨g, off, rfl, hfg, hg, p0, p1⟩ := HL.out _ _ hLs
        have hgw0 := HFl.out g hfg
        have hcB : ∀ q, wr.cell? ⟨g, q, none⟩ = w.cell? ⟨g, q, none⟩ := fun q => HB.out.cell (p := ⟨g, q, none⟩) hgw0
        replace p0 := (hcB _).trans p0
        replace p1 := (hcB _).trans p1
        clear hcB
        obtain ⟨z, b⟩ := p
        have hla : lans L s (m + 2) = (z, !b) := by unfold lans; rw [hLs]
        have HLA := Lib.hid hla; clear hla hLs
        have hgb2 : g < base := by omega
        cases b with
        | true =>
          have hans : Hid (okAns (lans L s (m + 2)) (m + 1) = false) := Lib.hid (by rw [HLA.out]; rfl)
          go_wp2_with (at_builtin; go_must (refine wpList_append_lies _ rfl (.tmp 29) (.tmp 32) 24 rfl base 2 (.int .i64 0) 8 Tryd.underlying24 info_i64 rfl _ s.length _ rfl (HO.out.alloc _) (wr.heap.size + 1) (some ⟨wr.heap.size, 0, none⟩) 1 1 [.int .i64 ((m : Int) + 2)] rfl (Lies.row (t := 2) (fr := (0, 0)) (heap_alloc_new wr _) (by simp)) rfl (by simp [Value.oneCell']) (by unfold maxLen; omega) (by omega) (by simp; omega) ?_); intro A' cap' w2 hown' hgrow _ _; obtain ⟨k1, k2, k3, k4, k5, k6⟩ := ref_next HO.out HRow.out HLl.out HB.out hsz hgb hgw hown' hgrow; have HO2 := Lib.hid k1; have HRow2 := Lib.hid k2; have HLl2 := Lib.hid k3; have HB2 := Lib.hid k4; clear k1 k2 k3 k4 hown' hgrow; have p0' := (k6 g _ (by omega)).trans p0; have p1' := (k6 g _ (by omega)).trans p1; clear k6 p0 p1)
          go_ret3
          exact refPost_none (hno.out hans.out) HB2.out (lnxt_len _ _) HO2.out
        | false =>
          by_cases hz0 : z < 0
          · have hans : Hid (okAns (lans L s (m + 2)) (m + 1) = false) := Lib.hid (by rw [HLA.out]; simp [okAns]; omega)
            go_wp2_with (at_builtin; go_must (refine wpList_append_lies _ rfl (.tmp 29) (.tmp 32) 24 rfl base 2 (.int .i64 0) 8 Tryd.underlying24 info_i64 rfl _ s.length _ rfl (HO.out.alloc _) (wr.heap.size + 1) (some ⟨wr.heap.size, 0, none⟩) 1 1 [.int .i64 ((m : Int) + 2)] rfl (Lies.row (t := 2) (fr := (0, 0)) (heap_alloc_new wr _) (by simp)) rfl (by simp [Value.oneCell']) (by unfold maxLen; omega) (by omega) (by simp; omega) ?_); intro A' cap' w2 hown' hgrow _ _; obtain ⟨k1, k2, k3, k4, k5, k6⟩ := ref_next HO.out HRow.out HLl.out HB.out hsz hgb hgw hown' hgrow; have HO2 := Lib.hid k1; have HRow2 := Lib.hid k2; have HLl2 := Lib.hid k3; have HB2 := Lib.hid k4; clear k1 k2 k3 k4 hown' hgrow; have p0' := (k6 g _ (by omega)).trans p0; have p1' := (k6 g _ (by omega)).trans p1; clear k6 p0 p1)
            go_ret3
            exact refPost_none (hno.out hans.out) HB2.out (lnxt_len _ _) HO2.out
          · by_cases hz1 : (m : Int) + 1 < z
            · have hans : Hid (okAns (lans L s (m + 2)) (m + 1) = false) := Lib.hid (by rw [HLA.out]; simp [okAns]; omega)
              go_wp2_with (at_builtin; go_must (refine wpList_append_lies _ rfl (.tmp 29) (.tmp 32) 24 rfl base 2 (.int .i64 0) 8 Tryd.underlying24 info_i64 rfl _ s.length _ rfl (HO.out.alloc _) (wr.heap.size + 1) (some ⟨wr.heap.size, 0, none⟩) 1 1 [.int .i64 ((m : Int) + 2)] rfl (Lies.row (t := 2) (fr := (0, 0)) (heap_alloc_new wr _) (by simp)) rfl (by simp [Value.oneCell']) (by unfold maxLen; omega) (by omega) (by simp; omega) ?_); intro A' cap' w2 hown' hgrow _ _; obtain ⟨k1, k2, k3, k4, k5, k6⟩ := ref_next HO.out HRow.out HLl.out HB.out hsz hgb hgw hown' hgrow; have HO2 := Lib.hid k1; have HRow2 := Lib.hid k2; have HLl2 := Lib.hid k3; have HB2 := Lib.hid k4; clear k1 k2 k3 k4 hown' hgrow; have p0' := (k6 g _ (by omega)).trans p0; have p1' := (k6 g _ (by omega)).trans p1; clear k6 p0 p1)
              go_ret3
              exact refPost_none (hno.out hans.out) HB2.out (lnxt_len _ _) HO2.out
            · obtain ⟨q, rfl⟩ : ∃ q : Nat, z = (q : Int) := ⟨z.toNat, by omega⟩
              have hR2 := hyes.out (by rw [HLA.out]; simp [okAns]; omega)
              rw [HLA.out, show (((q : Int), true) : Int × Bool).1.toNat = q from rfl] at hR2
              have HR2 := Lib.hid hR2
              clear hR2 hyes hno
              go_wp2_with (at_builtin; go_must (refine wpList_append_lies _ rfl (.tmp 29) (.tmp 32) 24 rfl base 2 (.int .i64 0) 8 Tryd.underlying24 info_i64 rfl _ s.length _ rfl (HO.out.alloc _) (wr.heap.size + 1) (some ⟨wr.heap.size, 0, none⟩) 1 1 [.int .i64 ((m : Int) + 2)] rfl (Lies.row (t := 2) (fr := (0, 0)) (heap_alloc_new wr _) (by simp)) rfl (by simp [Value.oneCell']) (by unfold maxLen; omega) (by omega) (by simp; omega) ?_); intro A' cap' w2 hown' hgrow _ _; obtain ⟨k1, k2, k3, k4, k5, k6⟩ := ref_next HO.out HRow.out HLl.out HB.out hsz hgb hgw hown' hgrow; have HO2 := Lib.hid k1; have HRow2 := Lib.hid k2; have HLl2 := Lib.hid k3; have HB2 := Lib.hid k4; clear k1 k2 k3 k4 hown' hgrow; have p0' := (k6 g _ (by omega)).trans p0; have p1' := (k6 g _ (by omega)).trans p1; clear k6 p0 p1; have hlen := hl.out; obtain ⟨q0, q1, q2, q3, q4, q5⟩ := row_two HRow2.out (i := m + 1) (j := q) (by omega) (by omega); have HSW := Lib.hid (row_swp HRow2.out (i := m + 1) (j := q) (by omega) (by omega)); have hin := HRow2.out.inside; have HLn : Hid ((swp l (m + 1) q).length = n) := Lib.hid (by rw [swp_length]; exact hlen); clear hlen; generalize l.getD (m + 1) 0 = y1 at *; generalize l.getD q 0 = y2 at *)
              go_roundw
              case rel => exact ⟨m + 1, swp l (m + 1) q, lnxt s (m + 2), A', cap', by omega, i64_eq (by omega), by rw [lnxt_len], by rw [lnxt_len]; omega, HLn, HR2, Lib.hid (.inr ⟨trivial, hgw, hgb, HSW.out⟩), Lib.hid (row_lies HSW.out hgb), Lib.hid (by rw [lnxt_len]; exact ownsRow_setCell_below (ownsRow_setCell_below HO2.out (by show gl < base; exact hgb) _) (by show gl < base; exact hgb) _), Lib.hid ((HB2.out.setCell hgw _).setCell hgw _), by simpa using k5⟩
              case measure => simp [intOf]; omega
end Go.Proofs.YtalngbdjabjahaaDoor
