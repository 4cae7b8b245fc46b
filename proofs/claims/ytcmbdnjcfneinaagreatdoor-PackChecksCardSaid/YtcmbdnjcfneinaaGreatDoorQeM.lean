/-
  The reference of chapter 19: put: the walk; how a row of bytes grows. Conditions: at most eight bytes a number.
-/
import Derived.Test.YtcmbdnjcfneinaaGreatDoorCqM
import Derived.Test.YtcmbdnjcfneinaaGreatDoorPkM
import Derived.Lib.AppendStr
namespace Go.Proofs.YtcmbdnjcfneinaaGreatDoor
open Go.RowKit
/-- A row has grown: nothing but its own block is turned; its new block is its old one, or new. -/
structure Gw (w w' : World) (v v' : Value) : Prop where
  keeps : Keeps (fun k => v.ownBlock = some k) w w'
  own : ∀ k, v'.ownBlock = some k → v.ownBlock = some k ∨ w.heap.size ≤ k
section
variable {w w1 w' w2 : World} {v v1 v' : Value}
theorem Gw.refl (w : World) (v : Value) : Gw w w v v := ⟨Keeps.refl _ _, fun _ h => .inl h⟩
theorem Gw.trans (h : Gw w w1 v v1) (h2 : Gw w1 w' v1 v') : Gw w w' v v' :=
  ⟨h.keeps.and h2.keeps (fun k hk e => (h.own k e).elim id fun h => absurd h (by omega)), fun k e => by
    rcases h2.own k e with h3 | h3
    · exact h.own k h3
    · exact .inr (Nat.le_trans h.keeps.size h3)⟩
theorem Gw.calm (h : Gw w w1 v v') (hk : Keeps (fun _ => False) w1 w2) : Gw w w2 v v' := ⟨h.keeps.and hk (fun _ _ h => h.elim), h.own⟩
theorem Gw.ahead (hk : Keeps (fun _ => False) w w1) (h : Gw w1 w' v v') : Gw w w' v v' := ⟨(hk.mono fun _ _ h => h.elim).and h.keeps (fun _ _ h => h), fun k e => (h.own k e).imp id fun h => Nat.le_trans hk.size h⟩
end
/-- What an append leaves of a row of bytes. -/
theorem Gw.of {w w' : World} {o : Obj} {v v' : Value} (h : (w.alloc o).grownBy w' v.ownBlock) (hor : v'.ownBlock = v.ownBlock ∨ v'.ownBlock = some (w.alloc o).heap.size) : Gw w w' v v' :=
  ⟨((Keeps.refl _ w).alloc o).grown h (fun k hk _ => hk), fun k e => by
    rcases hor with h1 | h1
    · rw [h1] at e; exact .inl e
    · rw [h1] at e; injection e with e; rw [World.size_alloc] at e; exact .inr (by omega)⟩
/-- A row of bytes of one's own. -/
abbrev Byt (w : World) (base : Nat) (A : Option Addr) (cap : Nat) (l : List Byte) : Prop := w.ownsRow base 5 1 (.slice A l.length cap) l.length (bytesV l)
theorem be_next (n k : Nat) (x : Int) : be (n + 1) (x / 256 ^ k) = be n (x / 256 ^ (k + 1)) ++ [BitVec.ofInt 8 (x / 256 ^ k)] := by
  rw [be, Int.pow_succ, ← Int.ediv_ediv_of_nonneg (Int.le_of_lt (Int.pow_pos (by decide)))]
theorem shift_mod (x : Int) (m : Int) (k : Int) (hm : 0 < m) (_ : 0 < k) : x % (m * (256 * k)) / m % 256 = x / m % 256 := by
  have h1 : x % (m * (256 * k)) = x - m * (256 * k) * (x / (m * (256 * k))) := Int.emod_def _ _
  have h2 : x - m * (256 * k) * (x / (m * (256 * k))) = x + m * (-(256 * k * (x / (m * (256 * k))))) := by rw [Int.mul_assoc, Int.mul_neg]; omega
  rw [h1, h2, Int.add_mul_ediv_left _ _ (by omega)]
  have h3 : -(256 * k * (x / (m * (256 * k)))) = 256 * (-(k * (x / (m * (256 * k))))) := by rw [Int.mul_assoc, Int.mul_neg]
  rw [h3, Int.add_mul_emod_self_left]
theorem byte_shift (x : Int) (j : Nat) (hj : j < 8) : IntKind.u64.wrap x / 2 ^ (8 * j) % 256 = ((BitVec.ofInt 8 (x / 256 ^ j)).toNat : Int) := by
  rw [oct_ofInt]
  have hw : IntKind.u64.wrap x = x % 18446744073709551616 := by simp [IntKind.wrap, IntKind.signed, IntKind.bits]
  rw [hw]
  match j, hj with
  | 0, _ => exact shift_mod x 1 72057594037927936 (by decide) (by decide)
  | 1, _ => exact shift_mod x 256 281474976710656 (by decide) (by decide)
  | 2, _ => exact shift_mod x 65536 1099511627776 (by decide) (by decide)
  | 3, _ => exact shift_mod x 16777216 4294967296 (by decide) (by decide)
  | 4, _ => exact shift_mod x 4294967296 16777216 (by decide) (by decide)
  | 5, _ => exact shift_mod x 1099511627776 65536 (by decide) (by decide)
  | 6, _ => exact shift_mod x 281474976710656 256 (by decide) (by decide)
  | 7, _ => exact shift_mod x 72057594037927936 1 (by decide) (by decide)
set_option maxHeartbeats 2000000 in
theorem refPut_any (x : Int) (n : Nat) (base : Nat) (A : Option Addr) (cap : Nat) (l : List Byte) (w : World) (ho : Byt w base A cap l) (hb : base ≤ w.heap.size) (hn : n ≤ 8) (hl : l.length ≤ 1000000000000) :
    Calls Tryz.prog 43 #[.slice A l.length cap, .int .u64 (IntKind.u64.wrap x), .int .i64 n] w fun e w' => ∃ A' cap', e = .returned (.slice A' (l ++ be n x).length cap') ∧ Byt w' base A' cap' (l ++ be n x) ∧ Gw w w' (.slice A l.length cap) (.slice A' (l ++ be n x).length cap') := by
  have HO := Lib.hid ho
  clear ho
  go_enter Tryz.func43, Tryz.ntmps43
  go_wp2_with fail
  go_loopw [0, 7] (fun vb vi wr => ∃ (k : Nat) (m : List Byte) (A' : Option Addr) (cap' : Nat), k ≤ n ∧ vi = .int .i64 ((k : Int) - 1) ∧ vb = .slice A' m.length cap' ∧ m.length ≤ 1000000000008 ∧ Hid (m = l ++ be (n - k) (x / 256 ^ k)) ∧ Hid (Byt wr base A' cap' m) ∧ Hid (Gw w wr (.slice A l.length cap) (.slice A' m.length cap'))) (fun _ vi _ => (intOf vi + 1).toNat)
  case atStart => exact ⟨n, l, A, cap, by omega, rfl, rfl, by omega, Lib.hid (by rw [Nat.sub_self]; simp [be]), HO, Lib.hid (Gw.refl _ _)⟩
  case round =>
    obtain ⟨k, m, A', cap', hk, rfl, rfl, hm, HM, HB, HG⟩ := hrel
    by_cases hlt : 0 < k
    · obtain ⟨j, rfl⟩ : ∃ j, k = j + 1 := ⟨k - 1, by omega⟩
      rw [show ((j + 1 : Nat) : Int) - 1 = (j : Int) by omega]
      have hbs := byte_shift x j (by omega)
      have HV : Hid (∀ u ∈ [Value.int .u8 (IntKind.u64.wrap x / 2 ^ (8 * j) % 256)], u.oneCell' = true) := Lib.hid (fun u hu => by rw [List.mem_singleton.1 hu]; rfl)
      have HBS := Lib.hid hbs
      have HO2 := Lib.hid (HB.out.alloc (.cells #[.int .u8 (IntKind.u64.wrap x / 2 ^ (8 * j) % 256)] 5))
      have HSZ : Hid (base ≤ wr.heap.size) := Lib.hid (by have := HG.out.keeps.size; omega)
      clear hbs
      go_wp2_with (at_builtin; (refine wpList_append_cells _ rfl (.tmp 14) (.tmp 20) 32 rfl base 5 (.int .u8 0) 1 1 Tryz.underlying32 info_u8 rfl (by decide) (.slice A' m.length cap') m.length (bytesV m) rfl HO2.out (wr.heap.size + 1) (some ⟨wr.heap.size, 0, none⟩) 1 1 [.int .u8 (IntKind.u64.wrap x / 2 ^ (8 * j) % 256)] rfl (Lies.row (t := 5) (fr := (0, 0)) (heap_alloc_new wr _) (by simp)) rfl HV.out (by simp only [maxLen]; omega) (by omega) (by have := HSZ.out; simp; omega) ?_); intro A2 c2 w2 h1 h2 h3 _ _)
      have hmn : l ++ be (n - j) (x / 256 ^ j) = m ++ [BitVec.ofInt 8 (x / 256 ^ j)] := by
        rw [show n - j = (n - (j + 1)) + 1 by omega, be_next, HM.out, List.append_assoc]
      have hlen : (m ++ [BitVec.ofInt 8 (x / 256 ^ j)]).length = m.length + 1 := by simp
      have HB2 : Hid (Byt w2 base A2 c2 (m ++ [BitVec.ofInt 8 (x / 256 ^ j)])) := Lib.hid (by
        unfold Byt
        rw [hlen, bytesV_append]
        rw [HBS.out] at h1
        exact h1)
      have HG2 : Hid (Gw w w2 (.slice A l.length cap) (.slice A2 (m ++ [BitVec.ofInt 8 (x / 256 ^ j)]).length c2)) := Lib.hid (by rw [hlen]; exact HG.out.trans (Gw.of h2 h3))
      have hm2 : m.length + 1 ≤ 1000000000008 := by
        have h5 := congrArg List.length hmn
        rw [hlen, List.length_append, be_length] at h5
        omega
      have HMN := Lib.hid hmn.symm
      clear h1 h2 h3 hmn HB HG HM HO2
      exact ⟨⟨j, m ++ [BitVec.ofInt 8 (x / 256 ^ j)], A2, c2, by omega, by first | rfl | go_num, by first | rfl | rw [hlen], by first | exact hm2 | (rw [hlen]; exact hm2), HMN, HB2, HG2⟩, by (simp [intOf] <;> omega)⟩
    · obtain rfl : k = 0 := by omega
      have hme : m = l ++ be n x := by have := HM.out; rw [Nat.sub_zero] at this; simpa using this
      subst hme
      clear HM
      go_wp2_with fail
      go_ret
      exact ⟨A', cap', rfl, HB.out, HG.out⟩
end Go.Proofs.YtcmbdnjcfneinaaGreatDoor
/-
  The reference of chapter 19: rows of bytes that grow: by a byte, by two, by a list, by a text; a section: the walk. Conditions: lengths within 10 ^ 12.
-/
namespace Go.Proofs.YtcmbdnjcfneinaaGreatDoor
open Go.RowKit
/-- Two values' own blocks differ. -/
def Apv (v u : Value) : Prop := ∀ k, v.ownBlock = some k → u.ownBlock ≠ some k
theorem Apv.grow {w w' : World} {v v' u : Value} (h : Apv v u) (hg : Gw w w' v v') (hu : ∀ k, u.ownBlock = some k → k < w.heap.size) : Apv v' u := fun k hk hk2 => by
  rcases hg.own k hk with h1 | h1
  · exact h k h1 hk2
  · have := hu k hk2; omega
theorem Apv.symm {v u : Value} (h : Apv v u) : Apv u v := fun k h1 h2 => h k h2 h1
theorem Byt.lt_ {w : World} {base cap : Nat} {A : Option Addr} {l : List Byte} (h : Byt w base A cap l) (k : Nat) (hk : (Value.slice A l.length cap).ownBlock = some k) : base ≤ k ∧ k < w.heap.size := World.ownsRow.lt h k hk
theorem Byt.far {w w' : World} {base' cap cap' : Nat} {A B : Option Addr} {l m : List Byte} {v' : Value} (h : Byt w base' B cap' m) (hg : Gw w w' (.slice A l.length cap) v') (ha : Apv (.slice A l.length cap) (.slice B m.length cap')) : Byt w' base' B cap' m := own_keepsS h hg.keeps fun k hk e => ha k e hk
theorem whole_far {w w' : World} {base cap g : Nat} {A : Option Addr} {l : List Byte} {v' : Value} {t : TypeId} {cs : Array Value} (h : Whole w g t cs) (hb : Byt w base A cap l) (hg : Gw w w' (.slice A l.length cap) v') (ht : t ≠ 5) : Whole w' g t cs := h.keeps hg.keeps fun e => by
  obtain ⟨cs', fr, e1⟩ := own_ofTy hb g e
  have e2 := h.symm.trans e1
  injection e2 with e2
  injection e2 with _ e3 _
  exact ht e3
theorem str_cells (t : List Oct) : Lib.strCells (strB t) = bytesV t := by
  unfold Lib.strCells bytesV strB
  simp only [List.map_map]
  rfl
theorem ok_inj {v v' : Value} {w w' : World} (h : (Result.ok v w : Result Value) = Result.ok v' w') : v = v' := by injection h
theorem run_app_str {w : World} {base cap : Nat} {A : Option Addr} {l : List Byte} (ty : TypeId) (t : List Oct) (hown : Byt w base A cap l) (h63 : l.length + t.length ≤ 140737488355328) (hbase : base ≤ w.heap.size) :
    ∃ A' cap' w', (Builtin.append_ #[32, 9] ty #[.slice A l.length cap, .string (strB t)]).run Tryz.prog w = .ok (.slice A' (l ++ t).length cap') w' ∧ Byt w' base A' cap' (l ++ t) ∧ Gw w w' (.slice A l.length cap) (.slice A' (l ++ t).length cap') := by
  obtain ⟨i, hi, hzz⟩ := Option.map_eq_some_iff.1 info_u8
  simp only [Prod.mk.injEq] at hzz
  obtain ⟨hz, hs, hb⟩ := hzz
  have hst := strB_size t
  have hu8 := Tryz.underlying32
  have hstr := Tryz.underlying9
  obtain ⟨v', w', hr, h2, h3, h4⟩ := Lib.run_append_own_string (P := Tryz.prog) w base _ _ ty _ i hu8 hstr hi hz hs hb _ _ _ hown (strB t) (by simp only [maxLen]; omega) (by omega) hbase
  rw [str_cells, hst, ← bytesV_append, show l.length + t.length = (l ++ t).length by simp] at h2
  have hor : v'.ownBlock = (Value.slice A l.length cap).ownBlock ∨ v'.ownBlock = some w.heap.size := by
    rcases hown.2 with ⟨hv, _⟩ | ⟨g, cap', cur, hv, _, hh, hnc, hcm, hcs, htake⟩
    · by_cases h0 : (strB t).size = 0
      · left
        rw [h4.2 ⟨hv, h0⟩, hv]
      · right
        rw [hv] at hr
        have hr2 := run_append_nil_string (P := Tryz.prog) w _ _ ty _ i _ hu8 hstr hi hz (strB t) (by omega) (by omega) (by rw [hb]; omega)
        rw [ok_inj (hr.symm.trans hr2)]; rfl
    · by_cases hroom : l.length + (strB t).size ≤ cap'
      · left
        rw [hv] at hr ⊢
        have hr2 := Lib.run_append_room_string (P := Tryz.prog) w _ _ ty _ i hu8 hstr hi hs g l.length cap' cur hh (strB t) hroom (by omega)
        rw [ok_inj (hr.symm.trans hr2)]; rfl
      · right
        have holds : ∀ j u, (bytesV l)[j]? = some u → w.cell? ((⟨g, 0, none⟩ : Addr).add j) = some u := World.ownsRow.cells (hv ▸ hown : w.ownsRow base 5 1 (.slice (some ⟨g, 0, none⟩) l.length cap') l.length (bytesV l)) (g := g) rfl
        rw [hv] at hr
        have hr2 := Lib.run_append_grow_string (P := Tryz.prog) w _ _ ty _ i _ hu8 hstr hi hz ⟨g, 0, none⟩ l.length cap' (bytesV l) (by rw [hs, bytesV_length]; omega) holds (strB t) (by omega) (by omega) (by rw [hb]; exact growslice_fits (by omega) (by omega))
        rw [ok_inj (hr.symm.trans hr2)]; rfl
  obtain ⟨A', cap', rfl, _, _⟩ := own_slice h2
  refine ⟨A', cap', w', hr, h2, (Keeps.refl _ w).grown h3 (fun k hk _ => hk), fun k e => ?_⟩
  rcases hor with h5 | h5
  · rw [h5] at e; exact .inl e
  · rw [h5] at e; injection e with e; exact .inr (by omega)
end Go.Proofs.YtcmbdnjcfneinaaGreatDoor
/-
  The reference of chapter 19: a section: the walk. Conditions: lengths within 10 ^ 11.
-/
namespace Go.Proofs.YtcmbdnjcfneinaaGreatDoor
open Go.RowKit
/-- Bytes put behind a row of bytes, as an operation. -/
theorem wpList_app {w : World} {ops : Array Oper} {rest : List Oper} {o : Oper} {a : Act} {Q : Exit → Act → World → Prop} (hgd : o.guard = none) (s x : Operand)
    (ho : o.op = .call { callee := .builtin .append, args := #[s, x], argTypes := #[32, 32] })
    (base : Nat) (A : Option Addr) (cap : Nat) (l : List Byte) (hs : a.eval s = .slice A l.length cap) (hown : Byt w base A cap l)
    (B : Nat) (Ax : Option Addr) (m c : Nat) (news : List Value) (hx : a.eval x = .slice Ax m c) (hr : Lies w B Ax news) (y : List Byte) (hy : news = bytesV y) (hm : y.length = m)
    (hlen : l.length + m ≤ 140737488351232) (hbase : base ≤ w.heap.size)
    (h : ∀ A' cap' w', Byt w' base A' cap' (l ++ y) → Gw w w' (.slice A l.length cap) (.slice A' (l ++ y).length cap') → wpList Tryz.prog ops Q rest (a.put o.dst (.slice A' (l ++ y).length cap')) w') : wpList Tryz.prog ops Q (o :: rest) a w := by
  subst hy hm
  refine wpList_append_cells w hgd s x 32 ho base 5 (.int .u8 0) 1 1 Tryz.underlying32 info_u8 rfl (by decide) _ l.length (bytesV l) hs hown B Ax y.length c (bytesV y) hx hr (by simp [bytesV_length]) (fun u hu => by
    unfold bytesV at hu
    obtain ⟨q, _, rfl⟩ := List.mem_map.1 hu; rfl) (by simp only [maxLen]; omega) (by omega) hbase ?_
  intro A' cap' w' h1 h2 h3 _ _
  rw [← bytesV_append] at h1
  have e : l.length + y.length = (l ++ y).length := by simp
  rw [e] at h1 h3 ⊢
  refine h A' cap' w' h1 ⟨(Keeps.refl _ w).grown h2 (fun k hk _ => hk), fun k hk => ?_⟩
  rcases h3 with h5 | h5
  · rw [h5] at hk; exact .inl hk
  · rw [h5] at hk; injection hk with hk; exact .inr (by omega)
theorem refPut_lit (x : Int) (n : Nat) (N : Int) (hN : N = (n : Int)) (X : Int) (hX : X = IntKind.u64.wrap x) (base : Nat) (A : Option Addr) (cap : Nat) (l : List Byte) (w : World) (ho : Byt w base A cap l) (hb : base ≤ w.heap.size) (hn : n ≤ 8) (hl : l.length ≤ 1000000000000) :
    Calls Tryz.prog 43 #[.slice A l.length cap, .int .u64 X, .int .i64 N] w fun e w' => ∃ A' cap', e = .returned (.slice A' (l ++ be n x).length cap') ∧ Byt w' base A' cap' (l ++ be n x) ∧ Gw w w' (.slice A l.length cap) (.slice A' (l ++ be n x).length cap') := by
  subst hN hX
  exact refPut_any x n base A cap l w ho hb hn hl
theorem byt_nil (w : World) (b : Nat) : Byt w b none 0 [] := World.ownsRow_nil _ _ _ _
theorem wrap_len (n : Nat) (h : n ≤ 1000000000000) : ((n : Nat) : Int) = IntKind.u64.wrap (n : Int) := by
  simp only [IntKind.wrap, IntKind.signed, IntKind.bits]
  simp
  omega
set_option maxRecDepth 4000 in
set_option maxHeartbeats 2000000 in
theorem section_ref (b : Oct) (y : List Byte) (base base' : Nat) (A B : Option Addr) (cap cb : Nat) (l : List Byte) (w : World) (ho : Byt w base A cap l) (hb : base ≤ w.heap.size) (hy : Byt w base' B cb y) (ha : Apv (.slice A l.length cap) (.slice B y.length cb)) (hl : l.length ≤ 100000000000) (hly : y.length ≤ 100000000000) :
    Calls Tryz.prog 42 #[.slice A l.length cap, .int .u8 (b.toNat : Int), .slice B y.length cb] w fun e w' => ∃ A' cap', e = .returned (.slice A' (l ++ secE b y).length cap') ∧ Byt w' base A' cap' (l ++ secE b y) ∧ Gw w w' (.slice A l.length cap) (.slice A' (l ++ secE b y).length cap') := by
  have ka := (Keeps.refl (fun _ => False) w).alloc (.cells #[.int .u8 (b.toNat : Int)] 5)
  have HO := Lib.hid (own_keepsS ho ka (fun _ _ => id))
  have HY := Lib.hid (own_keepsS hy ka (fun _ _ => id))
  have HA := Lib.hid ha
  have HS : Hid (∀ k, (Value.slice B y.length cb).ownBlock = some k → k < w.heap.size) := Lib.hid fun k hk => (World.ownsRow.lt hy k hk).2
  have HL : Hid (Lies (w.alloc (.cells #[.int .u8 (b.toNat : Int)] 5)) (w.heap.size + 1) (some ⟨w.heap.size, 0, none⟩) [.int .u8 (b.toNat : Int)]) := Lib.hid (Lies.row (fr := (0, 0)) (Whole.made w 5 #[.int .u8 (b.toNat : Int)]) (Nat.lt_succ_self _))
  have HK := Lib.hid ka
  have HB := Lib.hid hb
  have HWL := Lib.hid (wrap_len y.length (by omega))
  clear ho hy ha ka hb
  go_enter Tryz.func42, Tryz.ntmps42
  go_wp2_with (at_builtin; (refine wpList_app rfl _ _ rfl base A cap l rfl HO.out (w.heap.size + 1) (some ⟨w.heap.size, 0, none⟩) 1 1 [.int .u8 (b.toNat : Int)] rfl HL.out [b] rfl rfl (by omega) (Nat.le_trans HB.out HK.out.size) ?_); intro A1 c1 w1 h1 h2; generalize he1 : l ++ [b] = l1 at h1 h2 ⊢)
  have G1 := Lib.hid (Gw.ahead HK.out h2)
  have B1 := Lib.hid h1
  have Y1 := Lib.hid (Byt.far HY.out h2 HA.out)
  have A1p := Lib.hid (Apv.grow HA.out G1.out HS.out)
  clear h1 h2 HO HY HL HK HA
  have hl1 : l1.length ≤ 100000000001 := by rw [← he1]; simp; omega
  have HE1 := Lib.hid he1.symm
  clear he1
  go_wp2_with fail
  refine (refPut_lit (y.length : Int) 4 4 rfl _ (by first | rfl | exact HWL.out) base A1 c1 l1 w1 B1.out (Nat.le_trans HB.out G1.out.keeps.size) (by decide) (by omega)).mono ?_
  rintro e w2 ⟨A2, c2, rfl, h1, h2⟩
  have G2 := Lib.hid (G1.out.trans h2)
  have B2 := Lib.hid h1
  have Y2 := Lib.hid (Byt.far Y1.out h2 A1p.out)
  have hl2 : (l1 ++ be 4 (y.length : Int)).length ≤ 100000000005 := by rw [List.length_append, be_length]; omega
  obtain ⟨l2, he2⟩ : ∃ l2, l2 = l1 ++ be 4 (y.length : Int) := ⟨_, rfl⟩
  rw [← he2] at hl2 G2 B2 ⊢
  have HE2 := Lib.hid he2
  clear he2 h1 h2 G1 B1 Y1 A1p
  go_wp2_with (at_builtin; (refine wpList_app rfl _ _ rfl base A2 c2 l2 rfl B2.out w2.heap.size B y.length cb (bytesV y) rfl (own_lies Y2.out) y rfl rfl (by omega) (Nat.le_trans HB.out G2.out.keeps.size) ?_); intro A3 c3 w3 h1 h2; generalize he3 : l2 ++ y = l3 at h1 h2 ⊢)
  have G3 := Lib.hid (G2.out.trans h2)
  have B3 := Lib.hid h1
  clear h1 h2 G2 B2 Y2
  have HEQ : Hid (l3 = l ++ secE b y) := Lib.hid (by
    rw [← he3, HE2.out, HE1.out]
    unfold secE
    simp)
  clear he3
  go_wp2_with fail
  go_ret
  rw [← HEQ.out]
  exact ⟨A3, c3, rfl, B3.out, G3.out⟩
end Go.Proofs.YtcmbdnjcfneinaaGreatDoor
/-
  The reference of chapter 19: the body of the section 4: the walk. Conditions: lengths within 10 ^ 9.
-/
namespace Go.Proofs.YtcmbdnjcfneinaaGreatDoor
open Go.RowKit
theorem len_of {T m R : List Oct} {n : Nat} (h : T = m ++ R) (hT : T.length ≤ n) : m.length ≤ n := by
  rw [h, List.length_append] at hT
  omega
theorem wrap_mod (x : Int) : x % 18446744073709551616 = IntKind.u64.wrap x := by simp [IntKind.wrap, IntKind.signed, IntKind.bits]
theorem be1V (x : Int) : bytesV (be 1 x) = [.int .u8 (x % 256)] := by
  show [Value.int .u8 ((BitVec.ofInt 8 x).toNat : Int)] = _
  rw [oct_ofInt]
theorem fm_drop {α : Type} (f : α → List Oct) (xs : List α) (k : Nat) (x : α) (h : xs[k]? = some x) : (xs.drop k).flatMap f = f x ++ (xs.drop (k + 1)).flatMap f := by
  obtain ⟨hk, rfl⟩ := List.getElem?_eq_some_iff.1 h
  rw [List.drop_eq_getElem_cons hk, List.flatMap_cons]
theorem fm_done {α : Type} (f : α → List Oct) (xs : List α) (k : Nat) (h : xs.length ≤ k) : (xs.drop k).flatMap f = [] := by rw [List.drop_eq_nil_of_le h]; rfl
set_option maxRecDepth 100000 in
set_option maxHeartbeats 8000000 in
theorem kinds_ref (ks : List Knd) (A : Option Addr) (cap : Nat) (w : World) (hx : KdLies w w.heap.size A ks) (hl : ks.length ≤ 1000000000) (hr : ∀ k ∈ ks, KndFew k) (hz : (kindsE ks).length ≤ 1000000000) :
    Calls Tryz.prog 44 #[.slice A ks.length cap] w fun e w' => ∃ A' cap', e = .returned (.slice A' (kindsE ks).length cap') ∧ Byt w' w.heap.size A' cap' (kindsE ks) ∧ Keeps (fun _ => False) w w' := by
  obtain ⟨T, hTe⟩ : ∃ T, T = kindsE ks := ⟨_, rfl⟩
  rw [← hTe] at hz ⊢
  have hT := hz
  have HX := Lib.hid hx
  have HR := Lib.hid hr
  have HM : Hid (T = [] ++ (be 2 (ks.length : Int) ++ (ks.drop 0).flatMap kndE)) := Lib.hid (by rw [hTe]; rfl)
  have KP := Lib.hid (Keeps.refl (fun _ => False) w)
  have BY := Lib.hid (byt_nil w w.heap.size)
  obtain ⟨m0, hm0⟩ : ∃ m : List Byte, m = [] := ⟨_, rfl⟩
  obtain ⟨a0, ha0⟩ : ∃ a : Option Addr, a = none := ⟨_, rfl⟩
  clear hx hr hz hTe
  go_enter Tryz.func44, Tryz.ntmps44
  go_wp2_with fail
  refine (refPut_lit (ks.length : Int) 2 2 rfl _ (by first | rfl | exact wrap_mod _ | exact wrap_len _ (by omega)) w.heap.size none 0 [] w BY.out (Nat.le_refl _) (by decide) (by simp)).mono ?_
  rintro e W0 ⟨A0, c0, rfl, h1, h2⟩
  clear m0 hm0 a0 ha0
  generalize he : [] ++ be 2 (ks.length : Int) = m0 at h1 h2 ⊢
  replace KP := Lib.hid (KP.out.and h2.keeps (fun k hk e => by cases e))
  replace HM : Hid (T = m0 ++ (ks.drop 0).flatMap kndE) := Lib.hid (by rw [HM.out, ← he]; simp only [List.nil_append])
  replace BY := Lib.hid h1
  have hl0 := len_of HM.out hT
  clear he h1 h2
  go_wp2_with fail
  go_loopw [3, 4] (fun vb vi wr => ∃ (i : Nat) (m : List Byte) (A' : Option Addr) (c : Nat), i ≤ ks.length ∧ vi = .int .i64 i ∧ vb = .slice A' m.length c ∧ Hid (T = m ++ (ks.drop i).flatMap kndE) ∧ Hid (Byt wr w.heap.size A' c m) ∧ Hid (Keeps (fun _ => False) w wr)) (fun _ vi _ => ks.length - (intOf vi).toNat)
  case atStart => exact ⟨0, m0, A0, c0, by omega, rfl, rfl, HM, BY, KP⟩
  case round =>
    clear HM BY KP hl0
    obtain ⟨i, m, A', c, hi, rfl, rfl, HM, BY, KP⟩ := hrel
    have hlm := len_of HM.out hT
    by_cases hlt : i < ks.length
    · obtain ⟨g, off, Bt, ct', Be, ce', hgA, hg, d0, d1, d2, d3, d4, d5, ht0, he0⟩ := (HX.out.keeps KP.out (fun _ _ => id) (Nat.le_refl _)) i ks[i] (List.getElem?_eq_getElem hlt)
      have hkf := HR.out _ (List.getElem_mem hlt)
      have hRk := fm_drop kndE ks i ks[i] (List.getElem?_eq_getElem hlt)
      generalize hRi : (ks.drop (i + 1)).flatMap kndE = R at hRk
      have HRi := Lib.hid hRi
      clear hRi
      subst hgA
      generalize ks[i] = x at *
      replace HM : Hid (T = m ++ (be 2 x.name ++ (be 4 x.cost ++ (be 4 x.power ++ (be 4 x.health ++ (be 1 x.tags.length ++ ((x.tags.drop 0).flatMap (be 2) ++ (be 1 x.effs.length ++ (x.effs.flatMap effE ++ R))))))))) := Lib.hid (by
        rw [HM.out, hRk]
        unfold kndE
        simp only [List.append_assoc, List.drop_zero])
      have HT0 := Lib.hid (ht0.keeps (Keeps.refl (fun _ => False) wr) (fun _ _ => id) KP.out.size)
      have HE0 := Lib.hid (he0.keeps (Keeps.refl (fun _ => False) wr) (fun _ _ => id) KP.out.size)
      have HKF := Lib.hid hkf
      have hxt := hkf.tags
      have hxe := hkf.effs
      have ka := (Keeps.refl (fun _ => False) wr).alloc (.cells #[.int .i64 x.name, .int .i64 x.cost, .int .i64 x.power, .int .i64 x.health, .slice Bt x.tags.length ct', .slice Be x.effs.length ce'] 40)
      have BX := Lib.hid (Whole.made wr 40 #[.int .i64 x.name, .int .i64 x.cost, .int .i64 x.power, .int .i64 x.health, .slice Bt x.tags.length ct', .slice Be x.effs.length ce'])
      replace BY : Hid (Byt _ w.heap.size A' c m) := Lib.hid (own_keepsS BY.out ka (fun _ _ => id))
      have KQ := KP
      replace KP := Lib.hid (KP.out.trans ka)
      replace HT0 := Lib.hid (HT0.out.keeps ka (fun _ _ => id) KQ.out.size)
      replace HE0 := Lib.hid (HE0.out.keeps ka (fun _ _ => id) KQ.out.size)
      clear ht0 he0 hkf hRk ka KQ
      go_wp2_with fail
      clear d0 d1 d2 d3 d4 d5
      generalize wr.alloc (.cells #[.int .i64 x.name, .int .i64 x.cost, .int .i64 x.power, .int .i64 x.health, .slice Bt x.tags.length ct', .slice Be x.effs.length ce'] 40) = V0 at *
      generalize wr.heap.size = kb at *
      obtain ⟨d0, d1, d2, d3, d4, d5⟩ := six BX.out
      go_wp2_with fail
      refine (refPut_lit (x.name) 2 2 rfl _ (by first | rfl | exact wrap_mod _ | exact wrap_len _ (by omega)) (w.heap.size) A' c m V0 BY.out KP.out.size (by decide) (by omega)).mono ?_
      rintro e W1 ⟨A1, c1, rfl, h1, h2⟩
      generalize he : m ++ be 2 (x.name) = m1 at h1 h2 ⊢
      replace HT0 := Lib.hid (HT0.out.keeps h2.keeps (fun k hk e => by have := (Byt.lt_ BY.out k e).1; omega) KP.out.size)
      replace HE0 := Lib.hid (HE0.out.keeps h2.keeps (fun k hk e => by have := (Byt.lt_ BY.out k e).1; omega) KP.out.size)
      replace KP := Lib.hid (KP.out.and h2.keeps (fun k hk e => by have := (Byt.lt_ BY.out k e).1; omega))
      replace BX := Lib.hid (whole_far BX.out BY.out h2 (by decide))
      replace HM : Hid (T = m1 ++ (be 4 x.cost ++ (be 4 x.power ++ (be 4 x.health ++ (be 1 x.tags.length ++ ((x.tags.drop 0).flatMap (be 2) ++ (be 1 x.effs.length ++ (x.effs.flatMap effE ++ R)))))))) := Lib.hid (by rw [HM.out, ← he]; simp only [List.append_assoc])
      replace BY := Lib.hid h1
      have hlm1 := len_of HM.out hT
      clear he h1 h2
      clear d0 d1 d2 d3 d4 d5
      obtain ⟨d0, d1, d2, d3, d4, d5⟩ := six BX.out
      go_wp2_with fail
      refine (refPut_lit (x.cost) 4 4 rfl _ (by first | rfl | exact wrap_mod _ | exact wrap_len _ (by omega)) (w.heap.size) A1 c1 m1 W1 BY.out KP.out.size (by decide) (by omega)).mono ?_
      rintro e W2 ⟨A2, c2, rfl, h1, h2⟩
      generalize he : m1 ++ be 4 (x.cost) = m2 at h1 h2 ⊢
      replace HT0 := Lib.hid (HT0.out.keeps h2.keeps (fun k hk e => by have := (Byt.lt_ BY.out k e).1; omega) KP.out.size)
      replace HE0 := Lib.hid (HE0.out.keeps h2.keeps (fun k hk e => by have := (Byt.lt_ BY.out k e).1; omega) KP.out.size)
      replace KP := Lib.hid (KP.out.and h2.keeps (fun k hk e => by have := (Byt.lt_ BY.out k e).1; omega))
      replace BX := Lib.hid (whole_far BX.out BY.out h2 (by decide))
      replace HM : Hid (T = m2 ++ (be 4 x.power ++ (be 4 x.health ++ (be 1 x.tags.length ++ ((x.tags.drop 0).flatMap (be 2) ++ (be 1 x.effs.length ++ (x.effs.flatMap effE ++ R))))))) := Lib.hid (by rw [HM.out, ← he]; simp only [List.append_assoc])
      replace BY := Lib.hid h1
      have hlm2 := len_of HM.out hT
      clear he h1 h2
      clear d0 d1 d2 d3 d4 d5
      obtain ⟨d0, d1, d2, d3, d4, d5⟩ := six BX.out
      go_wp2_with fail
      refine (refPut_lit (x.power) 4 4 rfl _ (by first | rfl | exact wrap_mod _ | exact wrap_len _ (by omega)) (w.heap.size) A2 c2 m2 W2 BY.out KP.out.size (by decide) (by omega)).mono ?_
      rintro e W3 ⟨A3, c3, rfl, h1, h2⟩
      generalize he : m2 ++ be 4 (x.power) = m3 at h1 h2 ⊢
      replace HT0 := Lib.hid (HT0.out.keeps h2.keeps (fun k hk e => by have := (Byt.lt_ BY.out k e).1; omega) KP.out.size)
      replace HE0 := Lib.hid (HE0.out.keeps h2.keeps (fun k hk e => by have := (Byt.lt_ BY.out k e).1; omega) KP.out.size)
      replace KP := Lib.hid (KP.out.and h2.keeps (fun k hk e => by have := (Byt.lt_ BY.out k e).1; omega))
      replace BX := Lib.hid (whole_far BX.out BY.out h2 (by decide))
      replace HM : Hid (T = m3 ++ (be 4 x.health ++ (be 1 x.tags.length ++ ((x.tags.drop 0).flatMap (be 2) ++ (be 1 x.effs.length ++ (x.effs.flatMap effE ++ R)))))) := Lib.hid (by rw [HM.out, ← he]; simp only [List.append_assoc])
      replace BY := Lib.hid h1
      have hlm3 := len_of HM.out hT
      clear he h1 h2
      clear d0 d1 d2 d3 d4 d5
      obtain ⟨d0, d1, d2, d3, d4, d5⟩ := six BX.out
      go_wp2_with fail
      refine (refPut_lit (x.health) 4 4 rfl _ (by first | rfl | exact wrap_mod _ | exact wrap_len _ (by omega)) (w.heap.size) A3 c3 m3 W3 BY.out KP.out.size (by decide) (by omega)).mono ?_
      rintro e W4 ⟨A4, c4, rfl, h1, h2⟩
      generalize he : m3 ++ be 4 (x.health) = m4 at h1 h2 ⊢
      replace HT0 := Lib.hid (HT0.out.keeps h2.keeps (fun k hk e => by have := (Byt.lt_ BY.out k e).1; omega) KP.out.size)
      replace HE0 := Lib.hid (HE0.out.keeps h2.keeps (fun k hk e => by have := (Byt.lt_ BY.out k e).1; omega) KP.out.size)
      replace KP := Lib.hid (KP.out.and h2.keeps (fun k hk e => by have := (Byt.lt_ BY.out k e).1; omega))
      replace BX := Lib.hid (whole_far BX.out BY.out h2 (by decide))
      replace HM : Hid (T = m4 ++ (be 1 x.tags.length ++ ((x.tags.drop 0).flatMap (be 2) ++ (be 1 x.effs.length ++ (x.effs.flatMap effE ++ R))))) := Lib.hid (by rw [HM.out, ← he]; simp only [List.append_assoc])
      replace BY := Lib.hid h1
      have hlm4 := len_of HM.out hT
      clear he h1 h2
      clear d0 d1 d2 d3 d4 d5
      obtain ⟨d0, d1, d2, d3, d4, d5⟩ := six BX.out
      have ka := (Keeps.refl (fun _ => False) W4).alloc (.cells #[.int .u8 ((x.tags.length) % 256)] 5)
      have HO : Hid (Byt (W4.alloc (.cells #[.int .u8 ((x.tags.length) % 256)] 5)) (w.heap.size) A4 c4 m4) := Lib.hid (own_keepsS BY.out ka (fun _ _ => id))
      have HL : Hid (Lies (W4.alloc (.cells #[.int .u8 ((x.tags.length) % 256)] 5)) (W4.heap.size + 1) (some ⟨W4.heap.size, 0, none⟩) [.int .u8 ((x.tags.length) % 256)]) := Lib.hid (Lies.row (fr := (0, 0)) (xs := [.int .u8 ((x.tags.length) % 256)]) (by have hwm := Whole.made W4 5 #[.int .u8 ((x.tags.length) % 256)]; exact hwm) (Nat.lt_succ_self _))
      have HV : Hid ([.int .u8 ((x.tags.length) % 256)] = bytesV (be 1 (x.tags.length))) := Lib.hid (by rw [be1V])
      have HZ := Lib.hid (Nat.le_trans KP.out.size ka.size)
      have HKA := Lib.hid ka
      clear ka
      go_wp2_with (at_builtin; (refine wpList_app rfl _ _ rfl (w.heap.size) A4 c4 m4 rfl HO.out (W4.heap.size + 1) (some ⟨W4.heap.size, 0, none⟩) 1 1 [.int .u8 ((x.tags.length) % 256)] rfl HL.out (be 1 (x.tags.length)) HV.out rfl (by omega) HZ.out ?_); intro A5 c5 W5 h1 h2; generalize he : m4 ++ (be 1 (x.tags.length)) = m5 at h1 h2 ⊢)
      have hg := Gw.ahead HKA.out h2
      clear HO HL HV HZ HKA
      replace HT0 := Lib.hid (HT0.out.keeps hg.keeps (fun k hk e => by have := (Byt.lt_ BY.out k e).1; omega) KP.out.size)
      replace HE0 := Lib.hid (HE0.out.keeps hg.keeps (fun k hk e => by have := (Byt.lt_ BY.out k e).1; omega) KP.out.size)
      replace KP := Lib.hid (KP.out.and hg.keeps (fun k hk e => by have := (Byt.lt_ BY.out k e).1; omega))
      replace BX := Lib.hid (whole_far BX.out BY.out hg (by decide))
      replace HM : Hid (T = m5 ++ ((x.tags.drop 0).flatMap (be 2) ++ (be 1 x.effs.length ++ (x.effs.flatMap effE ++ R)))) := Lib.hid (by rw [HM.out, ← he]; simp only [List.append_assoc])
      replace BY := Lib.hid h1
      have hlm5 := len_of HM.out hT
      clear he h1 h2 hg
      clear d0 d1 d2 d3 d4 d5
      go_wp2_with fail
      go_loopw [3, 6] (fun vb vi wr => ∃ (j : Nat) (m : List Byte) (A' : Option Addr) (c : Nat), j ≤ x.tags.length ∧ vi = .int .i64 j ∧ vb = .slice A' m.length c ∧ Hid (T = m ++ ((x.tags.drop j).flatMap (be 2) ++ (be 1 x.effs.length ++ (x.effs.flatMap effE ++ R)))) ∧ Hid (Byt wr w.heap.size A' c m) ∧ Hid (Keeps (fun _ => False) w wr) ∧ Hid (Whole wr kb 40 #[.int .i64 x.name, .int .i64 x.cost, .int .i64 x.power, .int .i64 x.health, .slice Bt x.tags.length ct', .slice Be x.effs.length ce']) ∧ Hid (Lies wr w.heap.size Bt (x.tags.map (Value.int .i64))) ∧ Hid (EfLies wr w.heap.size Be x.effs)) (fun _ vi _ => x.tags.length - (intOf vi).toNat)
      case atStart => exact ⟨0, m5, A5, c5, by omega, rfl, rfl, HM, BY, KP, BX, HT0, HE0⟩
      case round =>
        clear HM BY KP BX HT0 HE0
        obtain ⟨j, m, A', c, hj, rfl, rfl, HM, BY, KP, BX, HT0, HE0⟩ := hrel
        have hlm := len_of HM.out hT
        obtain ⟨d0, d1, d2, d3, d4, d5⟩ := six BX.out
        by_cases hlj : j < x.tags.length
        · obtain ⟨g2, off2, hA2, hg2, hc⟩ := HT0.out j (.int .i64 x.tags[j]) (by simp [hlj])
          have hRk := fm_drop (be 2) x.tags j x.tags[j] (List.getElem?_eq_getElem hlj)
          generalize x.tags[j] = t at *
          replace HM : Hid (T = m ++ (be 2 t ++ ((x.tags.drop (j + 1)).flatMap (be 2) ++ (be 1 x.effs.length ++ (x.effs.flatMap effE ++ R))))) := Lib.hid (by rw [HM.out, hRk]; simp only [List.append_assoc])
          subst hA2
          clear hRk
          go_wp2_with fail
          refine (refPut_lit (t) 2 2 rfl _ (by first | rfl | exact wrap_mod _ | exact wrap_len _ (by omega)) (w.heap.size) A' c m wr BY.out KP.out.size (by decide) (by omega)).mono ?_
          rintro e W6 ⟨A6, c6, rfl, h1, h2⟩
          generalize he : m ++ be 2 (t) = m6 at h1 h2 ⊢
          replace HT0 := Lib.hid (HT0.out.keeps h2.keeps (fun k hk e => by have := (Byt.lt_ BY.out k e).1; omega) KP.out.size)
          replace HE0 := Lib.hid (HE0.out.keeps h2.keeps (fun k hk e => by have := (Byt.lt_ BY.out k e).1; omega) KP.out.size)
          replace KP := Lib.hid (KP.out.and h2.keeps (fun k hk e => by have := (Byt.lt_ BY.out k e).1; omega))
          replace BX := Lib.hid (whole_far BX.out BY.out h2 (by decide))
          replace HM : Hid (T = m6 ++ ((x.tags.drop (j + 1)).flatMap (be 2) ++ (be 1 x.effs.length ++ (x.effs.flatMap effE ++ R)))) := Lib.hid (by rw [HM.out, ← he]; simp only [List.append_assoc])
          replace BY := Lib.hid h1
          have hlm6 := len_of HM.out hT
          clear he h1 h2
          clear hc d0 d1 d2 d3 d4 d5
          go_wp2_with fail
          go_roundw
          case rel => exact ⟨j + 1, m6, A6, c6, by omega, by go_num, rfl, HM, BY, KP, BX, HT0, HE0⟩
          case measure => simp [intOf]; omega
        · replace HM : Hid (T = m ++ (be 1 x.effs.length ++ ((x.effs.drop 0).flatMap effE ++ R))) := Lib.hid (by rw [HM.out, fm_done (be 2) _ _ (by omega)]; rfl)
          have ka := (Keeps.refl (fun _ => False) wr).alloc (.cells #[.int .u8 ((x.effs.length) % 256)] 5)
          have HO : Hid (Byt (wr.alloc (.cells #[.int .u8 ((x.effs.length) % 256)] 5)) (w.heap.size) A' c m) := Lib.hid (own_keepsS BY.out ka (fun _ _ => id))
          have HL : Hid (Lies (wr.alloc (.cells #[.int .u8 ((x.effs.length) % 256)] 5)) (wr.heap.size + 1) (some ⟨wr.heap.size, 0, none⟩) [.int .u8 ((x.effs.length) % 256)]) := Lib.hid (Lies.row (fr := (0, 0)) (xs := [.int .u8 ((x.effs.length) % 256)]) (by have hwm := Whole.made wr 5 #[.int .u8 ((x.effs.length) % 256)]; exact hwm) (Nat.lt_succ_self _))
          have HV : Hid ([.int .u8 ((x.effs.length) % 256)] = bytesV (be 1 (x.effs.length))) := Lib.hid (by rw [be1V])
          have HZ := Lib.hid (Nat.le_trans KP.out.size ka.size)
          have HKA := Lib.hid ka
          clear ka
          go_wp2_with (at_builtin; (refine wpList_app rfl _ _ rfl (w.heap.size) A' c m rfl HO.out (wr.heap.size + 1) (some ⟨wr.heap.size, 0, none⟩) 1 1 [.int .u8 ((x.effs.length) % 256)] rfl HL.out (be 1 (x.effs.length)) HV.out rfl (by omega) HZ.out ?_); intro A7 c7 W7 h1 h2; generalize he : m ++ (be 1 (x.effs.length)) = m7 at h1 h2 ⊢)
          have hg := Gw.ahead HKA.out h2
          clear HO HL HV HZ HKA
          replace HE0 := Lib.hid (HE0.out.keeps hg.keeps (fun k hk e => by have := (Byt.lt_ BY.out k e).1; omega) KP.out.size)
          replace KP := Lib.hid (KP.out.and hg.keeps (fun k hk e => by have := (Byt.lt_ BY.out k e).1; omega))
          replace BX := Lib.hid (whole_far BX.out BY.out hg (by decide))
          replace HM : Hid (T = m7 ++ ((x.effs.drop 0).flatMap effE ++ R)) := Lib.hid (by rw [HM.out, ← he]; simp only [List.append_assoc])
          replace BY := Lib.hid h1
          have hlm7 := len_of HM.out hT
          clear he h1 h2 hg
          clear d0 d1 d2 d3 d4 d5 HT0 hlj hj
          go_wp2_with fail
          go_loopw [3, 7] (fun vb vi wr => ∃ (q : Nat) (m : List Byte) (A' : Option Addr) (c : Nat), q ≤ x.effs.length ∧ vi = .int .i64 q ∧ vb = .slice A' m.length c ∧ Hid (T = m ++ ((x.effs.drop q).flatMap effE ++ R)) ∧ Hid (Byt wr w.heap.size A' c m) ∧ Hid (Keeps (fun _ => False) w wr) ∧ Hid (Whole wr kb 40 #[.int .i64 x.name, .int .i64 x.cost, .int .i64 x.power, .int .i64 x.health, .slice Bt x.tags.length ct', .slice Be x.effs.length ce']) ∧ Hid (EfLies wr w.heap.size Be x.effs)) (fun _ vi _ => x.effs.length - (intOf vi).toNat)
          case atStart => exact ⟨0, m7, A7, c7, by omega, rfl, rfl, HM, BY, KP, BX, HE0⟩
          case round =>
            clear HM BY KP BX HE0
            obtain ⟨q, m, A', c, hq, rfl, rfl, HM, BY, KP, BX, HE0⟩ := hrel
            have hlm := len_of HM.out hT
            obtain ⟨d0, d1, d2, d3, d4, d5⟩ := six BX.out
            by_cases hlq : q < x.effs.length
            · obtain ⟨g2, off2, As, cs, Ac, cc, hgA2, hg2, e0, e1, e2, e3, hs0, hc0⟩ := HE0.out q x.effs[q] (List.getElem?_eq_getElem hlq)
              have hef := HKF.out.each _ (List.getElem_mem hlq)
              have hRk := fm_drop effE x.effs q x.effs[q] (List.getElem?_eq_getElem hlq)
              generalize x.effs[q] = e at *
              have hes := hef.slots
              have hec := hef.code
              replace HM : Hid (T = m ++ (be 1 e.on ++ (be 1 e.slots.length ++ ((e.slots.drop 0).flatMap (be 1) ++ (be 8 e.bound ++ (be 2 e.code.length ++ (e.code ++ ((x.effs.drop (q + 1)).flatMap effE ++ R)))))))) := Lib.hid (by
                rw [HM.out, hRk]
                unfold effE
                simp only [List.append_assoc, List.drop_zero])
              subst hgA2
              generalize hRR : (x.effs.drop (q + 1)).flatMap effE ++ R = RR at HM
              have HRR := Lib.hid hRR
              have ka := (Keeps.refl (fun _ => False) wr).alloc (.cells #[.int .i64 e.on, .slice As e.slots.length cs, .slice Ac e.code.length cc, .int .i64 e.bound] 43)
              have BE := Lib.hid (Whole.made wr 43 #[.int .i64 e.on, .slice As e.slots.length cs, .slice Ac e.code.length cc, .int .i64 e.bound])
              have HS0 := Lib.hid (hs0.keeps ka (fun _ _ => id) KP.out.size)
              have HC0 := Lib.hid (hc0.keeps ka (fun _ _ => id) KP.out.size)
              replace BX := Lib.hid (BX.out.keeps ka id)
              replace BY : Hid (Byt _ w.heap.size A' c m) := Lib.hid (own_keepsS BY.out ka (fun _ _ => id))
              replace HE0 := Lib.hid (HE0.out.keeps ka (fun _ _ => id) KP.out.size)
              replace KP := Lib.hid (KP.out.trans ka)
              clear hs0 hc0 hRk hRR hef ka
              have ka := (Keeps.refl (fun _ => False) (wr.alloc (.cells #[.int .i64 e.on, .slice As e.slots.length cs, .slice Ac e.code.length cc, .int .i64 e.bound] 43))).alloc (.cells #[.int .u8 ((e.on) % 256), .int .u8 ((e.slots.length) % 256)] 5)
              have HO : Hid (Byt ((wr.alloc (.cells #[.int .i64 e.on, .slice As e.slots.length cs, .slice Ac e.code.length cc, .int .i64 e.bound] 43)).alloc (.cells #[.int .u8 ((e.on) % 256), .int .u8 ((e.slots.length) % 256)] 5)) (w.heap.size) A' c m) := Lib.hid (own_keepsS BY.out ka (fun _ _ => id))
              have HL : Hid (Lies ((wr.alloc (.cells #[.int .i64 e.on, .slice As e.slots.length cs, .slice Ac e.code.length cc, .int .i64 e.bound] 43)).alloc (.cells #[.int .u8 ((e.on) % 256), .int .u8 ((e.slots.length) % 256)] 5)) ((wr.heap.size + 1) + 1) (some ⟨(wr.heap.size + 1), 0, none⟩) [.int .u8 ((e.on) % 256), .int .u8 ((e.slots.length) % 256)]) := Lib.hid (Lies.row (fr := (0, 0)) (xs := [.int .u8 ((e.on) % 256), .int .u8 ((e.slots.length) % 256)]) (by have hwm := Whole.made (wr.alloc (.cells #[.int .i64 e.on, .slice As e.slots.length cs, .slice Ac e.code.length cc, .int .i64 e.bound] 43)) 5 #[.int .u8 ((e.on) % 256), .int .u8 ((e.slots.length) % 256)]; rw [World.size_alloc] at hwm; exact hwm) (Nat.lt_succ_self _))
              have HV : Hid ([.int .u8 ((e.on) % 256), .int .u8 ((e.slots.length) % 256)] = bytesV (be 1 (e.on) ++ be 1 (e.slots.length))) := Lib.hid (by simp only [bytesV_append, be1V, List.cons_append, List.nil_append])
              have HZ := Lib.hid (Nat.le_trans KP.out.size ka.size)
              have HKA := Lib.hid ka
              clear ka
              go_wp2_with (at_builtin; (refine wpList_app rfl _ _ rfl (w.heap.size) A' c m rfl HO.out ((wr.heap.size + 1) + 1) (some ⟨(wr.heap.size + 1), 0, none⟩) 2 2 [.int .u8 ((e.on) % 256), .int .u8 ((e.slots.length) % 256)] rfl HL.out (be 1 (e.on) ++ be 1 (e.slots.length)) HV.out rfl (by omega) HZ.out ?_); intro A8 c8 W8 h1 h2; generalize he : m ++ (be 1 (e.on) ++ be 1 (e.slots.length)) = m8 at h1 h2 ⊢)
              have hg := Gw.ahead HKA.out h2
              clear HO HL HV HZ HKA
              replace HS0 := Lib.hid (HS0.out.keeps hg.keeps (fun k hk e => by have := (Byt.lt_ BY.out k e).1; omega) KP.out.size)
              replace HC0 := Lib.hid (HC0.out.keeps hg.keeps (fun k hk e => by have := (Byt.lt_ BY.out k e).1; omega) KP.out.size)
              replace HE0 := Lib.hid (HE0.out.keeps hg.keeps (fun k hk e => by have := (Byt.lt_ BY.out k e).1; omega) KP.out.size)
              replace KP := Lib.hid (KP.out.and hg.keeps (fun k hk e => by have := (Byt.lt_ BY.out k e).1; omega))
              replace BX := Lib.hid (whole_far BX.out BY.out hg (by decide))
              replace BE := Lib.hid (whole_far BE.out BY.out hg (by decide))
              replace HM : Hid (T = m8 ++ ((e.slots.drop 0).flatMap (be 1) ++ (be 8 e.bound ++ (be 2 e.code.length ++ (e.code ++ RR))))) := Lib.hid (by rw [HM.out, ← he]; simp only [List.append_assoc])
              replace BY := Lib.hid h1
              have hlm8 := len_of HM.out hT
              clear he h1 h2 hg
              clear e0 e1 e2 e3
              clear d0 d1 d2 d3 d4 d5
              generalize wr.heap.size = eb at *
              go_wp2_with fail
              go_loopw [3, 9] (fun vb vi wr => ∃ (z : Nat) (m : List Byte) (A' : Option Addr) (c : Nat), z ≤ e.slots.length ∧ vi = .int .i64 z ∧ vb = .slice A' m.length c ∧ Hid (T = m ++ ((e.slots.drop z).flatMap (be 1) ++ (be 8 e.bound ++ (be 2 e.code.length ++ (e.code ++ RR))))) ∧ Hid (Byt wr w.heap.size A' c m) ∧ Hid (Keeps (fun _ => False) w wr) ∧ Hid (Whole wr kb 40 #[.int .i64 x.name, .int .i64 x.cost, .int .i64 x.power, .int .i64 x.health, .slice Bt x.tags.length ct', .slice (some ⟨g2, off2, none⟩) x.effs.length ce']) ∧ Hid (Whole wr eb 43 #[.int .i64 e.on, .slice As e.slots.length cs, .slice Ac e.code.length cc, .int .i64 e.bound]) ∧ Hid (Lies wr w.heap.size As (e.slots.map (Value.int .i8))) ∧ Hid (Lies wr w.heap.size Ac (bytesV e.code)) ∧ Hid (EfLies wr w.heap.size (some ⟨g2, off2, none⟩) x.effs)) (fun _ vi _ => e.slots.length - (intOf vi).toNat)
              case atStart => exact ⟨0, m8, A8, c8, by omega, rfl, rfl, HM, BY, KP, BX, BE, HS0, HC0, HE0⟩
              case round =>
                clear HM BY KP BX BE HS0 HC0 HE0
                obtain ⟨z, m, A', c, hzl, rfl, rfl, HM, BY, KP, BX, BE, HS0, HC0, HE0⟩ := hrel
                have hlm := len_of HM.out hT
                obtain ⟨e0, e1, e2, e3⟩ := four BE.out
                by_cases hlz : z < e.slots.length
                · obtain ⟨g3, off3, hA3, hg3, hc⟩ := HS0.out z (.int .i8 e.slots[z]) (by simp [hlz])
                  have hRk := fm_drop (be 1) e.slots z e.slots[z] (List.getElem?_eq_getElem hlz)
                  generalize e.slots[z] = t at *
                  replace HM : Hid (T = m ++ (be 1 t ++ ((e.slots.drop (z + 1)).flatMap (be 1) ++ (be 8 e.bound ++ (be 2 e.code.length ++ (e.code ++ RR)))))) := Lib.hid (by rw [HM.out, hRk]; simp only [List.append_assoc])
                  subst hA3
                  clear hRk
                  have ka := (Keeps.refl (fun _ => False) wr).alloc (.cells #[.int .u8 ((t) % 256)] 5)
                  have HO : Hid (Byt (wr.alloc (.cells #[.int .u8 ((t) % 256)] 5)) (w.heap.size) A' c m) := Lib.hid (own_keepsS BY.out ka (fun _ _ => id))
                  have HL : Hid (Lies (wr.alloc (.cells #[.int .u8 ((t) % 256)] 5)) (wr.heap.size + 1) (some ⟨wr.heap.size, 0, none⟩) [.int .u8 ((t) % 256)]) := Lib.hid (Lies.row (fr := (0, 0)) (xs := [.int .u8 ((t) % 256)]) (by have hwm := Whole.made wr 5 #[.int .u8 ((t) % 256)]; exact hwm) (Nat.lt_succ_self _))
                  have HV : Hid ([.int .u8 ((t) % 256)] = bytesV (be 1 (t))) := Lib.hid (by rw [be1V])
                  have HZ := Lib.hid (Nat.le_trans KP.out.size ka.size)
                  have HKA := Lib.hid ka
                  clear ka
                  go_wp2_with (at_builtin; (refine wpList_app rfl _ _ rfl (w.heap.size) A' c m rfl HO.out (wr.heap.size + 1) (some ⟨wr.heap.size, 0, none⟩) 1 1 [.int .u8 ((t) % 256)] rfl HL.out (be 1 (t)) HV.out rfl (by omega) HZ.out ?_); intro A9 c9 W9 h1 h2; generalize he : m ++ (be 1 (t)) = m9 at h1 h2 ⊢)
                  have hg := Gw.ahead HKA.out h2
                  clear HO HL HV HZ HKA
                  replace HS0 := Lib.hid (HS0.out.keeps hg.keeps (fun k hk e => by have := (Byt.lt_ BY.out k e).1; omega) KP.out.size)
                  replace HC0 := Lib.hid (HC0.out.keeps hg.keeps (fun k hk e => by have := (Byt.lt_ BY.out k e).1; omega) KP.out.size)
                  replace HE0 := Lib.hid (HE0.out.keeps hg.keeps (fun k hk e => by have := (Byt.lt_ BY.out k e).1; omega) KP.out.size)
                  replace KP := Lib.hid (KP.out.and hg.keeps (fun k hk e => by have := (Byt.lt_ BY.out k e).1; omega))
                  replace BX := Lib.hid (whole_far BX.out BY.out hg (by decide))
                  replace BE := Lib.hid (whole_far BE.out BY.out hg (by decide))
                  replace HM : Hid (T = m9 ++ ((e.slots.drop (z + 1)).flatMap (be 1) ++ (be 8 e.bound ++ (be 2 e.code.length ++ (e.code ++ RR))))) := Lib.hid (by rw [HM.out, ← he]; simp only [List.append_assoc])
                  replace BY := Lib.hid h1
                  have hlm9 := len_of HM.out hT
                  clear he h1 h2 hg
                  clear hc e0 e1 e2 e3
                  go_wp2_with fail
                  go_roundw
                  case rel => exact ⟨z + 1, m9, A9, c9, by omega, by go_num, rfl, HM, BY, KP, BX, BE, HS0, HC0, HE0⟩
                  case measure => simp [intOf]; omega
                · replace HM : Hid (T = m ++ (be 8 e.bound ++ (be 2 e.code.length ++ (e.code ++ RR)))) := Lib.hid (by rw [HM.out, fm_done (be 1) _ _ (by omega)]; rfl)
                  clear HS0
                  go_wp2_with fail
                  refine (refPut_lit (e.bound) 8 8 rfl _ (by first | rfl | exact wrap_mod _ | exact wrap_len _ (by omega)) (w.heap.size) A' c m wr BY.out KP.out.size (by decide) (by omega)).mono ?_
                  rintro e W10 ⟨A10, c10, rfl, h1, h2⟩
                  generalize he : m ++ be 8 (e.bound) = m10 at h1 h2 ⊢
                  replace HC0 := Lib.hid (HC0.out.keeps h2.keeps (fun k hk e => by have := (Byt.lt_ BY.out k e).1; omega) KP.out.size)
                  replace HE0 := Lib.hid (HE0.out.keeps h2.keeps (fun k hk e => by have := (Byt.lt_ BY.out k e).1; omega) KP.out.size)
                  replace KP := Lib.hid (KP.out.and h2.keeps (fun k hk e => by have := (Byt.lt_ BY.out k e).1; omega))
                  replace BX := Lib.hid (whole_far BX.out BY.out h2 (by decide))
                  replace BE := Lib.hid (whole_far BE.out BY.out h2 (by decide))
                  replace HM : Hid (T = m10 ++ (be 2 e.code.length ++ (e.code ++ RR))) := Lib.hid (by rw [HM.out, ← he]; simp only [List.append_assoc])
                  replace BY := Lib.hid h1
                  have hlm10 := len_of HM.out hT
                  clear he h1 h2
                  clear e0 e1 e2 e3
                  obtain ⟨e0, e1, e2, e3⟩ := four BE.out
                  go_wp2_with fail
                  refine (refPut_lit (e.code.length) 2 2 rfl _ (by first | rfl | exact wrap_mod _ | exact wrap_len _ (by omega)) (w.heap.size) A10 c10 m10 W10 BY.out KP.out.size (by decide) (by omega)).mono ?_
                  rintro e W11 ⟨A11, c11, rfl, h1, h2⟩
                  generalize he : m10 ++ be 2 (e.code.length) = m11 at h1 h2 ⊢
                  replace HC0 := Lib.hid (HC0.out.keeps h2.keeps (fun k hk e => by have := (Byt.lt_ BY.out k e).1; omega) KP.out.size)
                  replace HE0 := Lib.hid (HE0.out.keeps h2.keeps (fun k hk e => by have := (Byt.lt_ BY.out k e).1; omega) KP.out.size)
                  replace KP := Lib.hid (KP.out.and h2.keeps (fun k hk e => by have := (Byt.lt_ BY.out k e).1; omega))
                  replace BX := Lib.hid (whole_far BX.out BY.out h2 (by decide))
                  replace BE := Lib.hid (whole_far BE.out BY.out h2 (by decide))
                  replace HM : Hid (T = m11 ++ (e.code ++ RR)) := Lib.hid (by rw [HM.out, ← he]; simp only [List.append_assoc])
                  replace BY := Lib.hid h1
                  have hlm11 := len_of HM.out hT
                  clear he h1 h2
                  clear e0 e1 e2 e3
                  obtain ⟨e0, e1, e2, e3⟩ := four BE.out
                  have HL := Lib.hid (HC0.out)
                  go_wp2_with (at_builtin; (refine wpList_app rfl _ _ rfl (w.heap.size) A11 c11 m11 rfl BY.out _ Ac e.code.length cc (bytesV e.code) rfl HL.out e.code rfl rfl (by omega) KP.out.size ?_); intro A12 c12 W12 h1 h2; generalize he : m11 ++ e.code = m12 at h1 h2 ⊢)
                  clear HL
                  replace HE0 := Lib.hid (HE0.out.keeps h2.keeps (fun k hk e => by have := (Byt.lt_ BY.out k e).1; omega) KP.out.size)
                  replace KP := Lib.hid (KP.out.and h2.keeps (fun k hk e => by have := (Byt.lt_ BY.out k e).1; omega))
                  replace BX := Lib.hid (whole_far BX.out BY.out h2 (by decide))
                  replace BE := Lib.hid (whole_far BE.out BY.out h2 (by decide))
                  replace HM : Hid (T = m12 ++ RR) := Lib.hid (by rw [HM.out, ← he]; simp only [List.append_assoc])
                  replace BY := Lib.hid h1
                  have hlm12 := len_of HM.out hT
                  clear he h1 h2
                  clear e0 e1 e2 e3
                  replace HM := Lib.hid (HM.out.trans (congrArg (fun z => m12 ++ z) HRR.out.symm))
                  go_wp2_with fail
                  go_roundw
                  case rel => exact ⟨q + 1, m12, A12, c12, by omega, by go_num, rfl, HM, BY, KP, BX, HE0⟩
                  case measure => simp [intOf]; omega
            · replace HM : Hid (T = m ++ R) := Lib.hid (by rw [HM.out, fm_done effE _ _ (by omega)]; rfl)
              go_wp2_with fail
              go_roundw
              case rel => exact ⟨i + 1, m, A', c, by omega, by go_num, rfl, Lib.hid (by rw [HRi.out]; exact HM.out), BY, KP⟩
              case measure => simp [intOf]; omega
    · have hme : T = m := by rw [HM.out, fm_done kndE _ _ (by omega), List.append_nil]
      subst hme
      clear HM
      go_wp2_with fail
      go_ret
      exact ⟨A', c, rfl, BY.out, KP.out⟩
end Go.Proofs.YtcmbdnjcfneinaaGreatDoor
