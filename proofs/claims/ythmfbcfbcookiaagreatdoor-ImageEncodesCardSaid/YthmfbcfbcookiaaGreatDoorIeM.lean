/-
  The reference's put: the walk; how a row of bytes grows. Conditions: at most eight bytes a number.
-/
import Derived.Test.YthmfbcfbcookiaaGreatDoorRiA
namespace Go.Proofs.YthmfbcfbcookiaaGreatDoor
open Go.RowKit
/-- A row has grown: nothing but its own block is turned; its new block is its old one, or new. -/
structure Gw (w w' : World) (v v' : Value) : Prop where
  keeps : Keeps (fun k => v.ownBlock = some k) w w'
  own : ∀ k, v'.ownBlock = some k → v.ownBlock = some k ∨ w.heap.size ≤ k
section
variable {w w1 w' w2 : World} {v v1 v' : Value}
theorem Gw.refl (w : World) (v : Value) : Gw w w v v := ⟨Keeps.refl _ _, fun _ h => .inl h⟩
theorem Gw.trans (h : Gw w w1 v v1) (h2 : Gw w1 w' v1 v') : Gw w w' v v' :=
  ⟨h.keeps.and h2.keeps (fun k hk e => (h.own k e).elim id fun h => absurd h (by omega)), fun k e => by
    rcases h2.own k e with h3 | h3
    · exact h.own k h3
    · exact .inr (Nat.le_trans h.keeps.size h3)⟩
theorem Gw.calm (h : Gw w w1 v v') (hk : Keeps (fun _ => False) w1 w2) : Gw w w2 v v' := ⟨h.keeps.and hk (fun _ _ h => h.elim), h.own⟩
theorem Gw.ahead (hk : Keeps (fun _ => False) w w1) (h : Gw w1 w' v v') : Gw w w' v v' := ⟨(hk.mono fun _ _ h => h.elim).and h.keeps (fun _ _ h => h), fun k e => (h.own k e).imp id fun h => Nat.le_trans hk.size h⟩
end
/-- What an append leaves of a row of bytes. -/
theorem Gw.of {w w' : World} {o : Obj} {v v' : Value} (h : (w.alloc o).grownBy w' v.ownBlock) (hor : v'.ownBlock = v.ownBlock ∨ v'.ownBlock = some (w.alloc o).heap.size) : Gw w w' v v' :=
  ⟨((Keeps.refl _ w).alloc o).grown h (fun k hk _ => hk), fun k e => by
    rcases hor with h1 | h1
    · rw [h1] at e; exact .inl e
    · rw [h1] at e; injection e with e; rw [World.size_alloc] at e; exact .inr (by omega)⟩
/-- A row of bytes of one's own. -/
abbrev Byt (w : World) (base : Nat) (A : Option Addr) (cap : Nat) (l : List Byte) : Prop := w.ownsRow base 5 1 (.slice A l.length cap) l.length (bytesV l)
theorem be_next (n k : Nat) (x : Int) : be (n + 1) (x / 256 ^ k) = be n (x / 256 ^ (k + 1)) ++ [BitVec.ofInt 8 (x / 256 ^ k)] := by
  rw [be, Int.pow_succ, ← Int.ediv_ediv_of_nonneg (Int.le_of_lt (Int.pow_pos (by decide)))]
theorem shift_mod (x : Int) (m : Int) (k : Int) (hm : 0 < m) (_ : 0 < k) : x % (m * (256 * k)) / m % 256 = x / m % 256 := by
  have h1 : x % (m * (256 * k)) = x - m * (256 * k) * (x / (m * (256 * k))) := Int.emod_def _ _
  have h2 : x - m * (256 * k) * (x / (m * (256 * k))) = x + m * (-(256 * k * (x / (m * (256 * k))))) := by rw [Int.mul_assoc, Int.mul_neg]; omega
  rw [h1, h2, Int.add_mul_ediv_left _ _ (by omega)]
  have h3 : -(256 * k * (x / (m * (256 * k)))) = 256 * (-(k * (x / (m * (256 * k))))) := by rw [Int.mul_assoc, Int.mul_neg]
  rw [h3, Int.add_mul_emod_self_left]
theorem byte_shift (x : Int) (j : Nat) (hj : j < 8) : IntKind.u64.wrap x / 2 ^ (8 * j) % 256 = ((BitVec.ofInt 8 (x / 256 ^ j)).toNat : Int) := by
  rw [oct_ofInt]
  have hw : IntKind.u64.wrap x = x % 18446744073709551616 := by simp [IntKind.wrap, IntKind.signed, IntKind.bits]
  rw [hw]
  match j, hj with
  | 0, _ => exact shift_mod x 1 72057594037927936 (by decide) (by decide)
  | 1, _ => exact shift_mod x 256 281474976710656 (by decide) (by decide)
  | 2, _ => exact shift_mod x 65536 1099511627776 (by decide) (by decide)
  | 3, _ => exact shift_mod x 16777216 4294967296 (by decide) (by decide)
  | 4, _ => exact shift_mod x 4294967296 16777216 (by decide) (by decide)
  | 5, _ => exact shift_mod x 1099511627776 65536 (by decide) (by decide)
  | 6, _ => exact shift_mod x 281474976710656 256 (by decide) (by decide)
  | 7, _ => exact shift_mod x 72057594037927936 1 (by decide) (by decide)
set_option maxHeartbeats 2000000 in
theorem refPut_any (x : Int) (n : Nat) (base : Nat) (A : Option Addr) (cap : Nat) (l : List Byte) (w : World) (ho : Byt w base A cap l) (hb : base ≤ w.heap.size) (hn : n ≤ 8) (hl : l.length ≤ 1000000000000) :
    Calls Tryz.prog 74 #[.slice A l.length cap, .int .i64 x, .int .i64 n] w fun e w' => ∃ A' cap', e = .returned (.slice A' (l ++ be n x).length cap') ∧ Byt w' base A' cap' (l ++ be n x) ∧ Gw w w' (.slice A l.length cap) (.slice A' (l ++ be n x).length cap') := by
  have HO := Lib.hid ho
  clear ho
  go_enter Tryz.func74, Tryz.ntmps74
  go_wp2_with fail
  go_loopw [0, 7] (fun vb vi wr => ∃ (k : Nat) (m : List Byte) (A' : Option Addr) (cap' : Nat), k ≤ n ∧ vi = .int .i64 ((k : Int) - 1) ∧ vb = .slice A' m.length cap' ∧ m.length ≤ 1000000000008 ∧ Hid (m = l ++ be (n - k) (x / 256 ^ k)) ∧ Hid (Byt wr base A' cap' m) ∧ Hid (Gw w wr (.slice A l.length cap) (.slice A' m.length cap'))) (fun _ vi _ => (intOf vi + 1).toNat)
  case atStart => exact ⟨n, l, A, cap, by omega, rfl, rfl, by omega, Lib.hid (by rw [Nat.sub_self]; simp [be]), HO, Lib.hid (Gw.refl _ _)⟩
  case round =>
    obtain ⟨k, m, A', cap', hk, rfl, rfl, hm, HM, HB, HG⟩ := hrel
    by_cases hlt : 0 < k
    · obtain ⟨j, rfl⟩ : ∃ j, k = j + 1 := ⟨k - 1, by omega⟩
      rw [show ((j + 1 : Nat) : Int) - 1 = (j : Int) by omega]
      have hbs := byte_shift x j (by omega)
      have HV : Hid (∀ u ∈ [Value.int .u8 (IntKind.u64.wrap x / 2 ^ (8 * j) % 256)], u.oneCell' = true) := Lib.hid (fun u hu => by rw [List.mem_singleton.1 hu]; rfl)
      have HBS := Lib.hid hbs
      have HO2 := Lib.hid (HB.out.alloc (.cells #[.int .u8 (IntKind.u64.wrap x / 2 ^ (8 * j) % 256)] 5))
      have HSZ : Hid (base ≤ wr.heap.size) := Lib.hid (by have := HG.out.keeps.size; omega)
      clear hbs
      go_wp2_with (at_builtin; (refine wpList_append_cells _ rfl (.tmp 14) (.tmp 21) 31 rfl base 5 (.int .u8 0) 1 1 Tryz.underlying31 info_u8 rfl (by decide) (.slice A' m.length cap') m.length (bytesV m) rfl HO2.out (wr.heap.size + 1) (some ⟨wr.heap.size, 0, none⟩) 1 1 [.int .u8 (IntKind.u64.wrap x / 2 ^ (8 * j) % 256)] rfl (Lies.row (t := 5) (fr := (0, 0)) (heap_alloc_new wr _) (by simp)) rfl HV.out (by simp only [maxLen]; omega) (by omega) (by have := HSZ.out; simp; omega) ?_); intro A2 c2 w2 h1 h2 h3 _ _)
      have hmn : l ++ be (n - j) (x / 256 ^ j) = m ++ [BitVec.ofInt 8 (x / 256 ^ j)] := by
        rw [show n - j = (n - (j + 1)) + 1 by omega, be_next, HM.out, List.append_assoc]
      have hlen : (m ++ [BitVec.ofInt 8 (x / 256 ^ j)]).length = m.length + 1 := by simp
      have HB2 : Hid (Byt w2 base A2 c2 (m ++ [BitVec.ofInt 8 (x / 256 ^ j)])) := Lib.hid (by
        unfold Byt
        rw [hlen, bytesV_append]
        rw [HBS.out] at h1
        exact h1)
      have HG2 : Hid (Gw w w2 (.slice A l.length cap) (.slice A2 (m ++ [BitVec.ofInt 8 (x / 256 ^ j)]).length c2)) := Lib.hid (by rw [hlen]; exact HG.out.trans (Gw.of h2 h3))
      have hm2 : m.length + 1 ≤ 1000000000008 := by
        have h5 := congrArg List.length hmn
        rw [hlen, List.length_append, be_length] at h5
        omega
      have HMN := Lib.hid hmn.symm
      clear h1 h2 h3 hmn HB HG HM HO2
      exact ⟨⟨j, m ++ [BitVec.ofInt 8 (x / 256 ^ j)], A2, c2, by omega, by first | rfl | go_num, by first | rfl | rw [hlen], by first | exact hm2 | (rw [hlen]; exact hm2), HMN, HB2, HG2⟩, by (simp [intOf] <;> omega)⟩
    · obtain rfl : k = 0 := by omega
      have hme : m = l ++ be n x := by have := HM.out; rw [Nat.sub_zero] at this; simpa using this
      subst hme
      clear HM
      go_wp2_with fail
      go_ret
      exact ⟨A', cap', rfl, HB.out, HG.out⟩
end Go.Proofs.YthmfbcfbcookiaaGreatDoor
/-
  The reference's Image: the walk. Conditions: a state that may be.
-/
namespace Go.Proofs.YthmfbcfbcookiaaGreatDoor
open Go.RowKit
/-- What stands while Image writes: the state's box, its lists, the bytes so far. -/
structure Ig (w W : World) (s : St) (Ap Ac Az : Option Addr) (cp cc cz : Nat) (A : Option Addr) (cap : Nat) (l : List Byte) : Prop where
  box : Whole W w.heap.size 27 (stC s Ap Ac Az cp cc cz)
  src : StIn W w.heap.size s Ap Ac Az
  byt : Byt W (w.heap.size + 1) A cap l
  keeps : Keeps (fun _ => False) w W
section
variable {w W W' : World} {s : St} {Ap Ac Az : Option Addr} {cp cc cz : Nat} {A A' : Option Addr} {cap cap' : Nat} {l l' : List Byte}
theorem Ig.calm (h : Ig w W s Ap Ac Az cp cc cz A cap l) (hk : Keeps (fun _ => False) W W') : Ig w W' s Ap Ac Az cp cc cz A cap l :=
  ⟨h.box.keeps hk id, h.src.keeps hk (fun _ _ => id) h.keeps.size, own_keepsS h.byt hk (fun _ _ => id), h.keeps.trans hk⟩
theorem Ig.grow (h : Ig w W s Ap Ac Az cp cc cz A cap l) (hb : Byt W' (w.heap.size + 1) A' cap' l') (hg : Gw W W' (.slice A l.length cap) (.slice A' l'.length cap')) : Ig w W' s Ap Ac Az cp cc cz A' cap' l' :=
  ⟨whole_keepsT h.box hg.keeps (own_ofKind h.byt) (by decide), h.src.keeps hg.keeps (fun k hk e => by have := (h.byt.lt k e).1; omega) h.keeps.size, hb, h.keeps.and hg.keeps (fun k hk e => by have := (h.byt.lt k e).1; omega)⟩
end
theorem byt_one (x : Int) : ((BitVec.ofInt 8 x).toNat : Int) = x % 256 := oct_ofInt x
theorem be_one (x : Int) : be 1 x = [BitVec.ofInt 8 x] := rfl
theorem fm_next {α : Type} (f : α → List Oct) (xs : List α) (k : Nat) (x : α) (h : xs[k]? = some x) : (xs.take (k + 1)).flatMap f = (xs.take k).flatMap f ++ f x := by
  rw [List.take_add_one, h]; simp
theorem refHeadB_any (w : World) : Calls Tryz.prog 73 #[] w fun e w' => ∃ (A : Option Addr) (c : Nat) (m : List Byte), m = headL ∧ e = .returned (.slice A m.length c) ∧ Byt w' w.heap.size A c m ∧ Keeps (fun _ => False) w w' := by
  refine (refHeadL_any w).mono ?_
  rintro e w' ⟨rfl, hw⟩
  refine ⟨some ⟨w.heap.size, 0, none⟩, 5, headL, rfl, rfl, ⟨rfl, .inr ⟨w.heap.size, 5, headA, rfl, Nat.le_refl _, by rw [hw]; exact Whole.made w _ _, Nat.le_refl _, by decide, rfl, rfl⟩⟩, by rw [hw]; exact (Keeps.refl _ _).alloc _⟩
theorem refPut_lit (x : Int) (n : Nat) (N : Int) (hN : N = (n : Int)) (base : Nat) (A : Option Addr) (cap : Nat) (l : List Byte) (w : World) (ho : Byt w base A cap l) (hb : base ≤ w.heap.size) (hn : n ≤ 8) (hl : l.length ≤ 1000000000000) :
    Calls Tryz.prog 74 #[.slice A l.length cap, .int .i64 x, .int .i64 N] w fun e w' => ∃ A' cap', e = .returned (.slice A' (l ++ be n x).length cap') ∧ Byt w' base A' cap' (l ++ be n x) ∧ Gw w w' (.slice A l.length cap) (.slice A' (l ++ be n x).length cap') := by
  subst hN
  exact refPut_any x n base A cap l w ho hb hn hl
theorem len_le {l m : List Byte} {n : Nat} (h : l = m) (hm : m.length ≤ n) : l.length ≤ n := h ▸ hm
set_option maxRecDepth 100000 in
set_option maxHeartbeats 8000000 in
theorem refImage_any (s : St) (Ap Ac Az : Option Addr) (cp cc cz : Nat) (w : World) (hx : StIn w w.heap.size s Ap Ac Az) (hc : (checkP s).1 = 0) (ht : in32 s.turn) :
    Calls Tryz.prog 32 #[.agg (stC s Ap Ac Az cp cc cz)] w fun e w' => ∃ A cap, e = .returned (.slice A (img s).length cap) ∧ Byt w' w.heap.size A cap (img s) ∧ Keeps (fun _ => False) w w' := by
  have hgood := (mayI hc).good ht
  have hfew := (mayI hc).few
  obtain ⟨hL1, hL2, hL3⟩ := hfew.lens
  have HG := Lib.hid hgood
  have HW := Lib.hid hfew
  have HL1 := Lib.hid hL1
  have HL2 := Lib.hid hL2
  have HL3 := Lib.hid hL3
  have hn1 := hfew.np
  have hn2 := hfew.nc
  have hn3 := hfew.nz
  obtain ⟨w0, hw0⟩ : ∃ z, z = w.alloc (.cells (stC s Ap Ac Az cp cc cz) 27) := ⟨_, rfl⟩
  have k0 : Keeps (fun _ => False) w w0 := by rw [hw0]; exact (Keeps.refl _ _).alloc _
  have B0 : Hid (Whole w0 w.heap.size 27 (stC s Ap Ac Az cp cc cz)) := Lib.hid (by rw [hw0]; exact Whole.made w _ _)
  have X0 := Lib.hid (hx.keeps k0 (fun _ _ => id) (Nat.le_refl _))
  have K0 := Lib.hid k0
  clear hx hc k0 hgood hfew hL1 hL2 hL3
  unfold stC at hw0
  unfold stC
  go_enter Tryz.func32, Tryz.ntmps32
  go_wp2_with fail
  rw [← hw0]
  clear hw0
  refine (refHeadB_any w0).mono ?_
  rintro e w1 ⟨A0, c0, mh, hmh, rfl, hb0, k1⟩
  have I1 : Hid (Ig w w1 s Ap Ac Az cp cc cz A0 c0 mh) := Lib.hid ⟨B0.out.keeps k1 id, X0.out.keeps k1 (fun _ _ => id) K0.out.size, own_base hb0 (fun k hk => by have := (hb0.lt k hk).1; have := B0.out.inside; omega), K0.out.trans k1⟩
  have hmhb : mh.length ≤ 5 := by rw [hmh]; decide
  have HMH := Lib.hid hmh
  clear B0 X0 K0 hb0 k1 hmh
  obtain ⟨a0, a1, a2, a3, a4, a5, a6, f0, f1, f2, f3, f4, f5, f6⟩ := seven I1.out.box
  clear f0 f1 f2 f3 f4 f5 f6
  go_wp2_with fail
  clear a0 a1 a2 a3 a4 a5 a6
  (with_reducible refine (refPut_lit (s.players.length) 1 1 rfl (w.heap.size + 1) A0 c0 mh w1 I1.out.byt (by have := I1.out.box.inside; omega) (by decide) (by omega)).mono ?_)
  rintro e w2 ⟨A1, c1, rfl, hb, hg⟩
  obtain ⟨m1, hl2⟩ : ∃ m, m = mh ++ be 1 (s.players.length : Int) := ⟨_, rfl⟩
  rw [← hl2] at hb hg ⊢
  have hbm1 : m1.length ≤ 6 := by rw [hl2, List.length_append, be_length]; omega
  have HEm1 := Lib.hid hl2
  clear hl2
  have I1' := Lib.hid (I1.out.grow hb hg)
  clear hb hg I1 
  have I1 := I1'
  clear I1'
  go_wp2_with fail
  have J2 := I1
  clear I1
  go_loopw [3, 4] (fun vb vi wr => ∃ (k : Nat) (l : List Byte) (A : Option Addr) (cap : Nat), k ≤ s.players.length ∧ vi = .int .i64 k ∧ vb = .slice A l.length cap ∧ Hid (l = m1 ++ (s.players.take k).flatMap plE) ∧ Hid (Ig w wr s Ap Ac Az cp cc cz A cap l)) (fun _ vi _ => s.players.length - (intOf vi).toNat)
  case atStart => exact ⟨0, m1, A1, c1, by omega, rfl, rfl, Lib.hid (by simp), J2⟩
  case round =>
    clear J2
    obtain ⟨k, l, A, cap, hk, rfl, rfl, HL, I⟩ := hrel
    have hll : l.length ≤ 42 := len_le HL.out (by rw [List.length_append]; have := HL1.out k; omega)
    obtain ⟨a0, a1, a2, a3, a4, a5, a6, f0, f1, f2, f3, f4, f5, f6⟩ := seven I.out.box
    clear f0 f1 f2 f3 f4 f5 f6
    by_cases hlt : k < s.players.length
    · have hpk : s.players[k]? = some s.players[k] := List.getElem?_eq_getElem hlt
      obtain ⟨g, off, hA, hgs, q0, q1, q2⟩ := PlLies.cells I.out.src.players k _ hpk
      subst hA
      have hgp := HG.out.pl _ (List.getElem_mem hlt)
      have HN := Lib.hid (fm_next plE s.players k _ hpk)
      clear hpk
      generalize s.players[k] = x at *
      obtain ⟨⟨l1, l2⟩, l3, l4⟩ := hgp
      have P1 := Lib.hid (Whole.made wr 44 #[.int .i32 x.life, .int .i32 x.energy, .bool x.out])
      have I' := Lib.hid (I.out.calm ((Keeps.refl _ wr).alloc (.cells #[.int .i32 x.life, .int .i32 x.energy, .bool x.out] 44)))
      clear I
      go_wp2_with fail
      clear a0 a1 a2 a3 a4 a5 a6 q0 q1 q2
      have I := I'
      clear I'
      generalize wr.alloc (.cells #[.int .i32 x.life, .int .i32 x.energy, .bool x.out] 44) = v0 at *
      generalize wr.heap.size = gx at *
      (with_reducible refine (refPut_lit (x.life) 4 4 rfl (w.heap.size + 1) A cap l v0 I.out.byt (by have := I.out.box.inside; omega) (by decide) (by omega)).mono ?_)
      rintro e v1 ⟨B1, d1, rfl, hb, hg⟩
      obtain ⟨la, hl2⟩ : ∃ m, m = l ++ be 4 (x.life : Int) := ⟨_, rfl⟩
      rw [← hl2] at hb hg ⊢
      have hbla : la.length ≤ 46 := by rw [hl2, List.length_append, be_length]; omega
      have HEla := Lib.hid hl2
      clear hl2
      have P2 := Lib.hid (whole_keepsT P1.out hg.keeps (own_ofKind I.out.byt) (by decide))
      have I' := Lib.hid (I.out.grow hb hg)
      clear hb hg I P1
      have I := I'
      clear I'
      have p1 : v1.cell? ⟨gx, 1, none⟩ = some (.int .i32 x.energy) := P2.out.cellAt 1
      go_wp2_with fail
      clear p1
      (with_reducible refine (refPut_lit (x.energy) 4 4 rfl (w.heap.size + 1) B1 d1 la v1 I.out.byt (by have := I.out.box.inside; omega) (by decide) (by omega)).mono ?_)
      rintro e v2 ⟨B2, d2, rfl, hb, hg⟩
      obtain ⟨m, hl2⟩ : ∃ m, m = la ++ be 4 (x.energy : Int) := ⟨_, rfl⟩
      rw [← hl2] at hb hg ⊢
      have hbm : m.length ≤ 50 := by rw [hl2, List.length_append, be_length]; omega
      have HEm := Lib.hid hl2
      clear hl2
      have P3 := Lib.hid (whole_keepsT P2.out hg.keeps (own_ofKind I.out.byt) (by decide))
      have I' := Lib.hid (I.out.grow hb hg)
      clear hb hg I P2
      have I := I'
      clear I'
      have p2 : v2.cell? ⟨gx, 2, none⟩ = some (.bool x.out) := P3.out.cellAt 2
      have HSZ : Hid (w.heap.size + 1 ≤ v2.heap.size) := Lib.hid (by have := I.out.box.inside; omega)
      cases hxo : x.out
      · rw [hxo] at p2
        have HXO := Lib.hid hxo
        clear hxo
        have HV : Hid (∀ u ∈ [Value.int .u8 0], u.oneCell' = true) := Lib.hid (fun u hu => by rw [List.mem_singleton.1 hu]; rfl)
        go_wp2_with (at_builtin; (refine wpList_append_cells _ rfl _ _ 31 rfl (w.heap.size + 1) 5 (.int .u8 0) 1 1 Tryz.underlying31 info_u8 rfl (by decide) (.slice B2 m.length d2) m.length (bytesV m) rfl (I.out.byt.alloc _) (v2.heap.size + 1) (some ⟨v2.heap.size, 0, none⟩) 1 1 [.int .u8 0] rfl (Lies.row (t := 5) (fr := (0, 0)) (heap_alloc_new v2 _) (by simp)) rfl HV.out (by simp only [maxLen]; omega) (by omega) (by have := HSZ.out; simp; omega) ?_); intro A2 c2 wz h1 h2 h3 _ _)
        have hlen : (m ++ be 1 (bit x.out)).length = m.length + 1 := by simp [be_length]
        have hb : Byt wz (w.heap.size + 1) A2 c2 (m ++ be 1 (bit x.out)) := by
          unfold Byt
          rw [hlen, bytesV_append, HXO.out]
          exact h1
        have I3 := Lib.hid (I.out.grow hb (by rw [hlen]; exact Gw.of h2 h3))
        have HE : Hid (m ++ be 1 (bit x.out) = m1 ++ (s.players.take (k + 1)).flatMap plE) := Lib.hid (by rw [HN.out, HEm.out, HEla.out, HL.out]; simp [plE, List.append_assoc])
        clear h1 h2 h3 hb I P3
        exact ⟨⟨k + 1, _, A2, c2, by omega, by first | rfl | go_num, by rw [hlen], HE, I3⟩, by (simp [intOf] <;> omega)⟩
      · rw [hxo] at p2
        have HXO := Lib.hid hxo
        clear hxo
        have HV : Hid (∀ u ∈ [Value.int .u8 1], u.oneCell' = true) := Lib.hid (fun u hu => by rw [List.mem_singleton.1 hu]; rfl)
        go_wp2_with (at_builtin; (refine wpList_append_cells _ rfl _ _ 31 rfl (w.heap.size + 1) 5 (.int .u8 0) 1 1 Tryz.underlying31 info_u8 rfl (by decide) (.slice B2 m.length d2) m.length (bytesV m) rfl (I.out.byt.alloc _) (v2.heap.size + 1) (some ⟨v2.heap.size, 0, none⟩) 1 1 [.int .u8 1] rfl (Lies.row (t := 5) (fr := (0, 0)) (heap_alloc_new v2 _) (by simp)) rfl HV.out (by simp only [maxLen]; omega) (by omega) (by have := HSZ.out; simp; omega) ?_); intro A2 c2 wz h1 h2 h3 _ _)
        have hlen : (m ++ be 1 (bit x.out)).length = m.length + 1 := by simp [be_length]
        have hb : Byt wz (w.heap.size + 1) A2 c2 (m ++ be 1 (bit x.out)) := by
          unfold Byt
          rw [hlen, bytesV_append, HXO.out]
          exact h1
        have I3 := Lib.hid (I.out.grow hb (by rw [hlen]; exact Gw.of h2 h3))
        have HE : Hid (m ++ be 1 (bit x.out) = m1 ++ (s.players.take (k + 1)).flatMap plE) := Lib.hid (by rw [HN.out, HEm.out, HEla.out, HL.out]; simp [plE, List.append_assoc])
        clear h1 h2 h3 hb I P3
        exact ⟨⟨k + 1, _, A2, c2, by omega, by first | rfl | go_num, by rw [hlen], HE, I3⟩, by (simp [intOf] <;> omega)⟩
    · obtain rfl : k = s.players.length := by omega
      clear hlt
      have HLF := HL.out
      rw [List.take_length] at HLF
      have HLP := Lib.hid HLF
      clear HL HLF
      go_wp2_with fail
      clear a0 a1 a2 a3 a4 a5 a6
      (with_reducible refine (refPut_lit (s.cards.length) 2 2 rfl (w.heap.size + 1) A cap l wr I.out.byt (by have := I.out.box.inside; omega) (by decide) (by omega)).mono ?_)
      rintro e w3 ⟨A2, c2, rfl, hb, hg⟩
      obtain ⟨m2, hl2⟩ : ∃ m, m = l ++ be 2 (s.cards.length : Int) := ⟨_, rfl⟩
      rw [← hl2] at hb hg ⊢
      have hbm2 : m2.length ≤ 44 := by rw [hl2, List.length_append, be_length]; omega
      have HEm2 := Lib.hid hl2
      clear hl2
      have I' := Lib.hid (I.out.grow hb hg)
      clear hb hg I 
      have I := I'
      clear I'
      go_wp2_with fail
      go_loopw [3, 7] (fun vb vi wr => ∃ (k : Nat) (l : List Byte) (A : Option Addr) (cap : Nat), k ≤ s.cards.length ∧ vi = .int .i64 k ∧ vb = .slice A l.length cap ∧ Hid (l = m2 ++ (s.cards.take k).flatMap cdE) ∧ Hid (Ig w wr s Ap Ac Az cp cc cz A cap l)) (fun _ vi _ => s.cards.length - (intOf vi).toNat)
      case atStart => exact ⟨0, m2, A2, c2, by omega, rfl, rfl, Lib.hid (by simp), I⟩
      case round =>
        clear I
        obtain ⟨k, l, A, cap, hk, rfl, rfl, HL, I⟩ := hrel
        have hll : l.length ≤ 4908 := len_le HL.out (by rw [List.length_append]; have := HL2.out k; omega)
        obtain ⟨a0, a1, a2, a3, a4, a5, a6, f0, f1, f2, f3, f4, f5, f6⟩ := seven I.out.box
        clear f0 f1 f2 f3 f4 f5 f6
        by_cases hlt : k < s.cards.length
        · have hpk : s.cards[k]? = some s.cards[k] := List.getElem?_eq_getElem hlt
          obtain ⟨g, off, hA, hgs, q0, q1, q2, q3, q4, q5⟩ := CdLies.cells I.out.src.cards k _ hpk
          subst hA
          have hgp := HG.out.cd _ (List.getElem_mem hlt)
          have HN := Lib.hid (fm_next cdE s.cards k _ hpk)
          clear hpk
          generalize s.cards[k] = x at *
          obtain ⟨⟨b1, b2⟩, ⟨b3, b4⟩, ⟨b5, b6⟩, ⟨b7, b8⟩, ⟨b9, b10⟩, b11, b12⟩ := hgp
          have P1 := Lib.hid (Whole.made wr 42 #[.int .i64 x.kind, .int .i64 x.owner, .int .i32 x.power, .int .i32 x.health, .int .i32 x.damage, .int .i32 x.marks])
          have I' := Lib.hid (I.out.calm ((Keeps.refl _ wr).alloc (.cells #[.int .i64 x.kind, .int .i64 x.owner, .int .i32 x.power, .int .i32 x.health, .int .i32 x.damage, .int .i32 x.marks] 42)))
          clear I
          go_wp2_with fail
          clear a0 a1 a2 a3 a4 a5 a6 q0 q1 q2 q3 q4 q5
          have I := I'
          clear I'
          generalize wr.alloc (.cells #[.int .i64 x.kind, .int .i64 x.owner, .int .i32 x.power, .int .i32 x.health, .int .i32 x.damage, .int .i32 x.marks] 42) = v0 at *
          generalize wr.heap.size = gx at *
          (with_reducible refine (refPut_lit (x.kind) 2 2 rfl (w.heap.size + 1) A cap l v0 I.out.byt (by have := I.out.box.inside; omega) (by decide) (by omega)).mono ?_)
          rintro e v1 ⟨B1, d1, rfl, hb, hg⟩
          obtain ⟨la, hl2⟩ : ∃ m, m = l ++ be 2 (x.kind : Int) := ⟨_, rfl⟩
          rw [← hl2] at hb hg ⊢
          have hbla : la.length ≤ 4910 := by rw [hl2, List.length_append, be_length]; omega
          have HEla := Lib.hid hl2
          clear hl2
          have P2 := Lib.hid (whole_keepsT P1.out hg.keeps (own_ofKind I.out.byt) (by decide))
          have I' := Lib.hid (I.out.grow hb hg)
          clear hb hg I P1
          have I := I'
          clear I'
          have p1 : v1.cell? ⟨gx, 1, none⟩ = some (.int .i64 x.owner) := P2.out.cellAt 1
          go_wp2_with fail
          clear p1
          (with_reducible refine (refPut_lit (x.owner) 1 1 rfl (w.heap.size + 1) B1 d1 la v1 I.out.byt (by have := I.out.box.inside; omega) (by decide) (by omega)).mono ?_)
          rintro e v2 ⟨B2, d2, rfl, hb, hg⟩
          obtain ⟨lb, hl2⟩ : ∃ m, m = la ++ be 1 (x.owner : Int) := ⟨_, rfl⟩
          rw [← hl2] at hb hg ⊢
          have hblb : lb.length ≤ 4911 := by rw [hl2, List.length_append, be_length]; omega
          have HElb := Lib.hid hl2
          clear hl2
          have P3 := Lib.hid (whole_keepsT P2.out hg.keeps (own_ofKind I.out.byt) (by decide))
          have I' := Lib.hid (I.out.grow hb hg)
          clear hb hg I P2
          have I := I'
          clear I'
          have p1 : v2.cell? ⟨gx, 2, none⟩ = some (.int .i32 x.power) := P3.out.cellAt 2
          go_wp2_with fail
          clear p1
          (with_reducible refine (refPut_lit (x.power) 4 4 rfl (w.heap.size + 1) B2 d2 lb v2 I.out.byt (by have := I.out.box.inside; omega) (by decide) (by omega)).mono ?_)
          rintro e v3 ⟨B3, d3, rfl, hb, hg⟩
          obtain ⟨lc, hl2⟩ : ∃ m, m = lb ++ be 4 (x.power : Int) := ⟨_, rfl⟩
          rw [← hl2] at hb hg ⊢
          have hblc : lc.length ≤ 4915 := by rw [hl2, List.length_append, be_length]; omega
          have HElc := Lib.hid hl2
          clear hl2
          have P4 := Lib.hid (whole_keepsT P3.out hg.keeps (own_ofKind I.out.byt) (by decide))
          have I' := Lib.hid (I.out.grow hb hg)
          clear hb hg I P3
          have I := I'
          clear I'
          have p1 : v3.cell? ⟨gx, 3, none⟩ = some (.int .i32 x.health) := P4.out.cellAt 3
          go_wp2_with fail
          clear p1
          (with_reducible refine (refPut_lit (x.health) 4 4 rfl (w.heap.size + 1) B3 d3 lc v3 I.out.byt (by have := I.out.box.inside; omega) (by decide) (by omega)).mono ?_)
          rintro e v4 ⟨B4, d4, rfl, hb, hg⟩
          obtain ⟨ld, hl2⟩ : ∃ m, m = lc ++ be 4 (x.health : Int) := ⟨_, rfl⟩
          rw [← hl2] at hb hg ⊢
          have hbld : ld.length ≤ 4919 := by rw [hl2, List.length_append, be_length]; omega
          have HEld := Lib.hid hl2
          clear hl2
          have P5 := Lib.hid (whole_keepsT P4.out hg.keeps (own_ofKind I.out.byt) (by decide))
          have I' := Lib.hid (I.out.grow hb hg)
          clear hb hg I P4
          have I := I'
          clear I'
          have p1 : v4.cell? ⟨gx, 4, none⟩ = some (.int .i32 x.damage) := P5.out.cellAt 4
          go_wp2_with fail
          clear p1
          (with_reducible refine (refPut_lit (x.damage) 4 4 rfl (w.heap.size + 1) B4 d4 ld v4 I.out.byt (by have := I.out.box.inside; omega) (by decide) (by omega)).mono ?_)
          rintro e v5 ⟨B5, d5, rfl, hb, hg⟩
          obtain ⟨le, hl2⟩ : ∃ m, m = ld ++ be 4 (x.damage : Int) := ⟨_, rfl⟩
          rw [← hl2] at hb hg ⊢
          have hble : le.length ≤ 4923 := by rw [hl2, List.length_append, be_length]; omega
          have HEle := Lib.hid hl2
          clear hl2
          have P6 := Lib.hid (whole_keepsT P5.out hg.keeps (own_ofKind I.out.byt) (by decide))
          have I' := Lib.hid (I.out.grow hb hg)
          clear hb hg I P5
          have I := I'
          clear I'
          have p1 : v5.cell? ⟨gx, 5, none⟩ = some (.int .i32 x.marks) := P6.out.cellAt 5
          go_wp2_with fail
          clear p1
          (with_reducible refine (refPut_lit (x.marks) 4 4 rfl (w.heap.size + 1) B5 d5 le v5 I.out.byt (by have := I.out.box.inside; omega) (by decide) (by omega)).mono ?_)
          rintro e v6 ⟨B6, d6, rfl, hb, hg⟩
          obtain ⟨lf, hl2⟩ : ∃ m, m = le ++ be 4 (x.marks : Int) := ⟨_, rfl⟩
          rw [← hl2] at hb hg ⊢
          have hblf : lf.length ≤ 4927 := by rw [hl2, List.length_append, be_length]; omega
          have HElf := Lib.hid hl2
          clear hl2
          have P7 := Lib.hid (whole_keepsT P6.out hg.keeps (own_ofKind I.out.byt) (by decide))
          have I' := Lib.hid (I.out.grow hb hg)
          clear hb hg I P6
          have I := I'
          clear I'
          have HE : Hid (lf = m2 ++ (s.cards.take (k + 1)).flatMap cdE) := Lib.hid (by rw [HN.out, HElf.out, HEle.out, HEld.out, HElc.out, HElb.out, HEla.out, HL.out]; simp [cdE, List.append_assoc])
          clear HL HN P7
          go_wp2_with fail
          exact ⟨⟨k + 1, _, B6, d6, by omega, by first | rfl | go_num, rfl, HE, I⟩, by (simp [intOf] <;> omega)⟩
        · obtain rfl : k = s.cards.length := by omega
          clear hlt
          have HLF := HL.out
          rw [List.take_length] at HLF
          have HLC := Lib.hid HLF
          clear HL HLF
          go_wp2_with fail
          clear a0 a1 a2 a3 a4 a5 a6
          obtain ⟨m3, hm3⟩ : ∃ m, m = l := ⟨_, rfl⟩
          have HM3 := Lib.hid hm3
          have hm3l : m3.length ≤ 4908 := by rw [hm3]; exact hll
          clear hm3
          go_loopw [3, 9] (fun vb vi wr => ∃ (k : Nat) (l : List Byte) (A : Option Addr) (cap : Nat), k ≤ s.zones.length ∧ vi = .int .i64 k ∧ vb = .slice A l.length cap ∧ Hid (l = m3 ++ (s.zones.take k).flatMap znE) ∧ Hid (Ig w wr s Ap Ac Az cp cc cz A cap l)) (fun _ vi _ => s.zones.length - (intOf vi).toNat)
          case atStart => exact ⟨0, l, A, cap, by omega, rfl, rfl, Lib.hid (by rw [HM3.out]; simp), I⟩
          case round =>
            clear I
            obtain ⟨k, l, A, cap, hk, rfl, rfl, HL, I⟩ := hrel
            have hll : l.length ≤ 13132 := len_le HL.out (by rw [List.length_append]; have := HL3.out k; omega)
            obtain ⟨a0, a1, a2, a3, a4, a5, a6, f0, f1, f2, f3, f4, f5, f6⟩ := seven I.out.box
            clear f0 f1 f2 f3 f4 f5 f6
            by_cases hlt : k < s.zones.length
            · have hzk : s.zones[k]? = some s.zones[k] := List.getElem?_eq_getElem hlt
              obtain ⟨g, off, Ai, ci, hA, hgs, hcz, _⟩ := I.out.src.zones k _ hzk
              subst hA
              have HZ := Lib.hid hzk
              have hzl := HW.out.zn _ (List.getElem_mem hlt)
              have HZG := Lib.hid (HG.out.zn _ (List.getElem_mem hlt))
              have HN := Lib.hid (fm_next znE s.zones k _ hzk)
              clear hzk
              generalize s.zones[k] = x at *
              go_wp2_with fail
              clear a0 a1 a2 a3 a4 a5 a6 hcz
              (with_reducible refine (refPut_lit (x.length) 2 2 rfl (w.heap.size + 1) A cap l wr I.out.byt (by have := I.out.box.inside; omega) (by decide) (by omega)).mono ?_)
              rintro e v1 ⟨B1, d1, rfl, hb, hg⟩
              obtain ⟨m4, hl2⟩ : ∃ m, m = l ++ be 2 (x.length : Int) := ⟨_, rfl⟩
              rw [← hl2] at hb hg ⊢
              have hbm4 : m4.length ≤ 13134 := by rw [hl2, List.length_append, be_length]; omega
              have HEm4 := Lib.hid hl2
              clear hl2
              have I' := Lib.hid (I.out.grow hb hg)
              clear hb hg I 
              have I := I'
              clear I'
              go_wp2_with fail
              go_loopw [3, 10] (fun vb vj wr => ∃ (j : Nat) (q : List Byte) (A : Option Addr) (cap : Nat), j ≤ x.length ∧ vj = .int .i64 j ∧ vb = .slice A q.length cap ∧ q.length = m4.length + 2 * j ∧ Hid (q = m4 ++ (x.take j).flatMap (be 2)) ∧ Hid (Ig w wr s Ap Ac (some ⟨g, off, none⟩) cp cc cz A cap q)) (fun _ vj _ => x.length - (intOf vj).toNat)
              case atStart => exact ⟨0, m4, B1, d1, by omega, rfl, rfl, by omega, Lib.hid (by simp), I⟩
              case round =>
                clear I
                obtain ⟨j, q, A, cap, hj, rfl, rfl, hql, HQ, I⟩ := hrel
                have HQL := Lib.hid hql
                have hqb : q.length ≤ 13646 := by omega
                clear hql
                obtain ⟨g', off', Aj, cj, hA', hgs', hcz, hzi⟩ := I.out.src.zones k _ HZ.out
                injection hA' with hA'
                injection hA' with e1 e2
                subst e1 e2
                obtain ⟨a0, a1, a2, a3, a4, a5, a6, f0, f1, f2, f3, f4, f5, f6⟩ := seven I.out.box
                clear f0 f1 f2 f3 f4 f5 f6
                by_cases hlj : j < x.length
                · obtain ⟨g2, off2, rfl, hg2, hcx⟩ := hzi j (.int .i64 x[j]) (by simp [hlj])
                  have HXN := Lib.hid (fm_next (be 2) x j x[j] (List.getElem?_eq_getElem hlj))
                  generalize x[j] = y at *
                  go_wp2_with fail
                  clear a0 a1 a2 a3 a4 a5 a6 hcz hcx
                  (with_reducible refine (refPut_lit (y) 2 2 rfl (w.heap.size + 1) A cap q wr I.out.byt (by have := I.out.box.inside; omega) (by decide) (by omega)).mono ?_)
                  rintro e v2 ⟨B2, d2, rfl, hb, hg⟩
                  obtain ⟨qn, hl2⟩ : ∃ m, m = q ++ be 2 (y : Int) := ⟨_, rfl⟩
                  rw [← hl2] at hb hg ⊢
                  have hbqn : qn.length ≤ 13648 := by rw [hl2, List.length_append, be_length]; omega
                  have HEqn := Lib.hid hl2
                  clear hl2
                  have I' := Lib.hid (I.out.grow hb hg)
                  clear hb hg I 
                  have I := I'
                  clear I'
                  have HE : Hid (qn = m4 ++ (x.take (j + 1)).flatMap (be 2)) := Lib.hid (by rw [HXN.out, HEqn.out, HQ.out, List.append_assoc])
                  clear HQ HXN
                  go_wp2_with fail
                  exact ⟨⟨j + 1, _, B2, d2, by omega, by first | rfl | go_num, rfl, by rw [HEqn.out, List.length_append, be_length, HQL.out]; omega, HE, I⟩, by (simp [intOf] <;> omega)⟩
                · obtain rfl : j = x.length := by omega
                  have HE : Hid (q = m3 ++ (s.zones.take (k + 1)).flatMap znE) := Lib.hid (by rw [HN.out, HQ.out, List.take_length, HEm4.out, HL.out]; simp [znE, List.append_assoc])
                  clear hzi
                  go_wp2_with fail
                  go_roundw
                  case rel => exact ⟨k + 1, q, A, cap, by omega, by go_num, rfl, HE, I⟩
                  case measure => (simp [intOf] <;> omega)
            · obtain rfl : k = s.zones.length := by omega
              clear hlt
              have HLF := HL.out
              rw [List.take_length] at HLF
              have HLZ := Lib.hid HLF
              obtain ⟨t1, t2⟩ := ht
              clear HL HLF
              go_wp2_with fail
              clear a0 a1 a2 a3 a4 a5 a6
              (with_reducible refine (refPut_lit (s.turn) 4 4 rfl (w.heap.size + 1) A cap l wr I.out.byt (by have := I.out.box.inside; omega) (by decide) (by omega)).mono ?_)
              rintro e v1 ⟨B1, d1, rfl, hb, hg⟩
              obtain ⟨m, hl2⟩ : ∃ m, m = l ++ be 4 (s.turn : Int) := ⟨_, rfl⟩
              rw [← hl2] at hb hg ⊢
              have hbm : m.length ≤ 13136 := by rw [hl2, List.length_append, be_length]; omega
              have HEm := Lib.hid hl2
              clear hl2
              have I' := Lib.hid (I.out.grow hb hg)
              clear hb hg I 
              have I := I'
              clear I'
              obtain ⟨a0, a1, a2, a3, a4, a5, a6, f0, f1, f2, f3, f4, f5, f6⟩ := seven I.out.box
              clear f0 f1 f2 f3 f4 f5 f6
              have HSZ : Hid (w.heap.size + 1 ≤ v1.heap.size) := Lib.hid (by have := I.out.box.inside; omega)
              have HV : Hid (∀ u ∈ [Value.int .u8 (s.whose % 256), .int .u8 (s.fin % 256), .int .u8 (s.winner % 256)], u.oneCell' = true) := Lib.hid (fun u hu => by
                rcases List.mem_cons.1 hu with h | hu
                · rw [h]; rfl
                rcases List.mem_cons.1 hu with h | hu
                · rw [h]; rfl
                rw [List.mem_singleton.1 hu]; rfl)
              go_wp2_with (at_builtin; (refine wpList_append_cells _ rfl _ _ 31 rfl (w.heap.size + 1) 5 (.int .u8 0) 1 1 Tryz.underlying31 info_u8 rfl (by decide) (.slice B1 m.length d1) m.length (bytesV m) rfl (I.out.byt.alloc _) (v1.heap.size + 1) (some ⟨v1.heap.size, 0, none⟩) 3 3 [.int .u8 (s.whose % 256), .int .u8 (s.fin % 256), .int .u8 (s.winner % 256)] rfl (Lies.row (t := 5) (fr := (0, 0)) (heap_alloc_new v1 _) (by simp)) rfl HV.out (by simp only [maxLen]; omega) (by omega) (by have := HSZ.out; simp; omega) ?_); intro A2 c2 wz h1 h2 h3 _ _)
              have hime : img s = m ++ (be 1 s.whose ++ (be 1 s.fin ++ be 1 s.winner)) := by
                rw [HEm.out, HLZ.out, HM3.out, HLC.out, HEm2.out, HLP.out, HEm1.out, HMH.out]
                simp [img, List.append_assoc]
              have hlen : (img s).length = m.length + 3 := by rw [hime]; simp [be_length]
              have hb : Byt wz (w.heap.size + 1) A2 c2 (img s) := by
                unfold Byt
                rw [hlen, hime, bytesV_append]
                rw [show bytesV (be 1 s.whose ++ (be 1 s.fin ++ be 1 s.winner)) = [.int .u8 (s.whose % 256), .int .u8 (s.fin % 256), .int .u8 (s.winner % 256)] by
                  simp only [be_one, bytesV, byteV, List.singleton_append, List.map_cons, List.map_nil, byt_one]]
                exact h1
              have I3 := Lib.hid (I.out.grow hb (by rw [hlen]; exact Gw.of h2 h3))
              clear h1 h2 h3 hb I
              go_ret
              exact ⟨A2, c2, by rw [hlen]; rfl, own_base I3.out.byt (fun k hk => by have := (I3.out.byt.lt k hk).1; omega), I3.out.keeps⟩
end Go.Proofs.YthmfbcfbcookiaaGreatDoor
