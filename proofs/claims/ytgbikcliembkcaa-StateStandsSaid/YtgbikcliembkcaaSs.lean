/-
  The law StateStands: the walk. Conditions: lengths within 10 ^ 15.
-/
import Derived.Test.YtgbikcliembkcaaPut
import Derived.Deep.RegionLaw
namespace Go.Proofs.Ytgbikcliembkcaa
open Go.RowKit
/-- A state that came in, in its box, and a place. -/
structure Src (w wr : World) (s : St) (Ap Ac Az : Option Addr) (cp cc cz : Nat) (pz pa : Int) : Prop where
  keeps : Keeps (fun _ => False) w wr
  box : Whole wr w.heap.size 27 #[.slice Ap s.players.length cp, .slice Ac s.cards.length cc, .slice Az s.zones.length cz, .int .i32 s.turn, .int .i64 s.whose, .int .i8 s.fin, .int .i64 s.winner]
  pbox : Whole wr (w.heap.size + 1) 42 #[.int .i64 pz, .int .i64 pa]
  src : StIn wr wr.heap.size s Ap Ac Az
theorem Src.calm {w wr w' : World} {s : St} {Ap Ac Az : Option Addr} {cp cc cz : Nat} {pz pa : Int} (h : Src w wr s Ap Ac Az cp cc cz pz pa) (hk : Keeps (fun _ => False) wr w') : Src w w' s Ap Ac Az cp cc cz pz pa :=
  ⟨h.keeps.trans hk, h.box.keeps hk id, h.pbox.keeps hk id, h.src.past hk⟩
theorem two {w : World} {g : Nat} {t : TypeId} {a b : Value} (H : Whole w g t #[a, b]) : w.cell? ⟨g, 0, none⟩ = some a ∧ w.cell? ⟨g, 1, none⟩ = some b ∧ w.frozen? ⟨g, 0, none⟩ = false ∧ w.frozen? ⟨g, 1, none⟩ = false := ⟨H.cellAt 0, H.cellAt 1, H.free 0, H.free 1⟩
theorem round_nat {n m : Int} (h : 0 < m) : ∃ k : Nat, roundP n m = (k : Int) ∧ (k : Int) < m := by
  obtain ⟨h1, h2⟩ := roundP_in (n := n) h
  exact ⟨(roundP n m).toNat, by omega, by omega⟩
theorem may_sizes {s : St} (h : MayBe s) : 1 ≤ s.cards.length ∧ 1 ≤ s.zones.length := by
  have := h.head
  rw [head_iff] at this
  omega
theorem row_le {s : St} {z : Nat} {r : List Int} (hz : s.zones[z]? = some r) : r.length ≤ s.zones.flatten.length := by
  conv => rhs; rw [split_at hz]
  simp only [List.flatten_append, List.flatten_cons, List.length_append]; omega
theorem small_rowS {s : St} {z : Nat} {r2 : List Int} (h : StSmall s) (hr : r2.length ≤ 1000000000) : StSmall (rowS s z r2) :=
  ⟨h.players, h.cards, by show (s.zones.set z r2).length ≤ _; rw [List.length_set]; exact h.zones, fun r hr' => by
    rcases List.mem_or_eq_of_mem_set hr' with h' | h'
    · exact h.rows r h'
    · rw [h']; exact hr⟩
/-- What the law asks of a state that may be. -/
theorem stands_plain {s : St} (h : MayBe s) (hs : StSmall s) (card pz pa : Int) : ∃ (c : Int) (z i zz at_ at2 : Nat) (r q q2 : List Int), roundP card s.cards.length = c ∧ s.zones[z]? = some r ∧ r[i]? = some c ∧ whereO s c = some (z, i) ∧
    roundP pz s.zones.length = zz ∧ s.zones[zz]? = some q ∧ roundP pa (q.length + 1 : Nat) = at_ ∧ at_ ≤ q.length ∧ (checkP (rowS s zz (putR q at_ c))).1 = 10 ∧
    (checkP (rowS s z (goneR r i))).1 = 10 ∧ roundP pz (rowS s z (goneR r i)).zones.length = zz ∧ (rowS s z (goneR r i)).zones[zz]? = some q2 ∧ roundP pa (q2.length + 1 : Nat) = at2 ∧ at2 ≤ q2.length ∧
    (checkP (rowS (rowS s z (goneR r i)) zz (putR q2 at2 c))).1 = 0 ∧ StSmall (rowS s zz (putR q at_ c)) ∧ StSmall (rowS s z (goneR r i)) ∧ StSmall (rowS (rowS s z (goneR r i)) zz (putR q2 at2 c)) := by
  obtain ⟨h1, h2⟩ := may_sizes h
  obtain ⟨c1, c2⟩ := roundP_in (n := card) (m := s.cards.length) (by omega)
  obtain ⟨z, i, r, hz, hi⟩ := stands h c1 c2
  obtain ⟨zz, hzz, hzl⟩ := round_nat (n := pz) (m := s.zones.length) (by omega)
  have hq : s.zones[zz]? = some s.zones[zz] := List.getElem?_eq_getElem (by omega)
  generalize s.zones[zz]'(by omega) = q at hq
  obtain ⟨at_, ha, hal⟩ := round_nat (n := pa) (m := (q.length + 1 : Nat)) (by omega)
  have hl : (rowS s z (goneR r i)).zones.length = s.zones.length := by simp [rowS]
  have hq2 : (rowS s z (goneR r i)).zones[zz]? = some ((rowS s z (goneR r i)).zones[zz]'(by omega)) := List.getElem?_eq_getElem (by omega)
  generalize (rowS s z (goneR r i)).zones[zz]'(by omega) = q2 at hq2
  obtain ⟨at2, ha2, hal2⟩ := round_nat (n := pa) (m := (q2.length + 1 : Nat)) (by omega)
  have hil := (List.getElem?_eq_some_iff.1 hi).1
  have hcl := h.head
  rw [head_iff] at hcl
  have hrl := row_le hz
  have hql := row_le hq
  have hgl := goneR_length hil
  have hrl2 := row_le hq2
  have hfl := rowS_length hz (goneR r i)
  have hfu := h.full
  have e1 := putR_length q at_ (roundP card s.cards.length)
  have e2 := putR_length q2 at2 (roundP card s.cards.length)
  have sm := small_rowS hs (z := z) (r2 := goneR r i) (by omega)
  exact ⟨_, z, i, zz, at_, at2, r, q, q2, rfl, hz, hi, where_at h hz hi, hzz, hq, ha, by omega, twice_not h hq at_ _, gone_not h hz (List.getElem?_eq_some_iff.1 hi).1, by rw [hl]; exact hzz, hq2, ha2, by omega, moved_may h hz hi hq2, small_rowS hs (by omega), sm, small_rowS sm (by omega)⟩
set_option maxRecDepth 100000 in
set_option maxHeartbeats 4000000 in
theorem stateStands_any (s : St) (Ap Ac Az : Option Addr) (cp cc cz : Nat) (card pz pa : Int) (w : World) (hx : StIn w w.heap.size s Ap Ac Az) (hs : StBig s) (hcb : -9223372036854775808 ≤ card ∧ card ≤ 9223372036854775807) (hz0 : -9223372036854775808 ≤ pz ∧ pz ≤ 9223372036854775807) (ha0 : -9223372036854775808 ≤ pa ∧ pa ≤ 9223372036854775807) :
    Calls Try.prog 5 #[stV s Ap Ac Az cp cc cz, .int .i64 card, .agg #[.int .i64 pz, .int .i64 pa]] w fun e w' => e = .returned (.bool true) ∧ Keeps (fun _ => False) w w' := by
  have HL := fun w (hx : StIn w w.heap.size s Ap Ac Az) => longS_any s Ap Ac Az w.heap.size cp cc cz w hx (Nat.le_refl _) hs.players hs.cards hs.zones hs.rows
  have HCP := fun w (hx : StIn w w.heap.size s Ap Ac Az) (h : StSmall s) => copyState_any s Ap Ac Az w.heap.size cp cc cz w hx (Nat.le_refl _) h
  unfold stV at *
  have A0 : Hid (Src w ((w.alloc (.cells #[.slice Ap s.players.length cp, .slice Ac s.cards.length cc, .slice Az s.zones.length cz, .int .i32 s.turn, .int .i64 s.whose, .int .i8 s.fin, .int .i64 s.winner] 27)).alloc (.cells #[.int .i64 pz, .int .i64 pa] 42)) s Ap Ac Az cp cc cz pz pa) :=
    Lib.hid ⟨((Keeps.refl _ w).alloc _).alloc _, (Whole.made w _ _).alloc _, by
      have h := Whole.made (w.alloc (.cells #[.slice Ap s.players.length cp, .slice Ac s.cards.length cc, .slice Az s.zones.length cz, .int .i32 s.turn, .int .i64 s.whose, .int .i8 s.fin, .int .i64 s.winner] 27)) 42 #[.int .i64 pz, .int .i64 pa]
      rw [show (w.alloc (.cells #[.slice Ap s.players.length cp, .slice Ac s.cards.length cc, .slice Az s.zones.length cz, .int .i32 s.turn, .int .i64 s.whose, .int .i8 s.fin, .int .i64 s.winner] 27)).heap.size = w.heap.size + 1 by simp] at h
      exact h, hx.past (((Keeps.refl (fun _ => False) w).alloc _).alloc _)⟩
  clear hx
  go_enter Try.func5, Try.ntmps5
  go_wp2_with fail
  generalize (w.alloc (.cells #[.slice Ap s.players.length cp, .slice Ac s.cards.length cc, .slice Az s.zones.length cz, .int .i32 s.turn, .int .i64 s.whose, .int .i8 s.fin, .int .i64 s.winner] 27)).alloc (.cells #[.int .i64 pz, .int .i64 pa] 42) = w0 at *
  refine (HL w0 A0.out.src).mono ?_
  rintro e w1 ⟨rfl, k1⟩
  have A1 := Lib.hid (A0.out.calm k1)
  clear HL A0 k1
  by_cases hb : 16777216 < (stSizeTo s : Int)
  · rw [decide_eq_true hb]
    clear hb
    go_wp2_with fail
    go_ret
    exact ⟨rfl, A1.out.keeps⟩
  rw [decide_eq_false hb]
  have hsz := stSizeTo_small (s := s) (by omega)
  have SM := Lib.hid (small_of_size hsz)
  have hfl : s.zones.flatten.length ≤ 1000000000 := by unfold stSize at hsz; omega
  have hcl : s.cards.length ≤ 1000000000 := by unfold stSize at hsz; omega
  have hzl : s.zones.length ≤ 1000000000 := by unfold stSize at hsz; omega
  clear hb hsz
  obtain ⟨a0, a1, a2, a3, a4, a5, a6, f0, f1, f2, f3, f4, f5, f6⟩ := seven A1.out.box
  obtain ⟨p0, p1, g0, g1⟩ := two A1.out.pbox
  go_wp2_with fail
  clear a0 a1 a2 a3 a4 a5 a6 f0 f1 f2 f3 f4 f5 f6 p0 p1 g0 g1
  refine (HCP w1 A1.out.src SM.out).mono ?_
  rintro e w2 ⟨Aq, Ad, Ay, cq, cd, cy, cells, rfl, hC2, kw2⟩
  have C2 := Lib.hid hC2.lies
  have A2 := Lib.hid (A1.out.calm kw2)
  clear A1 hC2 kw2
  go_wp2_with fail
  refine (check_any s Aq Ad Ay w2.heap.size cq cd cy w2 C2.out (Nat.le_refl _) SM.out).mono ?_
  rintro e w3 ⟨rfl, k3⟩
  have A3 := Lib.hid (A2.out.calm k3)
  clear A2 C2 k3
  by_cases hm : MayBe s
  rotate_left
  · have hwb := Lib.hid (where_bad hm card)
    obtain ⟨hq1, hq2⟩ := check_bad hm
    rw [hq1]
    generalize (checkP s).2 = q2 at *
    clear hq1 hm
    obtain ⟨a0, a1, a2, a3, a4, a5, a6, f0, f1, f2, f3, f4, f5, f6⟩ := seven A3.out.box
    obtain ⟨p0, p1, g0, g1⟩ := two A3.out.pbox
    go_wp2_with fail
    clear a0 a1 a2 a3 a4 a5 a6 f0 f1 f2 f3 f4 f5 f6 p0 p1 g0 g1
    refine (HCP w3 A3.out.src SM.out).mono ?_
    rintro e w4 ⟨Aq, Ad, Ay, cq, cd, cy, cells, rfl, hC4, kw4⟩
    have C4 := Lib.hid hC4.lies
    have A4 := Lib.hid (A3.out.calm kw4)
    clear A3 hC4 kw4
    go_wp2_with fail
    refine (where_any s card Aq Ad Ay w4.heap.size cq cd cy w4 C4.out (Nat.le_refl _) SM.out).mono ?_
    rintro e w5 ⟨rfl, k5⟩
    rw [hwb.out]
    have A5 := Lib.hid (A4.out.calm k5)
    clear A4 C4 k5
    unfold whereV
    have z1 : (decide (0 ≤ q2)) = true := decide_eq_true hq2
    go_wp2_with fail
    refine (works_any w5).mono ?_
    rintro e w6 ⟨rfl, k6⟩
    have A6 := Lib.hid (A5.out.calm k6)
    clear A5 k6
    go_wp2_with fail
    go_ret
    exact ⟨rfl, A6.out.keeps⟩
  rw [check_ok hm]
  have HM := Lib.hid hm
  obtain ⟨c, z, i, zz, at_, at2, r, q, q2, P1⟩ := stands_plain hm SM.out card pz pa
  have P := Lib.hid P1
  clear P1 hm
  obtain ⟨a0, a1, a2, a3, a4, a5, a6, f0, f1, f2, f3, f4, f5, f6⟩ := seven A3.out.box
  obtain ⟨p0, p1, g0, g1⟩ := two A3.out.pbox
  go_wp2_with fail
  clear a0 a1 a2 a3 a4 a5 a6 f0 f1 f2 f3 f4 f5 f6 p0 p1 g0 g1
  have HLEN : Hid (s.zones.flatten.length = s.cards.length) := Lib.hid HM.out.full
  go_loopw [12, 13] (fun vn vi wr => ∃ (y n : Nat), y ≤ s.zones.length ∧ vi = .int .i64 y ∧ vn = .int .i64 n ∧ Hid (n = (s.zones.take y).flatten.length) ∧ Hid (Src w wr s Ap Ac Az cp cc cz pz pa)) (fun _ vi _ => s.zones.length - (intOf vi).toNat)
  case atStart => exact ⟨0, 0, by omega, rfl, rfl, Lib.hid (by simp), A3⟩
  case round =>
    clear A3
    obtain ⟨y, n, hy, rfl, rfl, HN, A4⟩ := hrel
    obtain ⟨a0, a1, a2, a3, a4, a5, a6, f0, f1, f2, f3, f4, f5, f6⟩ := seven A4.out.box
    obtain ⟨p0, p1, g0, g1⟩ := two A4.out.pbox
    by_cases hlt : y < s.zones.length
    · obtain ⟨g, off, Ai, ci, hAz, hg, hcz, hli⟩ := A4.out.src.zones y s.zones[y] (List.getElem?_eq_getElem hlt)
      subst hAz
      have hxy : Hid (s.zones[y]? = some s.zones[y]) := Lib.hid (List.getElem?_eq_getElem hlt)
      have hrl := SM.out.rows s.zones[y] (List.getElem_mem hlt)
      have hnl : n + s.zones[y].length ≤ s.zones.flatten.length := by
        have := flat_take_le s.zones (y + 1)
        rw [flat_take_next s.zones y _ hxy.out, List.length_append, ← HN.out] at this
        exact this
      have HNX : Hid (n + s.zones[y].length = (s.zones.take (y + 1)).flatten.length) := Lib.hid (by rw [flat_take_next s.zones y _ hxy.out, List.length_append, ← HN.out])
      generalize s.zones[y] = x at *
      clear hli
      go_wp2_with fail
      clear a0 a1 a2 a3 a4 a5 a6 f0 f1 f2 f3 f4 f5 f6 p0 p1 g0 g1 hcz
      go_loopw [12, 14] (fun vn vi wr => ∃ (k : Nat), k ≤ x.length ∧ vi = .int .i64 k ∧ vn = .int .i64 (n + k : Nat) ∧ Hid (Src w wr s Ap Ac (some ⟨g, off, none⟩) cp cc cz pz pa)) (fun _ vi _ => x.length - (intOf vi).toNat)
      case atStart => exact ⟨0, by omega, rfl, by first | rfl | go_num, A4⟩
      case round =>
        clear A4
        obtain ⟨k, hk, rfl, rfl, A4⟩ := hrel
        obtain ⟨a0, a1, a2, a3, a4, a5, a6, f0, f1, f2, f3, f4, f5, f6⟩ := seven A4.out.box
        obtain ⟨p0, p1, g0, g1⟩ := two A4.out.pbox
        obtain ⟨g', off', Ai, ci, hAz, hgg, hcc, hli⟩ := A4.out.src.zones y x hxy.out
        obtain ⟨rfl, rfl⟩ : g = g' ∧ off = off' := by injection hAz with h; injection h with h1 h2; exact ⟨h1, h2⟩
        by_cases hkl : k < x.length
        · obtain ⟨gi, oi, hAi, hgi, hxk⟩ := hli k _ (by rw [List.getElem?_map, List.getElem?_eq_getElem hkl]; rfl)
          subst hAi
          have HW : Hid (whereO s x[k] = some (y, k)) := Lib.hid (where_at HM.out hxy.out (List.getElem?_eq_getElem hkl))
          generalize x[k] = xk at *
          clear hli
          have HF : ∀ w', Keeps (fun _ => False) wr w' → w'.cell? ⟨w.heap.size, 0, none⟩ = some (.slice Ap s.players.length cp) ∧ w'.cell? ⟨w.heap.size, 1, none⟩ = some (.slice Ac s.cards.length cc) ∧ w'.cell? ⟨w.heap.size, 2, none⟩ = some (.slice (some ⟨g, off, none⟩) s.zones.length cz) ∧ w'.cell? ⟨w.heap.size, 3, none⟩ = some (.int .i32 s.turn) ∧ w'.cell? ⟨w.heap.size, 4, none⟩ = some (.int .i64 s.whose) ∧ w'.cell? ⟨w.heap.size, 5, none⟩ = some (.int .i8 s.fin) ∧ w'.cell? ⟨w.heap.size, 6, none⟩ = some (.int .i64 s.winner) ∧
              w'.cell? ⟨g, off + y, none⟩ = some (.slice (some ⟨gi, oi, none⟩) x.length ci) ∧ w'.cell? ⟨gi, oi + k, none⟩ = some (.int .i64 xk) := fun w' hk' => by
            obtain ⟨a0, a1, a2, a3, a4, a5, a6, f0, f1, f2, f3, f4, f5, f6⟩ := seven (A4.out.calm hk').box
            exact ⟨a0, a1, a2, a3, a4, a5, a6, (hk'.cell hgg id).trans hcc, (hk'.cell hgi id).trans hxk⟩
          go_wp2_with fail
          clear hcc hxk
          clear a0 a1 a2 a3 a4 a5 a6 f0 f1 f2 f3 f4 f5 f6 p0 p1 g0 g1
          refine wp_region_held_drew (S := fun w' => Keeps (fun _ => False) wr w') (by kernel_rfl) ((Keeps.refl _ wr).drew) ?_
          intro hSn
          refine wpAnyH_take (i := 0) (v := ?v1) rfl (by kernel_rfl) (by kernel_rfl) (by kernel_rfl) (fun _ _ _ h => by first | exact h | exact absurd h.1 (fun e => by cases e)) (Or.inl ⟨by rfl, ?hy1⟩) (by assumption) ?rest1
          case hy1 =>
            intro w hSw
            obtain ⟨c0, c1, c2, c3, c4, c5, c6, cz0, cx0⟩ := HF w hSw
            go_simp
            try with_reducible rfl
          go_simp
          refine wpAnyH_take (i := 2) (v := ?v2) rfl (by kernel_rfl) (by kernel_rfl) (by kernel_rfl) (fun _ _ _ h => by first | exact h | exact absurd h.1 (fun e => by cases e)) (Or.inl ⟨by rfl, ?hy2⟩) (by assumption) ?rest2
          case hy2 =>
            intro w hSw
            obtain ⟨c0, c1, c2, c3, c4, c5, c6, cz0, cx0⟩ := HF w hSw
            go_simp
            try with_reducible rfl
          go_simp
          refine wpAnyH_take (i := 3) (v := ?v3) rfl (by kernel_rfl) (by kernel_rfl) (by kernel_rfl) (fun _ _ _ h => by first | exact h | exact absurd h.1 (fun e => by cases e)) (Or.inl ⟨by rfl, ?hy3⟩) (by assumption) ?rest3
          case hy3 =>
            intro w hSw
            obtain ⟨c0, c1, c2, c3, c4, c5, c6, cz0, cx0⟩ := HF w hSw
            go_simp
            try with_reducible rfl
          go_simp
          refine wpAnyH_take (i := 4) (v := ?v4) rfl (by kernel_rfl) (by kernel_rfl) (by kernel_rfl) (fun _ _ _ h => by first | exact h | exact absurd h.1 (fun e => by cases e)) (Or.inl ⟨by rfl, ?hy4⟩) (by assumption) ?rest4
          case hy4 =>
            intro w hSw
            obtain ⟨c0, c1, c2, c3, c4, c5, c6, cz0, cx0⟩ := HF w hSw
            go_simp
            try with_reducible rfl
          go_simp
          refine wpAnyH_take (i := 5) (v := ?v5) rfl (by kernel_rfl) (by kernel_rfl) (by kernel_rfl) (fun _ _ _ h => by first | exact h | exact absurd h.1 (fun e => by cases e)) (Or.inl ⟨by rfl, ?hy5⟩) (by assumption) ?rest5
          case hy5 =>
            intro w hSw
            obtain ⟨c0, c1, c2, c3, c4, c5, c6, cz0, cx0⟩ := HF w hSw
            go_simp
            try with_reducible rfl
          go_simp
          refine wpAnyH_take (i := 6) (v := ?v6) rfl (by kernel_rfl) (by kernel_rfl) (by kernel_rfl) (fun _ _ _ h => by first | exact h | exact absurd h.1 (fun e => by cases e)) (Or.inl ⟨by rfl, ?hy6⟩) (by assumption) ?rest6
          case hy6 =>
            intro w hSw
            obtain ⟨c0, c1, c2, c3, c4, c5, c6, cz0, cx0⟩ := HF w hSw
            go_simp
            try with_reducible rfl
          go_simp
          refine wpAnyH_take (i := 7) (v := ?v7) rfl (by kernel_rfl) (by kernel_rfl) (by kernel_rfl) (fun _ _ _ h => by first | exact h | exact absurd h.1 (fun e => by cases e)) (Or.inl ⟨by rfl, ?hy7⟩) (by assumption) ?rest7
          case hy7 =>
            intro w hSw
            obtain ⟨c0, c1, c2, c3, c4, c5, c6, cz0, cx0⟩ := HF w hSw
            go_simp
            try with_reducible rfl
          go_simp
          refine wpAnyH_take (i := 8) (v := ?v8) rfl (by kernel_rfl) (by kernel_rfl) (by kernel_rfl) (fun _ _ _ h => by first | exact h | exact absurd h.1 (fun e => by cases e)) (Or.inl ⟨by rfl, ?hy8⟩) (by assumption) ?rest8
          case hy8 =>
            intro w hSw
            obtain ⟨c0, c1, c2, c3, c4, c5, c6, cz0, cx0⟩ := HF w hSw
            go_simp
            try with_reducible rfl
          go_simp
          refine wpAnyH_take (i := 9) (v := ?v9) rfl (by kernel_rfl) (by kernel_rfl) (by kernel_rfl) (fun _ _ _ h => by first | exact h | exact absurd h.1 (fun e => by cases e)) (Or.inl ⟨by rfl, ?hy9⟩) (by assumption) ?rest9
          case hy9 =>
            intro w hSw
            obtain ⟨c0, c1, c2, c3, c4, c5, c6, cz0, cx0⟩ := HF w hSw
            go_simp
            try with_reducible rfl
          go_simp
          have A5 := Lib.hid (A4.out.calm (Keeps.refl _ wr).drew)
          refine wpAnyH_ready (rs := [1]) (by kernel_rfl) (by simp) ?_
          refine AllReadyH.cons rfl (fun K hK => ?_) AllReadyH.nil
          go_simp
          refine (HCP _ A5.out.src SM.out).mono ?_
          rintro e w5 ⟨Aq', Ad', Ay', cq', cd', cy', cells', rfl, hC, k5⟩
          have C6 := Lib.hid hC.lies
          have A6 := Lib.hid (A5.out.calm k5)
          clear A5 hC
          refine hK.out _ _ (hSn.trans k5) (fun hSn => ?_)
          clear hK K
          go_simp
          refine wpAnyH_ready (rs := [10]) (by kernel_rfl) (by simp) ?_
          refine AllReadyH.cons rfl (fun K hK => ?_) AllReadyH.nil
          go_simp
          refine (where_any s xk Aq' Ad' Ay' w5.heap.size cq' cd' cy' w5 C6.out (Nat.le_refl _) SM.out).mono ?_
          rintro e w6 ⟨rfl, k6⟩
          rw [HW.out, show whereV (some (y, k)) = .tuple #[.int .i64 (y : Int), .int .i64 (k : Int), .bool true] from rfl]
          have A7 := Lib.hid (A6.out.calm k6)
          clear A6 C6
          refine hK.out _ _ (hSn.trans k6) (fun hSn => ?_)
          clear hK K
          go_simp
          refine wpAnyH_take (i := 11) (v := ?v10) rfl (by kernel_rfl) (by kernel_rfl) (by kernel_rfl) (fun _ _ _ h => by first | exact h | exact absurd h.1 (fun e => by cases e)) (Or.inl ⟨by rfl, ?hy10⟩) (by assumption) ?rest10
          case hy10 =>
            intro w hSw
            obtain ⟨c0, c1, c2, c3, c4, c5, c6, cz0, cx0⟩ := HF w hSw
            go_simp
            try with_reducible rfl
          go_simp
          refine wpAnyH_take (i := 12) (v := ?v11) rfl (by kernel_rfl) (by kernel_rfl) (by kernel_rfl) (fun _ _ _ h => by first | exact h | exact absurd h.1 (fun e => by cases e)) (Or.inl ⟨by rfl, ?hy11⟩) (by assumption) ?rest11
          case hy11 =>
            intro w hSw
            obtain ⟨c0, c1, c2, c3, c4, c5, c6, cz0, cx0⟩ := HF w hSw
            go_simp
            try with_reducible rfl
          go_simp
          refine wpAnyH_take (i := 13) (v := ?v12) rfl (by kernel_rfl) (by kernel_rfl) (by kernel_rfl) (fun _ _ _ h => by first | exact h | exact absurd h.1 (fun e => by cases e)) (Or.inl ⟨by rfl, ?hy12⟩) (by assumption) ?rest12
          case hy12 =>
            intro w hSw
            obtain ⟨c0, c1, c2, c3, c4, c5, c6, cz0, cx0⟩ := HF w hSw
            go_simp
            try with_reducible rfl
          go_simp
          refine wpAnyH_take (i := 14) (v := ?v13) rfl (by kernel_rfl) (by kernel_rfl) (by kernel_rfl) (fun _ _ _ h => by first | exact h | exact absurd h.1 (fun e => by cases e)) (Or.inl ⟨by rfl, ?hy13⟩) (by assumption) ?rest13
          case hy13 =>
            intro w hSw
            obtain ⟨c0, c1, c2, c3, c4, c5, c6, cz0, cx0⟩ := HF w hSw
            go_simp
            try with_reducible rfl
          go_simp
          refine wpAnyH_take (i := 15) (v := ?v14) rfl (by kernel_rfl) (by kernel_rfl) (by kernel_rfl) (fun _ _ _ h => by first | exact h | exact absurd h.1 (fun e => by cases e)) (Or.inl ⟨by rfl, ?hy14⟩) (by assumption) ?rest14
          case hy14 =>
            intro w hSw
            obtain ⟨c0, c1, c2, c3, c4, c5, c6, cz0, cx0⟩ := HF w hSw
            go_simp
            try with_reducible rfl
          go_simp
          refine wpAnyH_take (i := 16) (v := ?v15) rfl (by kernel_rfl) (by kernel_rfl) (by kernel_rfl) (fun _ _ _ h => by first | exact h | exact absurd h.1 (fun e => by cases e)) (Or.inl ⟨by rfl, ?hy15⟩) (by assumption) ?rest15
          case hy15 =>
            intro w hSw
            obtain ⟨c0, c1, c2, c3, c4, c5, c6, cz0, cx0⟩ := HF w hSw
            go_simp
            try with_reducible rfl
          go_simp
          refine wpAnyH_take (i := 17) (v := ?v16) rfl (by kernel_rfl) (by kernel_rfl) (by kernel_rfl) (fun _ _ _ h => by first | exact h | exact absurd h.1 (fun e => by cases e)) (Or.inl ⟨by rfl, ?hy16⟩) (by assumption) ?rest16
          case hy16 =>
            intro w hSw
            obtain ⟨c0, c1, c2, c3, c4, c5, c6, cz0, cx0⟩ := HF w hSw
            go_simp
            try with_reducible rfl
          go_simp
          refine wpAnyH_done (by kernel_rfl) ?_ _
          go_simp
          go_wp2_with fail
          exact ⟨⟨k + 1, by omega, by first | rfl | go_num, by first | rfl | go_num | (congr 1; omega), A7⟩, by simp [intOf]; omega⟩
        · obtain rfl : k = x.length := by omega
          go_wp2_with fail
          exact ⟨⟨y + 1, n + x.length, by omega, by first | rfl | go_num, by first | rfl | go_num, HNX, A4⟩, by simp [intOf]; omega⟩
    · obtain rfl : y = s.zones.length := by omega
      have hn := HN.out
      rw [List.take_length, HLEN.out] at hn
      subst hn
      clear HN HLEN hlt
      obtain ⟨hc1, _⟩ := may_sizes HM.out
      have HRC := fun w => round_any card s.cards.length w hcb (by omega) (by omega)
      obtain ⟨P1, P2, P3, P4, P5, P6, P7, P8, P9, P10, P11, P12, P13, P14, P15, P16, P17, P18⟩ := P.out
      have PW := Lib.hid P4
      have PH := Lib.hid P2
      have PI := Lib.hid P3
      have PT := Lib.hid P9
      have PG := Lib.hid P10
      have PM := Lib.hid P15
      have S1 := Lib.hid P16
      have S2 := Lib.hid P17
      have S3 := Lib.hid P18
      have PU := Lib.hid (And.intro P5 (And.intro P6 (And.intro P7 P8)))
      have PV := Lib.hid (And.intro P11 (And.intro P12 (And.intro P13 P14)))
      rw [P1] at HRC
      clear P P1 P2 P3 P4 P5 P6 P7 P8 P9 P10 P11 P12 P13 P14 P15 P16 P17 P18
      go_wp2_with fail
      clear a0 a1 a2 a3 a4 a5 a6 f0 f1 f2 f3 f4 f5 f6 p0 p1 g0 g1
      refine (HRC _).mono ?_
      rintro e w5 ⟨rfl, rfl⟩
      clear HRC
      obtain ⟨a0, a1, a2, a3, a4, a5, a6, f0, f1, f2, f3, f4, f5, f6⟩ := seven A4.out.box
      obtain ⟨p0, p1, g0, g1⟩ := two A4.out.pbox
      go_wp2_with fail
      clear a0 a1 a2 a3 a4 a5 a6 f0 f1 f2 f3 f4 f5 f6 p0 p1 g0 g1
      refine (HCP _ A4.out.src SM.out).mono ?_
      rintro e w6 ⟨Aq, Ad, Ay, cq, cd, cy, cells, rfl, hC5, kw6⟩
      have C5 := Lib.hid hC5.lies
      have A5 := Lib.hid (A4.out.calm kw6)
      clear A4 hC5 kw6
      go_wp2_with fail
      refine (where_any s c _ _ _ w6.heap.size _ _ _ w6 C5.out (Nat.le_refl _) SM.out).mono ?_
      rintro e w7 ⟨rfl, k7⟩
      rw [PW.out, show whereV (some (z, i)) = .tuple #[.int .i64 (z : Int), .int .i64 (i : Int), .bool true] from rfl]
      have A7 := Lib.hid (A5.out.calm k7)
      clear A5 C5 k7
      obtain ⟨a0, a1, a2, a3, a4, a5, a6, f0, f1, f2, f3, f4, f5, f6⟩ := seven A7.out.box
      obtain ⟨p0, p1, g0, g1⟩ := two A7.out.pbox
      go_wp2_with fail
      clear a0 a1 a2 a3 a4 a5 a6 f0 f1 f2 f3 f4 f5 f6 p0 p1 g0 g1
      have hq0 : rowS s zz (putR q at_ c) = rowS s zz (putR q at_ c) := rfl
      generalize ht1 : rowS s zz (putR q at_ c) = t1 at S1 PT
      have HPU := put_any s Ap Ac Az cp cc cz c pz pa zz at_ q w7 A7.out.src SM.out hz0 ha0 PU.out.1 PU.out.2.1 PU.out.2.2.1 PU.out.2.2.2
      rw [ht1] at HPU
      unfold stV at HPU
      refine HPU.mono ?_
      rintro e w8 ⟨Bq, Bd, Be, bq, bd, be, rfl, hT, k8⟩
      have T8 := Lib.hid hT
      have A8 := Lib.hid (A7.out.calm k8)
      clear A7 hT k8 HPU hq0 ht1
      go_wp2_with fail
      refine (check_any t1 Bq Bd Be w8.heap.size bq bd be w8 T8.out (Nat.le_refl _) S1.out).mono ?_
      rintro e w9 ⟨rfl, k9⟩
      rw [PT.out]
      have A9 := Lib.hid (A8.out.calm k9)
      clear A8 T8 k9
      generalize (checkP t1).2 = d1 at *
      obtain ⟨a0, a1, a2, a3, a4, a5, a6, f0, f1, f2, f3, f4, f5, f6⟩ := seven A9.out.box
      obtain ⟨p0, p1, g0, g1⟩ := two A9.out.pbox
      go_wp2_with fail
      clear a0 a1 a2 a3 a4 a5 a6 f0 f1 f2 f3 f4 f5 f6 p0 p1 g0 g1
      refine (HCP _ A9.out.src SM.out).mono ?_
      rintro e wa ⟨Gp, Gc, Gz, gp, gc, gz, gcells, rfl, hG, ka⟩
      have CG := Lib.hid hG
      have AA := Lib.hid (A9.out.calm ka)
      have SKA : Hid (w9.heap.size ≤ wa.heap.size ∧ w.heap.size ≤ w9.heap.size) := Lib.hid ⟨ka.size, A9.out.keeps.size⟩
      clear A9 hG ka
      obtain ⟨gy, csy, hGz, hgy, hwy, _⟩ := own_whole CG.out.zones.own (by omega)
      subst hGz
      obtain ⟨Ai, ci, hci, hoi⟩ := CG.out.zones.row z r PH.out
      obtain ⟨ga, csa, hAi, _, hwa, _, hrc, _⟩ := own_whole hoi (by have := (List.getElem?_eq_some_iff.1 PI.out).1; omega)
      subst hAi
      have LI := Lib.hid (own_lies hoi)
      have cy0 : wa.cell? ⟨gy, z, none⟩ = some (.slice (some ⟨ga, 0, none⟩) r.length ci) := (own_cells CG.out.zones.own rfl (by have := (List.getElem?_eq_some_iff.1 PH.out).1; omega)).trans hci
      have hil : i < r.length := (List.getElem?_eq_some_iff.1 PI.out).1
      have hzl : z < s.zones.length := (List.getElem?_eq_some_iff.1 PH.out).1
      have hrl := SM.out.rows r (List.mem_of_getElem? PH.out)
      have hyl : gy < wa.heap.size := hwy.inside
      have kb : Keeps (fun _ => False) wa (wa.alloc (.cells #[.slice Gp s.players.length gp, .slice Gc s.cards.length gc, .slice (some ⟨gy, 0, none⟩) s.zones.length gz, .int .i32 s.turn, .int .i64 s.whose, .int .i8 s.fin, .int .i64 s.winner] 27)) := (Keeps.refl _ wa).alloc _
      have AB := Lib.hid (AA.out.calm kb)
      have BX := Lib.hid (Whole.made wa 27 #[.slice Gp s.players.length gp, .slice Gc s.cards.length gc, .slice (some ⟨gy, 0, none⟩) s.zones.length gz, .int .i32 s.turn, .int .i64 s.whose, .int .i8 s.fin, .int .i64 s.winner])
      have CB := Lib.hid (CG.out.keeps kb (fun _ _ => id))
      have LB := Lib.hid (LI.out.keep (fun b o hb => kb.cell hb id))
      have WB := Lib.hid (hwy.keeps kb id)
      clear hci hoi hwa
      obtain ⟨a0, a1, a2, a3, a4, a5, a6, f0, f1, f2, f3, f4, f5, f6⟩ := seven AA.out.box
      obtain ⟨p0, p1, g0, g1⟩ := two AA.out.pbox
      go_wp2_with (first
        | (refine wpList_slice_head rfl 36 3 _ _ rfl Try.underlying36 (by kernel_rfl) (some ⟨ga, 0, none⟩) r.length ci i rfl rfl (by omega) ?_)
        | (at_builtin
           refine wpList_append_cells _ rfl _ _ 36 rfl (wa.heap.size + 1) 3 (.int .i64 0) 1 8 Try.underlying36 info_int rfl (by decide) (.slice none 0 0) 0 [] rfl (World.ownsRow_nil _ _ _ _) wa.heap.size (some ⟨ga, 0, none⟩) i ci ((r.take i).map (Value.int .i64)) rfl (by have := LB.out.head i; rw [← List.map_take] at this; exact this) (by simp; omega) (cells_one_int _) (by simp only [maxLen]; omega) (by omega) (by simp) ?_
           intro A1 c1' w3 own1 hg1 _ _ _
           have O1 : Hid (w3.ownsRow (wa.heap.size + 1) 3 1 (.slice A1 i c1') i ((r.take i).map (Value.int .i64))) := Lib.hid (by rw [Nat.zero_add, List.nil_append] at own1; exact own1)
           have KK1 : Hid (Keeps (fun _ => False) (wa.alloc (.cells #[.slice Gp s.players.length gp, .slice Gc s.cards.length gc, .slice (some ⟨gy, 0, none⟩) s.zones.length gz, .int .i32 s.turn, .int .i64 s.whose, .int .i8 s.fin, .int .i64 s.winner] 27)) w3) := Lib.hid ((Keeps.refl _ _).grown hg1 (fun k hk => by cases hk))
           clear own1 hg1))
      have LC := Lib.hid (LB.out.keep (fun b o hb => KK1.out.cell (by simp; omega) id))
      have BC := BX.out.keeps KK1.out id
      have WC := Lib.hid (WB.out.keeps KK1.out id)
      have cy1 : w3.cell? ⟨gy, z, none⟩ = some (.slice (some ⟨ga, 0, none⟩) r.length ci) := (WC.out.cellAt z).trans ((hwy.cellAt z).symm.trans cy0)
      have SZ : Hid (wa.heap.size + 1 ≤ w3.heap.size) := Lib.hid (by have := KK1.out.size; simpa using this)
      clear LB AA CG LI cy0 kb a0 a1 a2 a3 a4 a5 a6 f0 f1 f2 f3 f4 f5 f6 p0 p1 g0 g1
      obtain ⟨b0, b1, b2, b3, b4, b5, b6, e0, e1, e2, e3, e4, e5, e6⟩ := seven BC
      clear BC
      obtain ⟨TA, hTA, hnews⟩ : ∃ TA, (if ci = i + 1 then some (⟨ga, 0, none⟩ : Addr) else some ⟨ga, i + 1, none⟩) = some TA ∧ Hid (Lies w3 wa.heap.size (some TA) ((r.drop (i + 1)).map (Value.int .i64))) := by
        have h := LC.out.tail (k := i + 1) (c := ci) (by simpa using hrc)
        rw [← List.map_drop] at h
        unfold tailA at h
        by_cases hci : ci = i + 1
        · rw [if_pos hci] at h ⊢; exact ⟨_, rfl, Lib.hid h⟩
        · rw [if_neg hci] at h ⊢
          refine ⟨_, rfl, Lib.hid ?_⟩
          simpa [Addr.add] using h
      have x1 : IntKind.i64.wrap ((i : Int) + 1) = (i : Int) + 1 := by rw [IntKind.wrap_i64]; omega
      have x2 : (0 : Int) ≤ (i : Int) + 1 := by omega
      have x3 : (i : Int) + 1 ≤ (r.length : Int) := by omega
      have x4 : ((i : Int) + 1).toNat = i + 1 := by omega
      have HE1 : Hid (i + (r.length - (i + 1)) = (goneR r i).length) := Lib.hid (by have := goneR_length hil; omega)
      have HE2 : Hid ((r.take i).map (Value.int .i64) ++ (r.drop (i + 1)).map (Value.int .i64) = (goneR r i).map (Value.int .i64)) := Lib.hid (by simp [goneR])
      go_region_law (refine wp_append_cells _ _ _ 36 rfl (wa.heap.size + 1) 3 (.int .i64 0) 1 8 Try.underlying36 info_int rfl (by decide) (.slice A1 i c1') i ((r.take i).map (Value.int .i64)) rfl O1.out.drew wa.heap.size (some TA) (r.length - (i + 1)) (ci - (i + 1)) ((r.drop (i + 1)).map (Value.int .i64)) rfl hnews.out.drew (by simp) (cells_one_int _) (by simp only [maxLen]; omega) (by omega) SZ.out ?_
                     intro A2 c2' w4 own2 hg2 _ _ _
                     rw [HE1.out, HE2.out] at own2
                     rw [HE1.out]
                     have KK2 : Hid (Keeps (fun _ => False) (wa.alloc (.cells #[.slice Gp s.players.length gp, .slice Gc s.cards.length gc, .slice (some ⟨gy, 0, none⟩) s.zones.length gz, .int .i32 s.turn, .int .i64 s.whose, .int .i8 s.fin, .int .i64 s.winner] 27)) w4) := Lib.hid ((KK1.out.drew).grown hg2 (fun k hk hlt => absurd (O1.out.lt k hk).1 (by simp at hlt; omega)))
                     have C5 := CB.out.keeps KK2.out (fun _ _ => id)
                     obtain ⟨gy', hgy', _, ⟨u0, hu0⟩, hfz, hC6⟩ := C5.putRow (z := z) hzl (own2.mono (by have := SKA.out; omega))
                     obtain rfl : gy = gy' := by injection hgy' with h; injection h
                     have C6 := Lib.hid hC6
                     obtain ⟨h0, h1, h2, h3, h4, h5, h6, j0, j1, j2, j3, j4, j5, j6⟩ := seven (BX.out.keeps KK2.out id)
                     clear hC6 C5 own2 hg2 hgy')
      go_wp2_with fail
      all_goals (
        have K5 : Hid (Keeps (fun _ => False) w (w4.setCell ⟨gy, z, none⟩ (.slice A2 (goneR r i).length c2'))) := Lib.hid ((AB.out.keeps.trans KK2.out).setCell (p := ⟨gy, z, none⟩) (fun h => absurd h (by have := SKA.out; show ¬ gy < _; omega)) _)
        have P5 := Lib.hid ((AB.out.pbox.keeps KK2.out id).putFar (p := ⟨gy, z, none⟩) (Whole.kind (AB.out.pbox.keeps KK2.out id) (WB.out.keeps KK2.out id) (by decide)) (.slice A2 (goneR r i).length c2'))
        have B5 := Lib.hid ((BX.out.keeps KK2.out id).putFar (p := ⟨gy, z, none⟩) (Whole.kind (BX.out.keeps KK2.out id) (WB.out.keeps KK2.out id) (by decide)) (.slice A2 (goneR r i).length c2'))
        clear KK2 KK1 AB BX CB WB LC O1 hnews SZ HE1 HE2 cy1 hu0 hfz b0 b1 b2 b3 b4 b5 b6 e0 e1 e2 e3 e4 e5 e6 h0 h1 h2 h3 h4 h5 h6 j0 j1 j2 j3 j4 j5 j6 x1 x2 x3 x4
        generalize w4.setCell ⟨gy, z, none⟩ (.slice A2 (goneR r i).length c2') = v5 at *
        have hzz : (rowS s z (goneR r i)).zones.length = s.zones.length := by simp [rowS]
        have ha : stV (rowS s z (goneR r i)) Gp Gc (some ⟨gy, 0, none⟩) gp gc gz = .agg #[.slice Gp s.players.length gp, .slice Gc s.cards.length gc, .slice (some ⟨gy, 0, none⟩) s.zones.length gz, .int .i32 s.turn, .int .i64 s.whose, .int .i8 s.fin, .int .i64 s.winner] := by unfold stV; rw [hzz]; rfl
        have HC2 := copyState_any (rowS s z (goneR r i)) Gp Gc (some ⟨gy, 0, none⟩) v5.heap.size gp gc gz v5 C6.out.lies (Nat.le_refl _) S2.out
        rw [ha] at HC2
        refine HC2.mono ?_
        rintro e v6 ⟨Dq, Dd, De, dq, dd, de, dcells, rfl, hD, k6⟩
        have D6 := Lib.hid hD.lies
        have K6 := Lib.hid (K5.out.trans k6)
        have P6 := Lib.hid (P5.out.keeps k6 id)
        have B6 := Lib.hid (B5.out.keeps k6 id)
        have C7 := Lib.hid (C6.out.keeps k6 (fun _ _ => id))
        clear K5 P5 B5 C6 hD k6 HC2
        have HPU := fun (w7 : World) (h : CopyIn w7 w9.heap.size (rowS s z (goneR r i)) Gp Gc (some ⟨gy, 0, none⟩) gp gc gz (gcells.set z (.slice A2 (goneR r i).length c2'))) => put_any (rowS s z (goneR r i)) Gp Gc (some ⟨gy, 0, none⟩) gp gc gz c pz pa zz at2 q2 w7 h.lies S2.out hz0 ha0 PV.out.1 PV.out.2.1 PV.out.2.2.1 PV.out.2.2.2
        rw [ha] at HPU
        generalize rowS (rowS s z (goneR r i)) zz (putR q2 at2 c) = t3 at *
        generalize rowS s z (goneR r i) = t2 at *
        unfold stV at HPU
        go_wp2_with fail
        refine (check_any t2 Dq Dd De v6.heap.size dq dd de v6 D6.out (Nat.le_refl _) S2.out).mono ?_
        rintro e v7 ⟨rfl, k7⟩
        rw [PG.out]
        generalize (checkP t2).2 = d2 at *
        have K7 := Lib.hid (K6.out.trans k7)
        have P7 := Lib.hid (P6.out.keeps k7 id)
        have B7 := Lib.hid (B6.out.keeps k7 id)
        have C8 := Lib.hid (C7.out.keeps k7 (fun _ _ => id))
        clear K6 P6 B6 C7 D6 k7
        obtain ⟨b0, b1, b2, b3, b4, b5, b6, e0, e1, e2, e3, e4, e5, e6⟩ := seven B7.out
        obtain ⟨p0, p1, g0, g1⟩ := two P7.out
        go_wp2_with fail
        clear b0 b1 b2 b3 b4 b5 b6 e0 e1 e2 e3 e4 e5 e6 p0 p1 g0 g1
        refine (HPU v7 C8.out).mono ?_
        rintro e v8 ⟨Eq, Ed, Ee, eq, ed, ee, rfl, hE, k8⟩
        have E8 := Lib.hid hE
        have K8 := Lib.hid (K7.out.trans k8)
        clear K7 P7 B7 C8 hE k8 HPU
        go_wp2_with fail
        refine (check_any t3 Eq Ed Ee v8.heap.size eq ed ee v8 E8.out (Nat.le_refl _) S3.out).mono ?_
        rintro e v9 ⟨rfl, k9⟩
        rw [PM.out]
        generalize (checkP t3).2 = d3 at *
        have K9 := Lib.hid (K8.out.trans k9)
        clear K8 E8 k9
        go_wp2_with fail
        refine (works_any v9).mono ?_
        rintro e v10 ⟨rfl, k10⟩
        have K10 := Lib.hid (K9.out.trans k10)
        clear K9 k10
        go_wp2_with fail
        go_ret
        exact ⟨rfl, K10.out⟩)
end Go.Proofs.Ytgbikcliembkcaa
