/-
  DiceDraws: one thing asked: All, Order, and the five together: the walk. Conditions: Go's own limits.
-/
import Derived.Test.YtalngbdjabjahaaDoorDrawV
import Derived.Test.YtalngbdjabjahaaDoorDrawC
namespace Go.Proofs.YtalngbdjabjahaaDoor
open Go.RowKit
theorem row_keepsN {w : World} {q : Nat} {B n : Nat} {v : Value} {e : TypeId} {xs : List Value} {w' : World} (h : w.ownsRow B e 1 v n xs) (hk : Keeps (fun b => b = q) w w') (hq : q < B) : w'.ownsRow B e 1 v n xs := own_keepsS h hk (fun b hb e => by have := (h.lt b hb).1; omega)
section
variable {g q p z c : Nat} {rows : List Sl} {A : Option Addr} {kind on n : Int} {w : World}
set_option maxRecDepth 100000 in
set_option maxHeartbeats 2000000 in
theorem does_all (hn : -9223372036854775808 ≤ n ∧ n ≤ 9223372036854775807) (h : Dw w g q p z rows A c) :
    Calls Tryd.prog 14 #[.pointer (some ⟨g, 0, none⟩), .pointer (some ⟨q, 0, none⟩), .agg #[.int .i64 4, .int .i64 on, .int .i64 n], .pointer (some ⟨p, 0, none⟩)] w (DoesPost g q p rows A c w) := by
  have HK : Hid (Keeps (fun _ => False) w (w.alloc (.cells #[.int .i64 4, .int .i64 on, .int .i64 n] 70))) := Lib.hid ((Keeps.refl _ w).alloc _)
  have H := Lib.hid (opDw h #[.int .i64 4, .int .i64 on, .int .i64 n] 70)
  clear h
  have hq := Whole.inside H.out.doc
  obtain ⟨hm0, hm1⟩ := withV_bd n 20 (by decide)
  have hin := within_any n hn 20 ⟨by decide, by decide⟩ (w.alloc (.cells #[.int .i64 4, .int .i64 on, .int .i64 n] 70))
  generalize withV n 20 = m at *
  obtain ⟨k, rfl⟩ : ∃ k : Nat, m = k := ⟨m.toNat, by omega⟩
  go_enter Tryd.func14, Tryd.ntmps14
  go_wp2_with fail
  refine hin.mono ?_
  rintro e w1 ⟨rfl, rfl⟩
  clear hin
  go_wp2_with fail
  refine (taken_any g z k (by omega) _ H.out.dice).mono ?_
  rintro e w1 ⟨⟨At, ct, rfl, hO⟩, hd, hk⟩
  have HR := Lib.hid (Whole.keeps H.out.doc hk (fun e => H.out.two e.symm))
  have HD := Lib.hid hd; have HK1 := Lib.hid hk; have HO := Lib.hid hO
  clear hd hk hO
  go_wp2_with fail
  refine (nexts_any q z k (by omega) _ HR.out).mono ?_
  rintro e w2 ⟨⟨An, cn, rfl, hL⟩, hr, hk⟩
  have HL := Lib.hid hL
  have HO2 := Lib.hid (row_keepsN HO.out hk hq)
  obtain ⟨hD, hK⟩ := H.out.both HD.out HK1.out hr hk
  have HW := Lib.hid hD; have HK2 := Lib.hid hK
  clear hD hK hr hk HD HK1 HR hL HO
  have hlen := drawsOf_length k z
  generalize drawsOf z k = x at *
  generalize placeN k z = z' at *
  subst hlen
  go_wp2_with fail
  refine (sameDraws_any x x At An w2.heap.size w2.heap.size ct cn w2 (own_lies HO2.out) HL.out (by omega)).mono ?_
  rintro e w3 ⟨rfl, d, rfl⟩
  have hdec : decide (x = x) = true := by simp
  have HW3 := Lib.hid (HW.out.past ((Keeps.refl _ w2).drewN d))
  have HK3 := Lib.hid (HK2.out.drewN d)
  go_wp2_with fail
  go_ret
  exact DoesPost.from ⟨by simp, _, _, _, _, HW3.out, fun b hb => .inl hb, HK3.out⟩ HK.out
theorem row_of_ints {w : World} {B k : Nat} {l : List Int} (h : Whole w B 3 (ints l)) (hl : l.length = k) (hk : k ≤ 1000) : w.ownsRow B 3 1 (.slice (some ⟨B, 0, none⟩) k k) k (l.map (Value.int .i64)) :=
  ⟨by simp [hl], .inr ⟨B, k, ints l, rfl, Nat.le_refl _, h, Nat.le_refl _, by unfold maxLen; omega, by rw [ints_size, hl, Nat.mul_one], by rw [Nat.mul_one]; unfold ints; rw [List.take_of_length_le (by simp [hl])]⟩⟩
theorem bag_add {ln lc : Nat} {LA : Option Addr} {xs : List Value} (h : BagIn w p rows A c) (few : rows.length ≤ 400) (len : ∀ (k : Nat) (r : Sl), rows[k]? = some r → r.len ≤ 1000) (hr : w.ownsRow 0 3 1 (.slice LA ln lc) ln xs) (hl : ln ≤ 1000)
    (hd : ∀ b, (Value.slice LA ln lc).ownBlock = some b → ¬ blks rows b ∧ b ≠ p) :
    Calls Tryd.prog 9 #[.pointer (some ⟨p, 0, none⟩), .slice LA ln lc] w fun e w' => e = .returned (.tuple #[]) ∧ ∃ rows' A' c', BagIn w' p rows' A' c' ∧ rows'.length ≤ 400 ∧ (∀ (k : Nat) (r : Sl), rows'[k]? = some r → r.len ≤ 1000) ∧
      (∀ b, blks rows' b → blks rows b ∨ (Value.slice LA ln lc).ownBlock = some b) ∧ Keeps (fun b => b = p ∨ (Value.slice A rows.length c).ownBlock = some b) w w' := by
  have hcs : (bagNone.setIfInBounds 1 (.slice A rows.length c))[1]? = some (.slice A rows.length c) := by simp [bagNone]
  by_cases h4 : rows.length < 400
  · refine (addInts_any p (p + 1) rows.length ln lc c A LA _ _ w h.hW hcs h.hO (Nat.lt_succ_self _) (Whole.inside h.hW) h4).mono ?_
    rintro e w' ⟨rfl, A', c', hW, hO, hK⟩
    have hget : ∀ (k : Nat) (r : Sl), (rows ++ [⟨LA, ln, lc⟩])[k]? = some r → rows[k]? = some r ∨ r = ⟨LA, ln, lc⟩ := fun k r hr => by
      rcases Nat.lt_or_ge k rows.length with hlt | hge
      · rw [List.getElem?_append_left hlt] at hr; exact .inl hr
      · rw [List.getElem?_append_right hge] at hr
        rcases Nat.eq_zero_or_pos (k - rows.length) with h0 | h0
        · rw [h0] at hr; injection hr with hr; exact .inr hr.symm
        · rw [List.getElem?_eq_none (by simp; omega)] at hr; cases hr
    refine ⟨rfl, rows ++ [⟨LA, ln, lc⟩], A', c', BagIn.add h (r := ⟨LA, ln, lc⟩) hr hd hW hO hK, by simp; omega, fun k r hk => ?_, ?_, hK⟩
    · rcases hget k r hk with h5 | rfl
      · exact len k r h5
      · exact hl
    · rintro b ⟨k, r, hk, hb⟩
      rcases hget k r hk with h5 | rfl
      · exact .inl ⟨k, r, h5, hb⟩
      · exact .inr hb
  · refine (addInts_full p rows.length ln lc c A LA _ w h.hW hcs (by omega)).mono ?_
    rintro e w' ⟨rfl, rfl⟩
    exact ⟨rfl, rows, A, c, h, few, len, fun b hb => .inl hb, Keeps.refl _ _⟩
/-- The list has come in, the document's dice have gone on: all stands. -/
theorem Dw.added {w1 w2 w3 : World} {z' c' : Nat} {rows' : List Sl} {A' : Option Addr} (h : Dw w g q p z rows A c) (hd : DiceAt w1 g z') (hk1 : Keeps (fun b => b = g) w w1) (hb : BagIn w2 p rows' A' c') (few : rows'.length ≤ 400) (len : ∀ (k : Nat) (r : Sl), rows'[k]? = some r → r.len ≤ 1000)
    (hk2 : Keeps (fun b => b = p ∨ (Value.slice A rows.length c).ownBlock = some b) w1 w2) (hr : RDiceAt w3 q z') (hk3 : Keeps (fun b => b = q) w2 w3) :
    Dw w3 g q p z' rows' A' c' ∧ Keeps (fun b => b = g ∨ b = q ∨ b = p ∨ (Value.slice A rows.length c).ownBlock = some b) w w3 := by
  have hd2 : DiceAt w2 g z' := Whole.keeps hd hk2 (fun e => by rcases e with e | e; exact h.dice_off.2.2 e; exact h.dice_off.2.1 e)
  refine ⟨⟨Whole.keeps hd2 hk3 h.two, hr, hb.keeps hk3 (fun b e => ?_), few, len⟩, ((hk1.mono (fun _ _ e => .inl e)).trans (hk2.mono (fun b _ e => ?_))).trans (hk3.mono (fun _ _ e => .inr (.inl e)))⟩
  · subst e
    have hq1 : RDiceAt w1 b z := Whole.keeps h.doc hk1 (fun e => h.two e.symm)
    have hq2 : RDiceAt w2 b z := Whole.keeps hq1 hk2 (fun e => by rcases e with e | e; exact h.doc_off.2.2 e; exact h.doc_off.2.1 e)
    exact hb.off hq2 (by decide) (by decide) (by decide)
  · rcases e with e | e
    · exact .inr (.inr (.inl e))
    · exact .inr (.inr (.inr e))
set_option maxRecDepth 100000 in
set_option maxHeartbeats 2000000 in
theorem does_order (hn : -9223372036854775808 ≤ n ∧ n ≤ 9223372036854775807) (h : Dw w g q p z rows A c) :
    Calls Tryd.prog 14 #[.pointer (some ⟨g, 0, none⟩), .pointer (some ⟨q, 0, none⟩), .agg #[.int .i64 3, .int .i64 on, .int .i64 n], .pointer (some ⟨p, 0, none⟩)] w (DoesPost g q p rows A c w) := by
  have HK : Hid (Keeps (fun _ => False) w (w.alloc (.cells #[.int .i64 3, .int .i64 on, .int .i64 n] 70))) := Lib.hid ((Keeps.refl _ w).alloc _)
  have H := Lib.hid (opDw h #[.int .i64 3, .int .i64 on, .int .i64 n] 70)
  clear h
  have hq := Whole.inside H.out.doc
  obtain ⟨hm0, hm1⟩ := withV_bd n 302 (by decide)
  have hin := within_any n hn 302 ⟨by decide, by decide⟩ (w.alloc (.cells #[.int .i64 3, .int .i64 on, .int .i64 n] 70))
  generalize withV n 302 = m at *
  by_cases hm : m - 2 < 0
  · go_enter Tryd.func14, Tryd.ntmps14
    go_wp2_with fail
    refine hin.mono ?_
    rintro e w1 ⟨rfl, rfl⟩
    clear hin
    go_wp2_with fail
    refine (order_no g z _ _ H.out.dice hm).mono ?_
    rintro e w1 ⟨rfl, hd, hk⟩
    have HB1 := Lib.hid (H.out.past hk)
    have HD := Lib.hid hd; have HK1 := Lib.hid (hk.mono (T := fun b => b = g) (fun _ _ e => e.elim))
    clear hd hk
    go_wp2_with fail
    refine (bag_add (xs := []) HB1.out.bag HB1.out.few HB1.out.len (World.ownsRow_nil _ _ _ _) (by omega) (fun b hb => by cases hb)).mono ?_
    rintro e w2 ⟨rfl, rows', A', c', hb, few, len, hbl, hk⟩
    have HR2 : Hid (RDiceAt w2 q z) := Lib.hid (Whole.keeps HB1.out.doc hk (fun e => by rcases e with e | e; exact HB1.out.doc_off.2.2 e; exact HB1.out.doc_off.2.1 e))
    have HB2 := Lib.hid hb; have HK2 := Lib.hid hk; have HBL := Lib.hid hbl; have HLE := Lib.hid len
    clear hb hk hbl len
    go_wp2_with fail
    refine (rorder_no q z _ _ HR2.out hm).mono ?_
    rintro e w3 ⟨rfl, rfl⟩
    go_wp2_with fail
    refine (eqInts_any [] [] none none w2.heap.size w2.heap.size 0 0 w2 (fun k u hu => by simp at hu) (fun k u hu => by simp at hu) (by decide)).mono ?_
    rintro e w3 ⟨rfl, d, rfl⟩
    obtain ⟨hD, hK⟩ := H.out.added HD.out HK1.out HB2.out few HLE.out HK2.out (w3 := w2) HR2.out (Keeps.refl _ _)
    have HW3 := Lib.hid (hD.past ((Keeps.refl _ w2).drewN d))
    have HK3 := Lib.hid (hK.drewN d)
    clear hD hK
    go_wp2_with fail
    go_ret
    exact DoesPost.from ⟨by simp, _, _, _, _, HW3.out, fun b hb => (HBL.out b hb).elim .inl (fun e => by cases e), HK3.out⟩ HK.out
  · obtain ⟨k, hk0⟩ : ∃ k : Nat, m - 2 = k := ⟨(m - 2).toNat, by omega⟩
    obtain rfl : m = (k : Int) + 2 := by omega
    go_enter Tryd.func14, Tryd.ntmps14
    go_wp2_with fail
    refine hin.mono ?_
    rintro e w1 ⟨rfl, rfl⟩
    clear hin
    go_wp2_with fail
    have hsh : shuf dans dnxt (k - 1) (rng k) z = (some (ordOf z k), advN (k - 1) z) := shuf_dice _ _ _
    have hsw : (w.alloc (.cells #[.int .i64 3, .int .i64 on, .int .i64 n] 70)).heap.size = w.heap.size + 1 := by simp
    refine (order_any g z k _ H.out.dice (by omega)).mono ?_
    rintro e w1 ⟨rfl, hW, hlen, hd, hk⟩
    rw [hsw] at hW hq ⊢
    generalize ordOf z k = x at *
    generalize advN (k - 1) z = z' at *
    have hp : p < w.heap.size + 1 := by have := Whole.inside H.out.bag.hW; rwa [hsw] at this
    have hbl : ∀ b, blks rows b → b < w.heap.size + 1 := fun b hb => by have := blks_lt H.out.bag.hR hb; rwa [hsw] at this
    have how : ∀ b, (Value.slice A rows.length c).ownBlock = some b → b < w.heap.size + 1 := fun b hb => by have := (H.out.bag.hO.lt b hb).2; rwa [hsw] at this
    have HB1 := Lib.hid (H.out.bag.keeps hk (fun b e => by subst e; exact H.out.dice_off))
    have HR1 : Hid (RDiceAt w1 q z) := Lib.hid (Whole.keeps H.out.doc hk (fun e => H.out.two e.symm))
    have HX1 := Lib.hid (row_of_ints hW hlen (by omega))
    have HD := Lib.hid hd; have HK1 := Lib.hid hk; have HS := Lib.hid hsh; have HOW := Lib.hid how
    have few0 := H.out.few
    have HLE0 := Lib.hid H.out.len
    clear hd hk hW hsh how
    go_wp2_with fail
    refine (bag_add HB1.out few0 HLE0.out (own_base HX1.out (fun _ _ => Nat.zero_le _)) (by omega) (fun b hb => by
      simp only [Value.ownBlock, Option.some.injEq] at hb
      exact ⟨fun h => by have := hbl b h; omega, by omega⟩)).mono ?_
    rintro e w2 ⟨rfl, rows', A', c', hb, few, len, hbl', hk⟩
    have HR2 : Hid (RDiceAt w2 q z) := Lib.hid (Whole.keeps HR1.out hk (fun e => by rcases e with e | e; exact H.out.doc_off.2.2 e; exact H.out.doc_off.2.1 e))
    have HX2 := Lib.hid (own_keepsS HX1.out hk (fun b hb e => by
      simp only [Value.ownBlock, Option.some.injEq] at hb
      rcases e with e | e
      · omega
      · have := HOW.out b e; omega))
    have HB2 := Lib.hid hb; have HK2 := Lib.hid hk; have HBL := Lib.hid hbl'; have HLE := Lib.hid len
    clear hb hk hbl' len
    go_wp2_with fail
    refine (rorder_any q z k _ HR2.out (by omega) _ HS.out).mono ?_
    rintro e w3 ⟨l, Ar, cr, hl, hll, rfl, hL, hr, hk⟩
    obtain rfl : x = l := Option.some.inj hl
    have HX3 := Lib.hid (own_keepsS HX2.out hk (fun b hb e => by
      simp only [Value.ownBlock, Option.some.injEq] at hb
      omega))
    obtain ⟨hD, hK⟩ := H.out.added HD.out HK1.out HB2.out few HLE.out HK2.out hr hk
    have HW3 := Lib.hid hD
    have HK3 := Lib.hid hK
    have HL := Lib.hid hL
    clear hD hK hl hr hk hL HS
    subst hlen
    go_wp2_with fail
    refine (eqInts_any x x _ Ar w3.heap.size w3.heap.size _ cr w3 (own_lies HX3.out) HL.out (by omega)).mono ?_
    rintro e w4 ⟨rfl, d, rfl⟩
    have HW4 := Lib.hid (HW3.out.past ((Keeps.refl _ w3).drewN d))
    have HK4 := Lib.hid (HK3.out.drewN d)
    go_wp2_with fail
    go_ret
    exact DoesPost.from ⟨by simp, _, _, _, _, HW4.out, fun b hb => (HBL.out b hb).elim .inl (fun e => .inr (by
      simp only [Value.ownBlock, Option.some.injEq] at e
      rw [hsw]; omega)), HK4.out⟩ HK.out
set_option maxRecDepth 100000 in
set_option maxHeartbeats 2000000 in
theorem does_none (h : Dw w g q p z rows A c) (hk : kind < 0 ∨ 4 < kind) :
    Calls Tryd.prog 14 #[.pointer (some ⟨g, 0, none⟩), .pointer (some ⟨q, 0, none⟩), .agg #[.int .i64 kind, .int .i64 on, .int .i64 n], .pointer (some ⟨p, 0, none⟩)] w (DoesPost g q p rows A c w) := by
  have HK : Hid (Keeps (fun _ => False) w (w.alloc (.cells #[.int .i64 kind, .int .i64 on, .int .i64 n] 70))) := Lib.hid ((Keeps.refl _ w).alloc _)
  have H := Lib.hid (opDw h #[.int .i64 kind, .int .i64 on, .int .i64 n] 70)
  clear h
  have k0 : ¬ kind = 0 := by omega
  have k1 : ¬ kind = 1 := by omega
  have k2 : ¬ kind = 2 := by omega
  have k3 : ¬ kind = 3 := by omega
  have k4 : ¬ kind = 4 := by omega
  go_enter Tryd.func14, Tryd.ntmps14
  go_wp2_with fail
  go_ret
  exact DoesPost.from ⟨rfl, _, _, _, _, H.out, fun b hb => .inl hb, Keeps.refl _ _⟩ HK.out
theorem does_any (hn : -9223372036854775808 ≤ n ∧ n ≤ 9223372036854775807) (h : Dw w g q p z rows A c) :
    Calls Tryd.prog 14 #[.pointer (some ⟨g, 0, none⟩), .pointer (some ⟨q, 0, none⟩), .agg #[.int .i64 kind, .int .i64 on, .int .i64 n], .pointer (some ⟨p, 0, none⟩)] w (DoesPost g q p rows A c w) := by
  by_cases ho : kind < 0 ∨ 4 < kind
  · exact does_none h ho
  · have h5 : kind = 0 ∨ kind = 1 ∨ kind = 2 ∨ kind = 3 ∨ kind = 4 := by omega
    rcases h5 with rfl | rfl | rfl | rfl | rfl
    · exact does_next h
    · exact does_below hn.2 h
    · exact does_share h
    · exact does_order hn h
    · exact does_all hn h
end
end Go.Proofs.YtalngbdjabjahaaDoor
