/-
  DiceDraws: one thing asked of the program's dice and of the document's: the walk. Conditions: Go's own limits.
-/
import Derived.Test.YtalngbdjabjahaaDoorDrawU
import Derived.Test.YtalngbdjabjahaaDoorDiceO
import Derived.Test.YtalngbdjabjahaaDoorBagJ
namespace Go.Proofs.YtalngbdjabjahaaDoor
open Go.RowKit
set_option maxHeartbeats 400000 in
theorem order_no (g z : Nat) (n : Int) (w : World) (hd : DiceAt w g z) (hn : n < 0) :
    Calls Tryd.prog 41 #[.pointer (some ⟨g, 0, none⟩), .int .i64 n] w fun e w' => e = .returned (.slice none 0 0) ∧ DiceAt w' g z ∧ Keeps (fun _ => False) w w' := by
  have hmf : ∀ (fn : Fn) (first cap : Array Value) (w : World), (Instr.makeFunc fn first cap).run Tryd.prog w = .ok (.func fn first cap) w := fun _ _ _ _ => rfl
  have hd1 : DiceAt (w.alloc (.cells #[.pointer (some ⟨g, 0, none⟩)] 63)) g z := hd.alloc _
  go_enter Tryd.func41, Tryd.ntmps41
  go_wp2_with fail
  refine (none_any g z _ hd1).mono ?_
  rintro e w' ⟨rfl, rfl⟩
  go_wp2_with fail
  refine (shuffleO_no n _ _ (.inl hn)).mono ?_
  rintro e w' ⟨rfl, rfl⟩
  go_wp2_with fail
  go_ret
  exact ⟨rfl, hd1, (Keeps.refl (fun _ => False) w).alloc _⟩
set_option maxRecDepth 100000 in
theorem addInts_full (p n ln lc cap : Nat) (A LA : Option Addr) (cs : Array Value) (w : World) (hW : Whole w p 57 cs) (hcs : cs[1]? = some (.slice A n cap)) (hn : 400 ≤ n) :
    Calls Tryd.prog 9 #[.pointer (some ⟨p, 0, none⟩), .slice LA ln lc] w fun e w' => e = .returned (.tuple #[]) ∧ w = w' := by
  have c0 := (hW.cellAt 1).trans hcs
  go_enter Tryd.func9, Tryd.ntmps9
  go_wp2_with fail
  go_end0
  exact ⟨rfl, rfl⟩
theorem whole_kind {w : World} {g : Nat} {t t' : TypeId} {cs cs' : Array Value} (h : Whole w g t cs) (h' : Whole w g t' cs') : t = t' := by
  have e := h.symm.trans h'
  injection e with e
  injection e with _ e1 _
theorem row_kind {w : World} {B s n b : Nat} {e t : TypeId} {v : Value} {xs : List Value} {cs : Array Value} (h : w.ownsRow B e s v n xs) (hw : Whole w b t cs) (hne : t ≠ e) : v.ownBlock ≠ some b := fun hb => by
  rcases h.2 with ⟨rfl, _⟩ | ⟨g, _, cur, rfl, _, hg, _⟩
  · cases hb
  · simp only [Value.ownBlock, Option.some.injEq] at hb
    subst hb
    exact hne (whole_kind hw hg)
theorem BagIn.off {w : World} {p c g : Nat} {rows : List Sl} {A : Option Addr} {t : TypeId} {cs : Array Value} (h : BagIn w p rows A c) (hw : Whole w g t cs) (h1 : t ≠ 3) (h2 : t ≠ 27) (h3 : t ≠ 57) : ¬ blks rows g ∧ (Value.slice A rows.length c).ownBlock ≠ some g ∧ g ≠ p := by
  refine ⟨fun ⟨k, r, hr, hb⟩ => ?_, row_kind h.hO hw h2, fun e => ?_⟩
  · obtain ⟨xs, hx⟩ := h.hR.own k r hr
    exact row_kind hx hw h1 hb
  · subst e; exact h3 (whole_kind hw h.hW)
theorem BagIn.keeps {S : Nat → Prop} {w w' : World} {p c : Nat} {rows : List Sl} {A : Option Addr} (h : BagIn w p rows A c) (hk : Keeps S w w') (hS : ∀ b, S b → ¬ blks rows b ∧ (Value.slice A rows.length c).ownBlock ≠ some b ∧ b ≠ p) : BagIn w' p rows A c :=
  ⟨h.hW.keeps hk (fun hs => (hS p hs).2.2 rfl), own_keepsS h.hO hk (fun b hb hs => (hS b hs).2.1 hb), h.hR.keeps hk (fun k r b hr hb hs => (hS b hs).1 ⟨k, r, hr, hb⟩), h.far, h.h0⟩
/-- What stands where one thing more is asked. -/
structure Dw (w : World) (g q p z : Nat) (rows : List Sl) (A : Option Addr) (c : Nat) : Prop where
  dice : DiceAt w g z
  doc : RDiceAt w q z
  bag : BagIn w p rows A c
  few : rows.length ≤ 400
  len : ∀ (k : Nat) (r : Sl), rows[k]? = some r → r.len ≤ 1000
theorem Dw.dice_off {w : World} {g q p z c : Nat} {rows : List Sl} {A : Option Addr} (h : Dw w g q p z rows A c) : ¬ blks rows g ∧ (Value.slice A rows.length c).ownBlock ≠ some g ∧ g ≠ p := h.bag.off h.dice (by decide) (by decide) (by decide)
theorem Dw.doc_off {w : World} {g q p z c : Nat} {rows : List Sl} {A : Option Addr} (h : Dw w g q p z rows A c) : ¬ blks rows q ∧ (Value.slice A rows.length c).ownBlock ≠ some q ∧ q ≠ p := h.bag.off h.doc (by decide) (by decide) (by decide)
theorem Dw.two {w : World} {g q p z c : Nat} {rows : List Sl} {A : Option Addr} (h : Dw w g q p z rows A c) : g ≠ q := fun e => by subst e; exact absurd (whole_kind h.dice h.doc) (by decide)
/-- Both dice have gone on to the place z'; the bag stands. -/
theorem Dw.both {w w' w2 : World} {g q p z z' c : Nat} {rows : List Sl} {A : Option Addr} (h : Dw w g q p z rows A c) (hd : DiceAt w' g z') (hk : Keeps (fun b => b = g) w w') (hr : RDiceAt w2 q z') (hk2 : Keeps (fun b => b = q) w' w2) : Dw w2 g q p z' rows A c ∧ Keeps (fun b => b = g ∨ b = q ∨ b = p ∨ (Value.slice A rows.length c).ownBlock = some b) w w2 := by
  have k1 := hk.mono (T := fun b => b = g ∨ b = q) (fun b _ e => .inl e)
  have k3 := k1.trans (hk2.mono (T := fun b => b = g ∨ b = q) (fun b _ e => .inr e))
  refine ⟨⟨Whole.keeps hd hk2 (fun e => h.two e), hr, h.bag.keeps k3 (fun b hb => by rcases hb with rfl | rfl; exact h.dice_off; exact h.doc_off), h.few, h.len⟩, k3.mono (fun b _ e => by rcases e with e | e; exact .inl e; exact .inr (.inl e))⟩
def DoesPost (g q p : Nat) (rows : List Sl) (A : Option Addr) (c : Nat) (w : World) (e : Ending) (w' : World) : Prop :=
  e = .returned (.bool true) ∧ ∃ z' rows' A' c', Dw w' g q p z' rows' A' c' ∧ (∀ b, blks rows' b → blks rows b ∨ w.heap.size ≤ b) ∧ Keeps (fun b => b = g ∨ b = q ∨ b = p ∨ (Value.slice A rows.length c).ownBlock = some b) w w'
namespace Flt
theorem share_self (x : Nat) (hx : x < 18446744073709551616) : (Ieee.double.order (shareW x) (shareW x) == some .eq) = true := by
  unfold shareW
  have hk : x / 2048 < 9007199254740992 := by omega
  generalize x / 2048 = k at *
  rcases Nat.eq_zero_or_pos k with rfl | h0
  · rw [zero_bits, zero_div]; decide +kernel
  · obtain ⟨m, t, d, hs, hm, hd, ht, e⟩ := of_nat h0 hk
    have e1 : floatBits .quo .f64 (fw m t) 4845873199050653696 = some (fw m (t - 53)) := div_two53 hs (by omega) (by omega)
    rw [e, e1]
    show (Ieee.double.order (fw m (t - 53)) (fw m (t - 53)) == some .eq) = true
    rw [order_same hs (by omega)]; rfl
end Flt
theorem Dw.past {w w' : World} {g q p z c : Nat} {rows : List Sl} {A : Option Addr} (h : Dw w g q p z rows A c) (hk : Keeps (fun _ => False) w w') : Dw w' g q p z rows A c :=
  ⟨Whole.keeps h.dice hk (fun e => e), Whole.keeps h.doc hk (fun e => e), h.bag.keeps hk (fun _ e => e.elim), h.few, h.len⟩
theorem DoesPost.from {g q p c : Nat} {rows : List Sl} {A : Option Addr} {w wa w' : World} {e : Ending} (h : DoesPost g q p rows A c wa e w') (hk : Keeps (fun _ => False) w wa) : DoesPost g q p rows A c w e w' := by
  obtain ⟨he, z', rows', A', c', hD, hB, hK⟩ := h
  refine ⟨he, z', rows', A', c', hD, fun b hb => ?_, (hk.mono (fun _ _ e => e.elim)).trans hK⟩
  have := hk.size
  rcases hB b hb with h | h
  · exact .inl h
  · exact .inr (by omega)
theorem opDw {w : World} {g q p z c : Nat} {rows : List Sl} {A : Option Addr} (h : Dw w g q p z rows A c) (cs : Array Value) (t : TypeId) : Dw (w.alloc (.cells cs t)) g q p z rows A c := h.past ((Keeps.refl _ w).alloc _)
section
variable {g q p z c : Nat} {rows : List Sl} {A : Option Addr} {kind on n : Int} {w : World}
set_option maxRecDepth 100000 in
set_option maxHeartbeats 2000000 in
theorem does_next (h : Dw w g q p z rows A c) :
    Calls Tryd.prog 14 #[.pointer (some ⟨g, 0, none⟩), .pointer (some ⟨q, 0, none⟩), .agg #[.int .i64 0, .int .i64 on, .int .i64 n], .pointer (some ⟨p, 0, none⟩)] w (DoesPost g q p rows A c w) := by
  have HK : Hid (Keeps (fun _ => False) w (w.alloc (.cells #[.int .i64 0, .int .i64 on, .int .i64 n] 70))) := Lib.hid ((Keeps.refl _ w).alloc _)
  have H := Lib.hid (opDw h #[.int .i64 0, .int .i64 on, .int .i64 n] 70); clear h
  go_enter Tryd.func14, Tryd.ntmps14
  go_wp2_with fail
  refine (next_rel g z _ H.out.dice).mono ?_
  rintro e w1 ⟨rfl, hd, hk⟩
  have HR := Lib.hid (Whole.keeps H.out.doc hk (fun e => H.out.two e.symm))
  have HD := Lib.hid hd; have HK1 := Lib.hid hk
  clear hd hk
  go_wp2_with fail
  refine (rnext_rel q z _ HR.out).mono ?_
  rintro e w2 ⟨rfl, hr, hk⟩
  obtain ⟨hD, hK⟩ := H.out.both HD.out HK1.out hr hk
  have HW := Lib.hid hD; have HK2 := Lib.hid hK
  clear hD hK hr hk HD HK1 HR
  generalize adv z = z' at *
  generalize mix z' = x at *
  have hx : ((x : Int) == x) = true := by simp
  go_wp2_with fail
  go_ret
  exact DoesPost.from ⟨rfl, _, _, _, _, HW.out, fun b hb => .inl hb, HK2.out⟩ HK.out
set_option maxRecDepth 100000 in
set_option maxHeartbeats 2000000 in
theorem does_share (h : Dw w g q p z rows A c) :
    Calls Tryd.prog 14 #[.pointer (some ⟨g, 0, none⟩), .pointer (some ⟨q, 0, none⟩), .agg #[.int .i64 2, .int .i64 on, .int .i64 n], .pointer (some ⟨p, 0, none⟩)] w (DoesPost g q p rows A c w) := by
  have HK : Hid (Keeps (fun _ => False) w (w.alloc (.cells #[.int .i64 2, .int .i64 on, .int .i64 n] 70))) := Lib.hid ((Keeps.refl _ w).alloc _)
  have H := Lib.hid (opDw h #[.int .i64 2, .int .i64 on, .int .i64 n] 70); clear h
  go_enter Tryd.func14, Tryd.ntmps14
  go_wp2_with fail
  refine (share_rel2 g z _ H.out.dice).mono ?_
  rintro e w1 ⟨rfl, hd, hk⟩
  have HR := Lib.hid (Whole.keeps H.out.doc hk (fun e => H.out.two e.symm))
  have HD := Lib.hid hd; have HK1 := Lib.hid hk
  clear hd hk
  go_wp2_with fail
  refine (rshare_rel q z _ HR.out).mono ?_
  rintro e w2 ⟨rfl, hr, hk⟩
  obtain ⟨hD, hK⟩ := H.out.both HD.out HK1.out hr hk
  have HW := Lib.hid hD; have HK2 := Lib.hid hK
  clear hD hK hr hk HD HK1 HR
  have hx : (FloatKind.f64.format.order (Flt.shareW (mix (adv z))) (Flt.shareW (mix (adv z))) == some .eq) = true := Flt.share_self _ (mix64 (adv z))
  generalize adv z = z' at *
  generalize Flt.shareW (mix z') = x at *
  go_wp2_with fail
  go_ret
  exact DoesPost.from ⟨rfl, _, _, _, _, HW.out, fun b hb => .inl hb, HK2.out⟩ HK.out
set_option maxRecDepth 100000 in
set_option maxHeartbeats 2000000 in
theorem does_below (hn : n ≤ 9223372036854775807) (h : Dw w g q p z rows A c) :
    Calls Tryd.prog 14 #[.pointer (some ⟨g, 0, none⟩), .pointer (some ⟨q, 0, none⟩), .agg #[.int .i64 1, .int .i64 on, .int .i64 n], .pointer (some ⟨p, 0, none⟩)] w (DoesPost g q p rows A c w) := by
  have HK : Hid (Keeps (fun _ => False) w (w.alloc (.cells #[.int .i64 1, .int .i64 on, .int .i64 n] 70))) := Lib.hid ((Keeps.refl _ w).alloc _)
  have H := Lib.hid (opDw h #[.int .i64 1, .int .i64 on, .int .i64 n] 70)
  have ho := Whole.made w 70 #[.int .i64 1, .int .i64 on, .int .i64 n]
  have hgo := Whole.inside h.dice
  clear h
  by_cases h1 : n < 1
  · go_enter Tryd.func14, Tryd.ntmps14
    go_wp2_with fail
    refine (below_none g z n _ H.out.dice h1).mono ?_
    rintro e w1 ⟨rfl, rfl⟩
    go_wp2_with fail
    refine (rbelow_none q z n _ H.out.doc h1).mono ?_
    rintro e w1 ⟨rfl, rfl⟩
    go_wp2_with fail
    go_ret
    exact DoesPost.from ⟨rfl, _, _, _, _, H.out, fun b hb => .inl hb, Keeps.refl _ _⟩ HK.out
  · obtain ⟨k, rfl⟩ : ∃ k : Nat, n = k := ⟨n.toNat, by omega⟩
    have HO := Lib.hid ho
    clear ho
    go_enter Tryd.func14, Tryd.ntmps14
    go_wp2_with fail
    refine (below_rel g z k k rfl _ H.out.dice (by omega) (by omega)).mono ?_
    rintro e w1 ⟨rfl, hd, hk⟩
    have HR := Lib.hid (Whole.keeps H.out.doc hk (fun e => H.out.two e.symm))
    have c2 : w1.cell? ⟨w.heap.size, 2, none⟩ = some (.int .i64 k) := (HO.out.keeps hk (by omega)).cellAt 2
    have HD := Lib.hid hd; have HK1 := Lib.hid hk
    clear hd hk
    go_wp2_with fail
    refine (rbelow_rel q z k _ HR.out (by omega) (by omega)).mono ?_
    rintro e w2 ⟨rfl, hr, hk⟩
    obtain ⟨hD, hK⟩ := H.out.both HD.out HK1.out hr hk
    have HW := Lib.hid hD; have HK2 := Lib.hid hK
    clear hD hK hr hk HD HK1 HR
    generalize adv z = z' at *
    generalize phi (mix z') k = x at *
    have hx : ((x : Int) == x) = true := by simp
    go_wp2_with fail
    go_ret
    exact DoesPost.from ⟨rfl, _, _, _, _, HW.out, fun b hb => .inl hb, HK2.out⟩ HK.out
end
end Go.Proofs.YtalngbdjabjahaaDoor
