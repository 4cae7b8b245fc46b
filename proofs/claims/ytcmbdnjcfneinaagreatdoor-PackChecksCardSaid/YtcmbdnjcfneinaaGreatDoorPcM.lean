/-
  A marked pack that is written over: numbers turn to numbers of their kind, all else stays: what lies there then. Conditions: none.
-/
import Derived.Test.YtcmbdnjcfneinaaGreatDoorWvMb
import Derived.Test.YtcmbdnjcfneinaaGreatDoorSzW
import Derived.Test.YtcmbdnjcfneinaaGreatDoorCqM
import Derived.Test.YtcmbdnjcfneinaaGreatDoorQeE
import Derived.Test.YtcmbdnjcfneinaaGreatDoorLaM
import Derived.Test.YtcmbdnjcfneinaaGreatDoorWsM
import Derived.Test.YtcmbdnjcfneinaaGreatDoorBgM
namespace Go.Proofs.YtcmbdnjcfneinaaGreatDoor
open Go.RowKit
/-- The numbers of a kind. -/
def InKind : IntKind → Int → Prop
  | .i64, z => -9223372036854775808 ≤ z ∧ z ≤ 9223372036854775807
  | .i8, z => -128 ≤ z ∧ z ≤ 127
  | .u8, z => 0 ≤ z ∧ z ≤ 255
  | _, _ => True
/-- A cell is as it was, or a number that was turned to one of its kind. -/
def Tn (v v' : Value) : Prop := v' = v ∨ ∃ k z z', v = .int k z ∧ v' = .int k z' ∧ InKind k z'
theorem Tn.int {k : IntKind} {z : Int} {v' : Value} (h : Tn (.int k z) v') (hz : InKind k z) : ∃ z', v' = .int k z' ∧ InKind k z' := by
  rcases h with rfl | ⟨k', x, x', h1, h2, h3⟩
  · exact ⟨z, rfl, hz⟩
  · injection h1 with h1 _
    subst h1
    exact ⟨x', h2, h3⟩
theorem Tn.num {k : IntKind} {z : Int} {v' : Value} (h : Tn (.int k z) v') : ∃ z', v' = .int k z' := by
  rcases h with rfl | ⟨k', x, x', h1, h2, h3⟩
  · exact ⟨z, rfl⟩
  · injection h1 with h1 _
    subst h1
    exact ⟨x', h2⟩
theorem Tn.slice {A : Option Addr} {n c : Nat} {v' : Value} (h : Tn (.slice A n c) v') : v' = .slice A n c := by
  rcases h with rfl | ⟨_, _, _, h1, _, _⟩
  · rfl
  · cases h1
theorem Tn.str {s : ByteArray} {v' : Value} (h : Tn (.string s) v') : v' = .string s := by
  rcases h with rfl | ⟨_, _, _, h1, _, _⟩
  · rfl
  · cases h1
theorem Tn.trans {a b c : Value} (h : Tn a b) (h' : Tn b c) : Tn a c := by
  rcases h' with rfl | ⟨k, z, z', rfl, rfl, h3⟩
  · exact h
  · rcases h with rfl | ⟨k', x, x', rfl, h5, _⟩
    · exact .inr ⟨k, z, z', rfl, rfl, h3⟩
    · injection h5 with h5 _
      subst h5
      exact .inr ⟨k, x, z', rfl, rfl, h3⟩
/-- Since wb, only numbers in blocks from n on were turned, that were there in w3. -/
structure Ov (n : Nat) (w3 wb wr : World) : Prop where
  ks : Keeps (fun k => n ≤ k ∧ k < w3.heap.size) wb wr
  tn : ∀ g o v, g < w3.heap.size → w3.cell? ⟨g, o, none⟩ = some v → ∃ v', wr.cell? ⟨g, o, none⟩ = some v' ∧ Tn v v'
  fz : ∀ g o, g < w3.heap.size → wr.frozen? ⟨g, o, none⟩ = w3.frozen? ⟨g, o, none⟩
section
variable {n : Nat} {w3 wb wr : World}
theorem Ov.start (h : Keeps (fun _ => False) w3 wb) : Ov n w3 wb wb :=
  ⟨Keeps.refl _ _, fun _ _ v hg hc => ⟨v, (h.cell hg id).trans hc, .inl rfl⟩, fun g _ hg => World.frozen?_of_block (h.block g hg id)⟩
theorem Ov.set {g o : Nat} {k : IntKind} {z z' : Int} (h : Ov n w3 wb wr) (hn : n ≤ g) (hg : g < w3.heap.size) (hc : w3.cell? ⟨g, o, none⟩ = some (.int k z)) (hz : InKind k z') : Ov n w3 wb (wr.setCell ⟨g, o, none⟩ (.int k z')) := by
  refine ⟨h.ks.setCell (p := ⟨g, o, none⟩) (fun _ => ⟨hn, hg⟩) _, fun g' o' v hg' hc' => ?_, fun g' o' hg' => ?_⟩
  · obtain ⟨v', h1, h2⟩ := h.tn g' o' v hg' hc'
    by_cases e : (⟨g, o, none⟩ : Addr) = ⟨g', o', none⟩
    · injection e with e1 e2 _
      subst e1 e2
      rw [hc] at hc'
      injection hc' with hc'
      subst hc'
      exact ⟨.int k z', World.cell?_setCell_same' _ _ _ (by rw [h1]; rfl), .inr ⟨k, z, z', rfl, rfl, hz⟩⟩
    · exact ⟨v', (by rw [World.cell?_setCell_other _ _ _ _ e]; exact h1), h2⟩
  · rw [World.frozen?_setCell]
    exact h.fz g' o' hg'
theorem Ov.drew (h : Ov n w3 wb wr) : Ov n w3 wb wr.drew := ⟨h.ks.drew, h.tn, h.fz⟩
theorem Ov.drewN (h : Ov n w3 wb wr) (m : Nat) : Ov n w3 wb (wr.drewN m) := ⟨h.ks.drewN m, h.tn, h.fz⟩
/-- A block known whole in w3: its cells then. -/
theorem Ov.whole {g : Nat} {t : TypeId} {cs : Array Value} (h : Ov n w3 wb wr) (hw : Whole w3 g t cs) (o : Nat) (v : Value) (hv : cs[o]? = some v) : ∃ v', wr.cell? ⟨g, o, none⟩ = some v' ∧ Tn v v' := h.tn g o v hw.inside ((hw.cellAt o).trans hv)
theorem Ov.free {g : Nat} {t : TypeId} {cs : Array Value} (h : Ov n w3 wb wr) (hw : Whole w3 g t cs) (o : Nat) : wr.frozen? ⟨g, o, none⟩ = false := (h.fz g o hw.inside).trans (hw.free o)
end
theorem choose_list {α β : Type} : ∀ (l : List α) (R : Nat → α → β → Prop), (∀ (i : Nat) (a : α), l[i]? = some a → ∃ b, R i a b) → ∃ l' : List β, l'.length = l.length ∧ ∀ (i : Nat) (a : α) (b : β), l[i]? = some a → l'[i]? = some b → R i a b
  | [], _, _ => ⟨[], rfl, fun i a b h => by simp at h⟩
  | x :: l, R, h => by
    obtain ⟨b, hb⟩ := h 0 x rfl
    obtain ⟨l', h1, h2⟩ := choose_list l (fun i => R (i + 1)) (fun i a hi => h (i + 1) a (by simpa using hi))
    refine ⟨b :: l', by simp [h1], fun i a c ha hc => ?_⟩
    cases i with
    | zero =>
      simp only [List.getElem?_cons_zero, Option.some.injEq] at ha hc
      subst ha hc
      exact hb
    | succ i => exact h2 i a c (by simpa using ha) (by simpa using hc)
theorem at_same {α β : Type} {l : List α} {l' : List β} (h : l'.length = l.length) {i : Nat} {b : β} (hb : l'[i]? = some b) : ∃ a, l[i]? = some a :=
  ⟨_, List.getElem?_eq_getElem (by have := (List.getElem?_eq_some_iff.1 hb).1; omega)⟩
section
variable {n : Nat} {w3 wb wr : World} {B c : Nat} {A : Option Addr}
/-- A list of numbers with marks behind it, then. -/
theorem Ov.nums {k : IntKind} {t : TypeId} {F : List Int → Array Value} (hF : ∀ (l : List Int) i (h : i < l.length), (F l)[i]? = some (.int k l[i])) {l : List Int} (o : Ov n w3 wb wr) (h : InW t F w3 B (.slice A l.length c) l) (hk : ∀ x ∈ l, InKind k x) :
    ∃ l' : List Int, l'.length = l.length ∧ Lies wr w3.heap.size A (l'.map (Value.int k)) ∧ ∀ x ∈ l', InKind k x := by
  obtain ⟨g, e, _, hw⟩ := h
  injection e with eA _ _
  subst eA
  obtain ⟨l', h1, h2⟩ := choose_list l (fun i _ z' => wr.cell? ⟨g, i, none⟩ = some (.int k z') ∧ InKind k z') (fun i a hi => by
    obtain ⟨hl, rfl⟩ := List.getElem?_eq_some_iff.1 hi
    obtain ⟨v', hc, ht⟩ := o.whole hw i _ (hF l i hl)
    obtain ⟨z', rfl, hz⟩ := ht.int (hk _ (List.getElem_mem hl))
    exact ⟨z', hc, hz⟩)
  refine ⟨l', h1, fun i u hu => ?_, fun x hx => ?_⟩
  · rw [List.getElem?_map] at hu
    obtain ⟨z, hz, rfl⟩ := Option.map_eq_some_iff.1 hu
    obtain ⟨a, ha⟩ := at_same h1 hz
    exact ⟨g, 0, rfl, hw.inside, by rw [Nat.zero_add]; exact (h2 i a z ha hz).1⟩
  · obtain ⟨i, hi⟩ := List.getElem?_of_mem hx
    obtain ⟨a, ha⟩ := at_same h1 hi
    exact (h2 i a x ha hi).2
theorem Ov.bytes {l : List Oct} (o : Ov n w3 wb wr) (h : WBy w3 B (.slice A l.length c) l) : ∃ l' : List Oct, l'.length = l.length ∧ Lies wr w3.heap.size A (bytesV l') := by
  obtain ⟨g, e, _, hw⟩ := h
  injection e with eA _ _
  subst eA
  obtain ⟨l', h1, h2⟩ := choose_list l (fun i _ (z : Oct) => wr.cell? ⟨g, i, none⟩ = some (byteV z)) (fun i a hi => by
    obtain ⟨hl, rfl⟩ := List.getElem?_eq_some_iff.1 hi
    obtain ⟨v', hc, ht⟩ := o.whole hw i _ ((wideB_get l i (by omega)).trans (by rw [wideAt_in l i hl]))
    have hb := (l[i]).isLt
    obtain ⟨z', rfl, hz⟩ := ht.int (show 0 ≤ _ ∧ _ ≤ 255 by omega)
    refine ⟨BitVec.ofInt 8 z', ?_⟩
    rw [hc]
    unfold byteV
    rw [oct_ofInt, Int.emod_eq_of_lt hz.1 (by have := hz.2; omega)])
  refine ⟨l', h1, fun i u hu => ?_⟩
  unfold bytesV at hu
  rw [List.getElem?_map] at hu
  obtain ⟨z, hz, rfl⟩ := Option.map_eq_some_iff.1 hu
  obtain ⟨a, ha⟩ := at_same h1 hz
  exact ⟨g, 0, rfl, hw.inside, by rw [Nat.zero_add]; exact h2 i a z ha hz⟩
theorem Ov.texts {l : List (List Oct)} (o : Ov n w3 wb wr) (h : WTx w3 B (.slice A l.length c) l) : Lies wr w3.heap.size A (textsV l) := by
  obtain ⟨g, cs, e, _, hw⟩ := h
  injection e with eA _ _
  subst eA
  intro i u hu
  unfold textsV at hu
  rw [List.getElem?_map] at hu
  obtain ⟨t, ht, rfl⟩ := Option.map_eq_some_iff.1 hu
  have hl := (List.getElem?_eq_some_iff.1 ht).1
  obtain ⟨v, hv, he, hc⟩ := hw.el i t (by omega) ht
  have hc := hc 0 (by omega)
  rw [Nat.mul_one, Nat.add_zero, he] at hc
  obtain ⟨v', h1, h2⟩ := o.whole hw.whole i _ hc
  rw [h2.str] at h1
  exact ⟨g, 0, rfl, hw.whole.inside, by rw [Nat.zero_add]; exact h1⟩
/-- An effect that was written over: the same lengths. -/
structure EffLike (e e' : Eff) : Prop where
  slots : e'.slots.length = e.slots.length
  code : e'.code.length = e.code.length
  small : ∀ x ∈ e'.slots, -128 ≤ x ∧ x ≤ 127
structure KndLike (k k' : Knd) : Prop where
  tags : k'.tags.length = k.tags.length
  effs : k'.effs.length = k.effs.length
  each : ∀ (i : Nat) (e e' : Eff), k.effs[i]? = some e → k'.effs[i]? = some e' → EffLike e e'
theorem smalls_low (l : List Int) (i : Nat) (h : i < l.length) : (smalls (wideSm l))[i]? = some (.int .i8 l[i]) := wideSm_low l i h
theorem Ov.effs {l : List Eff} (o : Ov n w3 wb wr) (h : WEf w3 B (.slice A l.length c) l) (hr : ∀ e ∈ l, EffFew e) : ∃ l' : List Eff, l'.length = l.length ∧ EfLies wr w3.heap.size A l' ∧ ∀ (i : Nat) (e e' : Eff), l[i]? = some e → l'[i]? = some e' → EffLike e e' := by
  obtain ⟨g, cs, e, _, hw⟩ := h
  injection e with eA _ _
  subst eA
  obtain ⟨l', h1, h2⟩ := choose_list l (fun i e (e' : Eff) => EffLike e e' ∧ ∃ As cs Ac cc, wr.cell? ⟨g, i * 4, none⟩ = some (.int .i64 e'.on) ∧ wr.cell? ⟨g, i * 4 + 1, none⟩ = some (.slice As e'.slots.length cs) ∧ wr.cell? ⟨g, i * 4 + 2, none⟩ = some (.slice Ac e'.code.length cc) ∧ wr.cell? ⟨g, i * 4 + 3, none⟩ = some (.int .i64 e'.bound) ∧ Lies wr w3.heap.size As (e'.slots.map (Value.int .i8)) ∧ Lies wr w3.heap.size Ac (bytesV e'.code)) (fun i e hi => by
    have hl := (List.getElem?_eq_some_iff.1 hi).1
    obtain ⟨v, hv, ⟨A1, A2, c1, c2, rfl, E1, E2⟩, hc⟩ := hw.el i e (by omega) hi
    obtain ⟨v0, g0, t0⟩ := o.whole hw.whole _ _ (hc 0 (by omega))
    obtain ⟨v1, g1, t1⟩ := o.whole hw.whole _ _ (hc 1 (by omega))
    obtain ⟨v2, g2, t2⟩ := o.whole hw.whole _ _ (hc 2 (by omega))
    obtain ⟨v3, g3, t3⟩ := o.whole hw.whole _ _ (hc 3 (by omega))
    obtain ⟨z0, rfl⟩ := t0.num
    obtain ⟨z3, rfl⟩ := t3.num
    rw [t1.slice] at g1
    rw [t2.slice] at g2
    obtain ⟨sl, hs1, hs2, hs3⟩ := Ov.nums (k := .i8) (fun l i h => smalls_low l i h) o E1 (hr e (List.mem_of_getElem? hi)).small
    obtain ⟨co, hc1, hc2⟩ := o.bytes E2
    refine ⟨⟨z0, sl, z3, co⟩, ⟨hs1, hc1, hs3⟩, A1, c1, A2, c2, g0, ?_, ?_, g3, hs2, hc2⟩
    · rw [hs1]; exact g1
    · rw [hc1]; exact g2)
  refine ⟨l', h1, fun i e' hi => ?_, fun i e e' he he' => (h2 i e e' he he').1⟩
  obtain ⟨e, he⟩ := at_same h1 hi
  obtain ⟨_, As, cs', Ac, cc, q0, q1, q2, q3, q4, q5⟩ := h2 i e e' he hi
  exact ⟨g, 0, As, cs', Ac, cc, rfl, hw.whole.inside, by rw [Nat.zero_add]; exact q0, by rw [Nat.zero_add]; exact q1, by rw [Nat.zero_add]; exact q2, by rw [Nat.zero_add]; exact q3, q4, q5⟩
/-- Its tags are numbers of their width. -/
def Tags64 (l : List Knd) : Prop := ∀ k ∈ l, ∀ x ∈ k.tags, InKind .i64 x
theorem Ov.kinds {l : List Knd} (o : Ov n w3 wb wr) (h : WKd w3 B (.slice A l.length c) l) (hr : ∀ k ∈ l, KndFew k) : ∃ l' : List Knd, l'.length = l.length ∧ KdLies wr w3.heap.size A l' ∧ ∀ (i : Nat) (k k' : Knd), l[i]? = some k → l'[i]? = some k' → KndLike k k' := by
  obtain ⟨g, cs, e, _, hw⟩ := h
  injection e with eA _ _
  subst eA
  obtain ⟨l', h1, h2⟩ := choose_list l (fun i k (k' : Knd) => KndLike k k' ∧ ∃ At ct Ae ce, wr.cell? ⟨g, i * 6, none⟩ = some (.int .i64 k'.name) ∧ wr.cell? ⟨g, i * 6 + 1, none⟩ = some (.int .i64 k'.cost) ∧ wr.cell? ⟨g, i * 6 + 2, none⟩ = some (.int .i64 k'.power) ∧ wr.cell? ⟨g, i * 6 + 3, none⟩ = some (.int .i64 k'.health) ∧ wr.cell? ⟨g, i * 6 + 4, none⟩ = some (.slice At k'.tags.length ct) ∧ wr.cell? ⟨g, i * 6 + 5, none⟩ = some (.slice Ae k'.effs.length ce) ∧ Lies wr w3.heap.size At (k'.tags.map (Value.int .i64)) ∧ EfLies wr w3.heap.size Ae k'.effs) (fun i k hi => by
    have hl := (List.getElem?_eq_some_iff.1 hi).1
    obtain ⟨v, hv, ⟨A1, A2, c1, c2, rfl, E1, E2⟩, hc⟩ := hw.el i k (by omega) hi
    obtain ⟨v0, g0, t0⟩ := o.whole hw.whole _ _ (hc 0 (by omega))
    obtain ⟨v1, g1, t1⟩ := o.whole hw.whole _ _ (hc 1 (by omega))
    obtain ⟨v2, g2, t2⟩ := o.whole hw.whole _ _ (hc 2 (by omega))
    obtain ⟨v3, g3, t3⟩ := o.whole hw.whole _ _ (hc 3 (by omega))
    obtain ⟨v4, g4, t4⟩ := o.whole hw.whole _ _ (hc 4 (by omega))
    obtain ⟨v5, g5, t5⟩ := o.whole hw.whole _ _ (hc 5 (by omega))
    obtain ⟨z0, rfl⟩ := t0.num
    obtain ⟨z1, rfl⟩ := t1.num
    obtain ⟨z2, rfl⟩ := t2.num
    obtain ⟨z3, rfl⟩ := t3.num
    rw [t4.slice] at g4
    rw [t5.slice] at g5
    have hk := hr k (List.mem_of_getElem? hi)
    obtain ⟨tl, ht1, ht2⟩ : ∃ tl : List Int, tl.length = k.tags.length ∧ Lies wr w3.heap.size A1 (tl.map (Value.int .i64)) := by
      obtain ⟨gt, e, _, hwt⟩ := E1
      injection e with eA _ _
      subst eA
      obtain ⟨l', h1, h2⟩ := choose_list k.tags (fun i _ (z' : Int) => wr.cell? ⟨gt, i, none⟩ = some (.int .i64 z')) (fun i a hi => by
        obtain ⟨hl, rfl⟩ := List.getElem?_eq_some_iff.1 hi
        obtain ⟨v', hc, ht⟩ := o.whole hwt i _ (wideL_low k.tags i hl)
        obtain ⟨z', rfl⟩ := ht.num
        exact ⟨z', hc⟩)
      refine ⟨l', h1, fun i u hu => ?_⟩
      rw [List.getElem?_map] at hu
      obtain ⟨z, hz, rfl⟩ := Option.map_eq_some_iff.1 hu
      obtain ⟨a, ha⟩ := at_same h1 hz
      exact ⟨gt, 0, rfl, hwt.inside, by rw [Nat.zero_add]; exact h2 i a z ha hz⟩
    obtain ⟨el, he1, he2, he3⟩ := o.effs E2 hk.each
    refine ⟨⟨z0, z1, z2, z3, tl, el⟩, ⟨ht1, he1, he3⟩, A1, c1, A2, c2, g0, g1, g2, g3, ?_, ?_, ht2, he2⟩
    · rw [ht1]; exact g4
    · rw [he1]; exact g5)
  refine ⟨l', h1, fun i k' hi => ?_, fun i k k' hk hk' => (h2 i k k' hk hk').1⟩
  obtain ⟨k, hk⟩ := at_same h1 hi
  obtain ⟨_, At, ct, Ae, ce, q0, q1, q2, q3, q4, q5, q6, q7⟩ := h2 i k k' hk hi
  exact ⟨g, 0, At, ct, Ae, ce, rfl, hw.whole.inside, by rw [Nat.zero_add]; exact q0, by rw [Nat.zero_add]; exact q1, by rw [Nat.zero_add]; exact q2, by rw [Nat.zero_add]; exact q3, by rw [Nat.zero_add]; exact q4, by rw [Nat.zero_add]; exact q5, q6, q7⟩
end
theorem map_like {α β γ : Type} {l : List α} {l' : List β} (f : α → γ) (f' : β → γ) (h : l'.length = l.length) (hf : ∀ (i : Nat) (a : α) (b : β), l[i]? = some a → l'[i]? = some b → f' b = f a) : l'.map f' = l.map f := by
  apply List.ext_getElem?
  intro i
  rw [List.getElem?_map, List.getElem?_map]
  cases hb : l'[i]? with
  | none =>
    have : l[i]? = none := List.getElem?_eq_none (by have := List.getElem?_eq_none_iff.1 hb; omega)
    rw [this]; rfl
  | some b =>
    obtain ⟨a, ha⟩ := at_same h hb
    rw [ha]
    show some (f' b) = some (f a)
    rw [hf i a b ha hb]
theorem like_mem {α β : Type} {l : List α} {l' : List β} (h : l'.length = l.length) {b : β} (hb : b ∈ l') : ∃ (i : Nat) (a : α), a ∈ l ∧ l[i]? = some a ∧ l'[i]? = some b := by
  obtain ⟨i, hi⟩ := List.getElem?_of_mem hb
  obtain ⟨a, ha⟩ := at_same h hi
  exact ⟨i, a, List.mem_of_getElem? ha, ha, hi⟩
theorem EffLike.few {e e' : Eff} (h : EffLike e e') (hf : EffFew e) : EffFew e' := ⟨by rw [h.slots]; exact hf.slots, by rw [h.code]; exact hf.code, h.small⟩
theorem KndLike.few {k k' : Knd} (h : KndLike k k') (hf : KndFew k) : KndFew k' := ⟨by rw [h.tags]; exact hf.tags, by rw [h.effs]; exact hf.effs, fun e he => by
  obtain ⟨i, a, hm, ha, hi⟩ := like_mem h.effs he
  exact (h.each i a e ha hi).few (hf.each a hm)⟩
theorem KndLike.size {k k' : Knd} (h : KndLike k k') : kndSize k' = kndSize k := by
  unfold kndSize
  rw [h.tags, map_like effSize effSize h.effs (fun i a b ha hb => by
    have := h.each i a b ha hb
    unfold effSize
    rw [this.slots, this.code])]
/-- A pack with marks behind its lists. -/
structure WPk (w : World) (B : Nat) (p : Pk) (Ai At Ak : Option Addr) (ci ct ck : Nat) : Prop where
  ints : WLo w B (.slice Ai p.ints.length ci) p.ints
  texts : WTx w B (.slice At p.texts.length ct) p.texts
  kinds : WKd w B (.slice Ak p.kinds.length ck) p.kinds
theorem WPk.keeps {S : Nat → Prop} {w w' : World} {B : Nat} {p : Pk} {Ai At Ak : Option Addr} {ci ct ck : Nat} (h : WPk w B p Ai At Ak ci ct ck) (hk : Keeps S w w') (hS : ∀ b, B ≤ b → ¬ S b) : WPk w' B p Ai At Ak ci ct ck := ⟨h.ints.keeps hk hS, h.texts.keeps hk hS, h.kinds.keeps hk hS⟩
/-- Where it lies, once numbers of it were turned: a pack of the same lengths. -/
theorem Ov.pack {n : Nat} {w3 wb wr : World} {B : Nat} {p : Pk} {Ai At Ak : Option Addr} {ci ct ck : Nat} (o : Ov n w3 wb wr) (h : WPk w3 B p Ai At Ak ci ct ck) (hf : PkFew p) :
    ∃ q : Pk, q.cards = p.cards ∧ q.ints.length = p.ints.length ∧ q.texts = p.texts ∧ q.kinds.length = p.kinds.length ∧ PkIn wr wr.heap.size q Ai At Ak ∧ PkFew q ∧ sizeP q = sizeP p := by
  have hsz : w3.heap.size ≤ wr.heap.size ∨ wr.heap.size < w3.heap.size := by omega
  obtain ⟨il, hi1, hi2, hi3⟩ := Ov.nums (k := .i64) (fun l i h => wideL_low l i h) o h.ints hf.ints64
  have ht := o.texts h.texts
  obtain ⟨kl, hk1, hk2, hk3⟩ := o.kinds h.kinds hf.each
  have hlt : ∀ g o' v, g < w3.heap.size → wr.cell? ⟨g, o', none⟩ = some v → g < wr.heap.size := fun g o' v _ hc => by
    rcases Nat.lt_or_ge g wr.heap.size with h | h
    · exact h
    · exfalso
      unfold World.cell? at hc
      rw [Array.getElem?_eq_none (by exact h)] at hc
      cases hc
  have hL : ∀ {A : Option Addr} {xs : List Value}, Lies wr w3.heap.size A xs → Lies wr wr.heap.size A xs := fun hl k u hu => by
    obtain ⟨b, off, e, hb, hc⟩ := hl k u hu
    exact ⟨b, off, e, hlt _ _ _ hb hc, hc⟩
  refine ⟨⟨p.cards, il, p.texts, kl⟩, rfl, hi1, rfl, hk1, ⟨hL hi2, hL ht, fun i k hk => ?_⟩, ⟨by show il.length ≤ _; rw [hi1]; exact hf.ints, hf.texts, hf.text, by show kl.length ≤ _; rw [hk1]; exact hf.kinds, fun k hk => ?_, hi3⟩, ?_⟩
  · obtain ⟨g, off, A1, c1, A2, c2, e, hg, q0, q1, q2, q3, q4, q5, q6, q7⟩ := hk2 i k hk
    refine ⟨g, off, A1, c1, A2, c2, e, hlt _ _ _ hg q0, q0, q1, q2, q3, q4, q5, hL q6, fun j x hx => ?_⟩
    obtain ⟨g', off', A1', c1', A2', c2', e', hg', r0, r1, r2, r3, r4, r5⟩ := q7 j x hx
    exact ⟨g', off', A1', c1', A2', c2', e', hlt _ _ _ hg' r0, r0, r1, r2, r3, hL r4, hL r5⟩
  · obtain ⟨i, a, hm, ha, hi⟩ := like_mem hk1 hk
    exact (hk3 i a k ha hi).few (hf.each a hm)
  · unfold sizeP
    show 37 + 8 * il.length + _ + (kl.map kndSize).sum = _
    rw [hi1, map_like kndSize kndSize hk1 (fun i a b ha hb => (hk3 i a b ha hb).size)]
end Go.Proofs.YtcmbdnjcfneinaaGreatDoor
/-
  What PackChecks holds: a marked pack and a copied one read as the pack; Encode's row is its own; bytes laid into a bag. Conditions: as of the walks.
-/
namespace Go.Proofs.YtcmbdnjcfneinaaGreatDoor
open Go.RowKit
theorem WEf.lie {w : World} {B c : Nat} {A : Option Addr} {l : List Eff} (h : WEf w B (.slice A l.length c) l) : EfLies w w.heap.size A l := fun i e hi => by
  obtain ⟨g, cs, eq, _, hw⟩ := h
  injection eq with eA _ _
  subst eA
  have hl := (List.getElem?_eq_some_iff.1 hi).1
  obtain ⟨v, hv, ⟨A1, A2, c1, c2, rfl, E1, E2⟩, hc⟩ := hw.el i e (by omega) hi
  have q := fun m hm => (hw.whole.cellAt (i * 4 + m)).trans (hc m hm)
  obtain ⟨g1, e1, _, w1⟩ := E1
  obtain ⟨g2, e2, _, w2⟩ := E2
  injection e1 with e1 _ e1c
  injection e2 with e2 _ e2c
  subst e1 e2 e1c e2c
  refine ⟨g, 0, _, _, _, _, rfl, hw.whole.inside, by rw [Nat.zero_add]; exact q 0 (by omega), by rw [Nat.zero_add]; exact q 1 (by omega), by rw [Nat.zero_add]; exact q 2 (by omega), by rw [Nat.zero_add]; exact q 3 (by omega), Lies.whole w1 (fun k u hu => ?_) w1.inside, wideB_lies e.code w2 w2.inside⟩
  have hk : k < e.slots.length := by simpa using (List.getElem?_eq_some_iff.1 hu).1
  rw [Nat.zero_add, wideSm_low _ _ hk, ← hu]
  simp [hk]
theorem WKd.lie {w : World} {B c : Nat} {A : Option Addr} {l : List Knd} (h : WKd w B (.slice A l.length c) l) : KdLies w w.heap.size A l := fun i e hi => by
  obtain ⟨g, cs, eq, _, hw⟩ := h
  injection eq with eA _ _
  subst eA
  have hl := (List.getElem?_eq_some_iff.1 hi).1
  obtain ⟨v, hv, ⟨A1, A2, c1, c2, rfl, E1, E2⟩, hc⟩ := hw.el i e (by omega) hi
  have q := fun m hm => (hw.whole.cellAt (i * 6 + m)).trans (hc m hm)
  have hE := E2.lie
  obtain ⟨g1, e1, _, w1⟩ := E1
  injection e1 with e1 _ e1c
  subst e1 e1c
  refine ⟨g, 0, _, _, _, _, rfl, hw.whole.inside, by rw [Nat.zero_add]; exact q 0 (by omega), by rw [Nat.zero_add]; exact q 1 (by omega), by rw [Nat.zero_add]; exact q 2 (by omega), by rw [Nat.zero_add]; exact q 3 (by omega), by rw [Nat.zero_add]; exact q 4 (by omega), by rw [Nat.zero_add]; exact q 5 (by omega), Lies.whole w1 (fun k u hu => ?_) w1.inside, hE⟩
  have hk : k < e.tags.length := by simpa using (List.getElem?_eq_some_iff.1 hu).1
  rw [Nat.zero_add, wideL_low _ _ hk, ← hu]
  simp [hk]
theorem WPk.lie {w : World} {B : Nat} {p : Pk} {Ai At Ak : Option Addr} {ci ct ck : Nat} (h : WPk w B p Ai At Ak ci ct ck) : PkIn w w.heap.size p Ai At Ak := by
  refine ⟨?_, ?_, h.kinds.lie⟩
  · obtain ⟨g1, e1, _, w1⟩ := h.ints
    injection e1 with e1 _ _
    subst e1
    refine Lies.whole w1 (fun k u hu => ?_) w1.inside
    have hk : k < p.ints.length := by simpa using (List.getElem?_eq_some_iff.1 hu).1
    rw [Nat.zero_add, wideL_low _ _ hk, ← hu]
    simp [hk]
  · obtain ⟨g1, cs, e1, _, hw⟩ := h.texts
    injection e1 with e1 _ _
    subst e1
    intro i u hu
    unfold textsV at hu
    rw [List.getElem?_map] at hu
    obtain ⟨t, ht, rfl⟩ := Option.map_eq_some_iff.1 hu
    have hl := (List.getElem?_eq_some_iff.1 ht).1
    obtain ⟨v, hv, he, hc⟩ := hw.el i t (by omega) ht
    have hc := hc 0 (by omega)
    rw [Nat.mul_one, Nat.add_zero, he] at hc
    exact ⟨g1, 0, rfl, hw.whole.inside, by rw [Nat.zero_add, hw.whole.cellAt]; exact hc⟩
theorem OEf.lie {w : World} {B c : Nat} {A : Option Addr} {l : List Eff} (h : OEf w B (.slice A l.length c) l) : EfLies w w.heap.size A l := fun i e hi => by
  obtain ⟨cells, ho, hel⟩ := h
  have hL := own_lies_q ho
  have hl := (List.getElem?_eq_some_iff.1 hi).1
  obtain ⟨v, hv, ⟨A1, A2, c1, c2, rfl, E1, E2⟩, hc⟩ := hel i e hi
  obtain ⟨g, off, eA, hg, h0⟩ := hL (i * 4 + 0) _ (hc 0 (by omega))
  subst eA
  have q : ∀ m u, m < 4 → cells[i * 4 + m]? = some u → w.cell? ⟨g, off + (i * 4 + m), none⟩ = some u := fun m u hm hu => by
    obtain ⟨g', off', eA, _, h1⟩ := hL _ u hu
    injection eA with eA
    injection eA with e1 e2 _
    subst e1 e2
    exact h1
  refine ⟨g, off, A1, c1, A2, c2, rfl, hg, q 0 _ (by omega) (hc 0 (by omega)), q 1 _ (by omega) (hc 1 (by omega)), q 2 _ (by omega) (hc 2 (by omega)), q 3 _ (by omega) (hc 3 (by omega)), own_lies_q E1, own_lies_q E2⟩
theorem OKd.lie {w : World} {B c : Nat} {A : Option Addr} {l : List Knd} (h : OKd w B (.slice A l.length c) l) : KdLies w w.heap.size A l := fun i e hi => by
  obtain ⟨cells, ho, hel⟩ := h
  have hL := own_lies_q ho
  have hl := (List.getElem?_eq_some_iff.1 hi).1
  obtain ⟨v, hv, ⟨A1, A2, c1, c2, rfl, E1, E2⟩, hc⟩ := hel i e hi
  obtain ⟨g, off, eA, hg, h0⟩ := hL (i * 6 + 0) _ (hc 0 (by omega))
  subst eA
  have q : ∀ m u, m < 6 → cells[i * 6 + m]? = some u → w.cell? ⟨g, off + (i * 6 + m), none⟩ = some u := fun m u hm hu => by
    obtain ⟨g', off', eA, _, h1⟩ := hL _ u hu
    injection eA with eA
    injection eA with e1 e2 _
    subst e1 e2
    exact h1
  refine ⟨g, off, A1, c1, A2, c2, rfl, hg, q 0 _ (by omega) (hc 0 (by omega)), q 1 _ (by omega) (hc 1 (by omega)), q 2 _ (by omega) (hc 2 (by omega)), q 3 _ (by omega) (hc 3 (by omega)), q 4 _ (by omega) (hc 4 (by omega)), q 5 _ (by omega) (hc 5 (by omega)), own_lies_q E1, E2.lie⟩
theorem opk_lie {w : World} {B : Nat} {p : Pk} {Ai At Ak : Option Addr} {ci ct ck : Nat} (h1 : OLo w B (.slice Ai p.ints.length ci) p.ints) (h2 : OTx w B (.slice At p.texts.length ct) p.texts) (h3 : OKd w B (.slice Ak p.kinds.length ck) p.kinds) : PkIn w w.heap.size p Ai At Ak := ⟨own_lies_q h1, own_lies_q h2, h3.lie⟩
theorem encodeO_any (p : Pk) (Ai At Ak : Option Addr) (ci ct ck : Nat) (w : World) (hx : PkIn w w.heap.size p Ai At Ak) (hm : PkOk p) :
    Calls Tryz.prog 9 #[.agg (pkC p Ai At Ak ci ct ck)] w (EncO p w) :=
  (encode_any p Ai At Ak ci ct ck w hx hm.few hm.size).mono fun e w' h => by
    obtain ⟨v, he, ho, hk⟩ := h
    obtain ⟨A, cap, rfl, hc, _⟩ := own_slice ho
    exact ⟨A, cap, he, ho, hk⟩
theorem encP_len (p : Pk) : (encP p).1.length ≤ 1048576 := by
  unfold encP
  by_cases h : chk p = 0
  · rw [if_neg (by rw [h]; simp)]
    show (packE p).length ≤ _
    rw [packE_length]
    unfold chk at h
    repeat' split at h
    all_goals first | omega | (exfalso; omega)
  · rw [if_pos h]
    exact Nat.zero_le _
theorem encP_two (p : Pk) : (encP p).2 = chk p := by
  unfold encP
  by_cases h : chk p = 0
  · rw [if_neg (by rw [h]; simp), h]
  · rw [if_pos h]
theorem blks_last {rows : List Sl} {r : Sl} {b : Nat} (h : blks (rows ++ [r]) b) : blks rows b ∨ r.blk = some b := by
  obtain ⟨k, q, hq, hb⟩ := h
  rcases Nat.lt_or_ge k rows.length with hlt | hge
  · rw [List.getElem?_append_left hlt] at hq; exact .inl ⟨k, q, hq, hb⟩
  · rw [List.getElem?_append_right hge, List.getElem?_singleton] at hq
    split at hq
    · injection hq with hq; rw [hq]; exact .inr hb
    · cases hq
/-- Bytes laid into a bag. -/
theorem addBytes1 {w : World} {p c : Nat} {rows : List Sl} {A : Option Addr} (r : Sl) {xs : List Value} (h : BagYn w p rows A c) (hn : rows.length < 400) (hr : w.ownsRow 0 5 1 r.val r.len xs) (hd : ∀ b, r.blk = some b → ¬ blks rows b ∧ b < p) :
    Calls Tryz.prog 15 #[.pointer (some ⟨p, 0, none⟩), .slice r.at_ r.len r.cap] w fun e w' => e = .returned (.tuple #[]) ∧ ∃ A' c', BagYn w' p (rows ++ [r]) A' c' ∧ Keeps (fun b => p ≤ b) w w' := by
  have hlt := h.hW.inside
  refine (addBytes_any p (p + 1) rows.length r.len r.cap c A r.at_ _ (vals rows) w h.hW (by rw [Array.getElem?_setIfInBounds, if_pos rfl, if_pos (by decide)]) h.hO (Nat.lt_succ_self _) hlt hn).mono ?_
  rintro e w' ⟨he, A', c', hW, hO, hk⟩
  exact ⟨he, A', c', h.add hr (fun b hb => ⟨(hd b hb).1, by have := (hd b hb).2; omega⟩) hW hO hk, hk.mono (fun b _ e => by
    rcases e with e | e
    · omega
    · have := (h.hO.lt b e).1; omega)⟩
end Go.Proofs.YtcmbdnjcfneinaaGreatDoor
