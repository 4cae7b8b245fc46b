/-
  Copies of lists, told in one form; rows of elements, each in memory of its own. Conditions: lengths within 10 ^ 9.
-/
import Derived.Test.YtcmbdnjcfneinaaGreatDoorWvC
import Derived.Test.YtcmbdnjcfneinaaGreatDoorWvMa
import Derived.Test.YtcmbdnjcfneinaaGreatDoorAppendN
import Derived.Test.YtcmbdnjcfneinaaGreatDoorBagP
import Derived.Deep.Onto
import Derived.Test.YtcmbdnjcfneinaaGreatDoorPkM
namespace Go.Proofs.YtcmbdnjcfneinaaGreatDoor
open Go.RowKit
/-- The blocks of a set are all of one kind. -/
def OfTy (w : World) (t : TypeId) (S : Nat → Prop) : Prop := ∀ b, S b → ∃ cs fr, w.heap[b]? = some (.cells cs t fr)
theorem own_keepsTy {S : Nat → Prop} {w w' : World} {B s n : Nat} {t e : TypeId} {v : Value} {xs : List Value} (h : w.ownsRow B e s v n xs) (hk : Keeps S w w') (hS : OfTy w t S) (hne : e ≠ t) : w'.ownsRow B e s v n xs := own_keepsS h hk fun b hb hs => by
  obtain ⟨cs', fr, e1⟩ := hS b hs
  rcases h.2 with ⟨rfl, _⟩ | ⟨g, _, cur, rfl, _, hg, _⟩
  · cases hb
  · simp only [Value.ownBlock, Option.some.injEq] at hb
    subst hb
    have e2 := hg.symm.trans e1
    injection e2 with e2
    injection e2 with _ e3 _
    exact hne e3
theorem own_ofTy {w : World} {B s n : Nat} {e : TypeId} {v : Value} {xs : List Value} (h : w.ownsRow B e s v n xs) : OfTy w e (fun b => v.ownBlock = some b) := fun b hb => by
  rcases h.2 with ⟨rfl, _⟩ | ⟨g, _, cur, rfl, _, hg, _⟩
  · cases hb
  · simp only [Value.ownBlock, Option.some.injEq] at hb
    subst hb
    exact ⟨_, _, hg⟩
theorem own_lies_q {w : World} {base n size cap : Nat} {e : TypeId} {xs : List Value} {A : Option Addr} (h : w.ownsRow base e size (.slice A n cap) n xs) : Lies w w.heap.size A xs := by
  intro k u hu
  have hk : k < n * size := by rw [← h.1]; exact (List.getElem?_eq_some_iff.1 hu).1
  rcases h.2 with ⟨_, h0⟩ | ⟨g, cap', cur, hv, _, hh, _⟩
  · subst h0; simp at hk
  · injection hv with hA _ _
    subst hA
    refine ⟨g, 0, rfl, (Array.getElem?_eq_some_iff.1 hh).1, ?_⟩
    rw [Nat.zero_add, h.cellAt k hk, hu]
/-- What is known of an element told of its cells, its blocks of the kinds ts. -/
structure ElO {α : Type} (El : World → Nat → List Value → α → Prop) (ts : TypeId → Prop) : Prop where
  keeps : ∀ (S : Nat → Prop) (w w' : World) (B : Nat) (v : List Value) (x : α), El w B v x → Keeps S w w' → (∀ b, B ≤ b → ¬ S b) → El w' B v x
  less : ∀ (w : World) (B B' : Nat) (v : List Value) (x : α), El w B v x → B' ≤ B → El w B' v x
  kind : ∀ (S : Nat → Prop) (w w' : World) (B : Nat) (v : List Value) (x : α) (t : TypeId), El w B v x → Keeps S w w' → OfTy w t S → ¬ ts t → El w' B v x
/-- A row of the call's own, each element's lists of its own too. -/
structure OUp {α : Type} (El : World → Nat → List Value → α → Prop) (k : Nat) (t : TypeId) (w : World) (B : Nat) (v : Value) (l : List α) (cells : List Value) : Prop where
  own : w.ownsRow B t k v l.length cells
  el : ∀ i x, l[i]? = some x → ∃ u, u.length = k ∧ El w B u x ∧ ∀ m, m < k → cells[i * k + m]? = u[m]?
section
variable {α : Type} {El : World → Nat → List Value → α → Prop} {ts : TypeId → Prop} {k : Nat} {t : TypeId} {w w' : World} {B B' : Nat} {v : Value} {l : List α} {cells : List Value} {S : Nat → Prop}
theorem OUp.nil : OUp El k t w B (.slice none 0 0) [] [] := ⟨World.ownsRow_nil _ _ _ _, fun i r h => by simp at h⟩
theorem OUp.keeps (hE : ElO El ts) (h : OUp El k t w B v l cells) (hk : Keeps S w w') (hS : ∀ b, B ≤ b → ¬ S b) : OUp El k t w' B v l cells :=
  ⟨own_keepsS h.own hk fun b hb => hS b (h.own.lt b hb).1, fun i x hi => by
    obtain ⟨u, hu, he, hc⟩ := h.el i x hi
    exact ⟨u, hu, hE.keeps _ _ _ _ _ _ he hk hS, hc⟩⟩
theorem OUp.less (hE : ElO El ts) (h : OUp El k t w B v l cells) (hB : B' ≤ B) : OUp El k t w B' v l cells :=
  ⟨h.own.mono hB, fun i x hi => by
    obtain ⟨u, hu, he, hc⟩ := h.el i x hi
    exact ⟨u, hu, hE.less _ _ _ _ _ he hB, hc⟩⟩
theorem OUp.kind (hE : ElO El ts) (h : OUp El k t w B v l cells) (hk : Keeps S w w') {t' : TypeId} (hS : OfTy w t' S) (h1 : ¬ ts t') (h2 : t ≠ t') : OUp El k t w' B v l cells :=
  ⟨own_keepsTy h.own hk hS h2, fun i x hi => by
    obtain ⟨u, hu, he, hc⟩ := h.el i x hi
    exact ⟨u, hu, hE.kind _ _ _ _ _ _ _ he hk hS h1, hc⟩⟩
theorem OUp.push (hE : ElO El ts) (hts : ¬ ts t) (h : OUp El k t w B v l cells) {x : α} {u : List Value} (hu : u.length = k) (he : El w B u x) (hg : w.grownBy w' v.ownBlock) {v' : Value} (ho : w'.ownsRow B t k v' (l.length + 1) (cells ++ u)) : OUp El k t w' B v' (l ++ [x]) (cells ++ u) := by
  have hcl : cells.length = l.length * k := h.own.1
  have hk : Keeps (fun b => v.ownBlock = some b) w w' := (Keeps.refl _ w).grown hg fun _ e _ => e
  have hS := own_ofTy h.own
  refine ⟨by rw [List.length_append]; exact ho, fun i y hi => ?_⟩
  rw [List.getElem?_append] at hi
  split at hi
  · rename_i hlt
    obtain ⟨u', hu', he', hc'⟩ := h.el i y hi
    refine ⟨u', hu', hE.kind _ _ _ _ _ _ _ he' hk hS hts, fun m hm => ?_⟩
    have := (place_le (k := k) hlt (Nat.le_refl _)).1
    rw [List.getElem?_append_left (by omega)]
    exact hc' m hm
  · rename_i hge
    have h0 : i - l.length = 0 := by
      rcases Nat.eq_zero_or_pos (i - l.length) with h | h
      · exact h
      · rw [List.getElem?_eq_none (by simp; omega)] at hi; cases hi
    rw [h0] at hi
    obtain rfl : x = y := by simpa using hi
    obtain rfl : i = l.length := by omega
    exact ⟨u, hu, hE.kind _ _ _ _ _ _ _ he hk hS hts, fun m hm => by rw [List.getElem?_append_right (by omega), hcl, Nat.add_sub_cancel_left]⟩
end
def OSm (w : World) (B : Nat) (v : Value) (l : List (Int)) : Prop := w.ownsRow B 80 1 v l.length (l.map (Value.int .i8))
theorem OSm.keeps {S : Nat → Prop} {w w' : World} {B : Nat} {v : Value} {l : List (Int)} (h : OSm w B v l) (hk : Keeps S w w') (hS : ∀ b, B ≤ b → ¬ S b) : OSm w' B v l := own_keepsS h hk fun b hb => hS b (World.ownsRow.lt h b hb).1
theorem OSm.less {w : World} {B B' : Nat} {v : Value} {l : List (Int)} (h : OSm w B v l) (hB : B' ≤ B) : OSm w B' v l := World.ownsRow.mono h hB
theorem OSm.kind {S : Nat → Prop} {w w' : World} {B : Nat} {v : Value} {l : List (Int)} {t : TypeId} (h : OSm w B v l) (hk : Keeps S w w') (hS : OfTy w t S) (hne : 80 ≠ t) : OSm w' B v l := own_keepsTy h hk hS hne
theorem copySmalls_in (l : List (Int)) (A : Option Addr) (cap : Nat) (w : World) (hx : Lies w w.heap.size A (l.map (Value.int .i8))) (hl : l.length ≤ 1000000000) :
    Calls Tryz.prog 164 #[.slice A l.length cap] w fun e w' => ∃ A' c', e = .returned (.slice A' l.length c') ∧ OSm w' w.heap.size (.slice A' l.length c') l ∧ Keeps (fun _ => False) w w' := by
  have h1 : ∀ u ∈ l.map (Value.int .i8), u.oneCell' = true := fun u hu => by
    obtain ⟨c, _, rfl⟩ := List.mem_map.1 hu; rfl
  have h2 : (l.map (Value.int .i8)).length = l.length * 1 := by simp
  go_enter Tryz.func164, Tryz.ntmps164
  go_wp2_with (first
    | (at_builtin
       refine wpList_append_cells _ rfl _ _ 41 rfl w.heap.size 80 (.int .i8 0) 1 1 Tryz.underlying41 info_small rfl (by decide) (.slice none 0 0) 0 [] rfl (World.ownsRow_nil _ _ _ _) w.heap.size A l.length cap (l.map (Value.int .i8)) rfl hx h2 h1 (by simp only [maxLen]; omega) (by omega) (Nat.le_refl _) ?_
       intro A' cap' w1 hown hg _ _ _
       simp only [Nat.zero_add, List.nil_append] at hown))
  go_ret
  exact ⟨A', cap', rfl, hown, (Keeps.refl _ w).grown hg (fun k hk => by cases hk)⟩
def OIn (w : World) (B : Nat) (v : Value) (l : List (Int)) : Prop := w.ownsRow B 3 1 v l.length (l.map (Value.int .i64))
theorem OIn.keeps {S : Nat → Prop} {w w' : World} {B : Nat} {v : Value} {l : List (Int)} (h : OIn w B v l) (hk : Keeps S w w') (hS : ∀ b, B ≤ b → ¬ S b) : OIn w' B v l := own_keepsS h hk fun b hb => hS b (World.ownsRow.lt h b hb).1
theorem OIn.less {w : World} {B B' : Nat} {v : Value} {l : List (Int)} (h : OIn w B v l) (hB : B' ≤ B) : OIn w B' v l := World.ownsRow.mono h hB
theorem OIn.kind {S : Nat → Prop} {w w' : World} {B : Nat} {v : Value} {l : List (Int)} {t : TypeId} (h : OIn w B v l) (hk : Keeps S w w') (hS : OfTy w t S) (hne : 3 ≠ t) : OIn w' B v l := own_keepsTy h hk hS hne
theorem copyInts_in (l : List (Int)) (A : Option Addr) (cap : Nat) (w : World) (hx : Lies w w.heap.size A (l.map (Value.int .i64))) (hl : l.length ≤ 1000000000) :
    Calls Tryz.prog 133 #[.slice A l.length cap] w fun e w' => ∃ A' c', e = .returned (.slice A' l.length c') ∧ OIn w' w.heap.size (.slice A' l.length c') l ∧ Keeps (fun _ => False) w w' := by
  have h1 : ∀ u ∈ l.map (Value.int .i64), u.oneCell' = true := fun u hu => by
    obtain ⟨c, _, rfl⟩ := List.mem_map.1 hu; rfl
  have h2 : (l.map (Value.int .i64)).length = l.length * 1 := by simp
  go_enter Tryz.func133, Tryz.ntmps133
  go_wp2_with (first
    | (at_builtin
       refine wpList_append_cells _ rfl _ _ 37 rfl w.heap.size 3 (.int .i64 0) 1 8 Tryz.underlying37 info_int rfl (by decide) (.slice none 0 0) 0 [] rfl (World.ownsRow_nil _ _ _ _) w.heap.size A l.length cap (l.map (Value.int .i64)) rfl hx h2 h1 (by simp only [maxLen]; omega) (by omega) (Nat.le_refl _) ?_
       intro A' cap' w1 hown hg _ _ _
       simp only [Nat.zero_add, List.nil_append] at hown))
  go_ret
  exact ⟨A', cap', rfl, hown, (Keeps.refl _ w).grown hg (fun k hk => by cases hk)⟩
def OLo (w : World) (B : Nat) (v : Value) (l : List (Int)) : Prop := w.ownsRow B 2 1 v l.length (l.map (Value.int .i64))
theorem OLo.keeps {S : Nat → Prop} {w w' : World} {B : Nat} {v : Value} {l : List (Int)} (h : OLo w B v l) (hk : Keeps S w w') (hS : ∀ b, B ≤ b → ¬ S b) : OLo w' B v l := own_keepsS h hk fun b hb => hS b (World.ownsRow.lt h b hb).1
theorem OLo.less {w : World} {B B' : Nat} {v : Value} {l : List (Int)} (h : OLo w B v l) (hB : B' ≤ B) : OLo w B' v l := World.ownsRow.mono h hB
theorem OLo.kind {S : Nat → Prop} {w w' : World} {B : Nat} {v : Value} {l : List (Int)} {t : TypeId} (h : OLo w B v l) (hk : Keeps S w w') (hS : OfTy w t S) (hne : 2 ≠ t) : OLo w' B v l := own_keepsTy h hk hS hne
theorem copyLongs_in (l : List (Int)) (A : Option Addr) (cap : Nat) (w : World) (hx : Lies w w.heap.size A (l.map (Value.int .i64))) (hl : l.length ≤ 1000000000) :
    Calls Tryz.prog 51 #[.slice A l.length cap] w fun e w' => ∃ A' c', e = .returned (.slice A' l.length c') ∧ OLo w' w.heap.size (.slice A' l.length c') l ∧ Keeps (fun _ => False) w w' := by
  have h1 : ∀ u ∈ l.map (Value.int .i64), u.oneCell' = true := fun u hu => by
    obtain ⟨c, _, rfl⟩ := List.mem_map.1 hu; rfl
  have h2 : (l.map (Value.int .i64)).length = l.length * 1 := by simp
  go_enter Tryz.func51, Tryz.ntmps51
  go_wp2_with (first
    | (at_builtin
       refine wpList_append_cells _ rfl _ _ 22 rfl w.heap.size 2 (.int .i64 0) 1 8 Tryz.underlying22 info_long rfl (by decide) (.slice none 0 0) 0 [] rfl (World.ownsRow_nil _ _ _ _) w.heap.size A l.length cap (l.map (Value.int .i64)) rfl hx h2 h1 (by simp only [maxLen]; omega) (by omega) (Nat.le_refl _) ?_
       intro A' cap' w1 hown hg _ _ _
       simp only [Nat.zero_add, List.nil_append] at hown))
  go_ret
  exact ⟨A', cap', rfl, hown, (Keeps.refl _ w).grown hg (fun k hk => by cases hk)⟩
def OTx (w : World) (B : Nat) (v : Value) (l : List (List Oct)) : Prop := w.ownsRow B 9 1 v l.length (textsV l)
theorem OTx.keeps {S : Nat → Prop} {w w' : World} {B : Nat} {v : Value} {l : List (List Oct)} (h : OTx w B v l) (hk : Keeps S w w') (hS : ∀ b, B ≤ b → ¬ S b) : OTx w' B v l := own_keepsS h hk fun b hb => hS b (World.ownsRow.lt h b hb).1
theorem OTx.less {w : World} {B B' : Nat} {v : Value} {l : List (List Oct)} (h : OTx w B v l) (hB : B' ≤ B) : OTx w B' v l := World.ownsRow.mono h hB
theorem OTx.kind {S : Nat → Prop} {w w' : World} {B : Nat} {v : Value} {l : List (List Oct)} {t : TypeId} (h : OTx w B v l) (hk : Keeps S w w') (hS : OfTy w t S) (hne : 9 ≠ t) : OTx w' B v l := own_keepsTy h hk hS hne
theorem copyTexts_in (l : List (List Oct)) (A : Option Addr) (cap : Nat) (w : World) (hx : Lies w w.heap.size A (textsV l)) (hl : l.length ≤ 1000000000) :
    Calls Tryz.prog 52 #[.slice A l.length cap] w fun e w' => ∃ A' c', e = .returned (.slice A' l.length c') ∧ OTx w' w.heap.size (.slice A' l.length c') l ∧ Keeps (fun _ => False) w w' := by
  have h1 : ∀ u ∈ textsV l, u.oneCell' = true := fun u hu => by
    obtain ⟨c, _, rfl⟩ := List.mem_map.1 hu; rfl
  have h2 : (textsV l).length = l.length * 1 := by simp [textsV]
  go_enter Tryz.func52, Tryz.ntmps52
  go_wp2_with (first
    | (at_builtin
       refine wpList_append_cells _ rfl _ _ 23 rfl w.heap.size 9 (.string ⟨#[]⟩) 1 16 Tryz.underlying23 info_strW rfl (by decide) (.slice none 0 0) 0 [] rfl (World.ownsRow_nil _ _ _ _) w.heap.size A l.length cap (textsV l) rfl hx h2 h1 (by simp only [maxLen]; omega) (by omega) (Nat.le_refl _) ?_
       intro A' cap' w1 hown hg _ _ _
       simp only [Nat.zero_add, List.nil_append] at hown))
  go_ret
  exact ⟨A', cap', rfl, hown, (Keeps.refl _ w).grown hg (fun k hk => by cases hk)⟩
def OBy (w : World) (B : Nat) (v : Value) (l : List (Oct)) : Prop := w.ownsRow B 5 1 v l.length (bytesV l)
theorem OBy.keeps {S : Nat → Prop} {w w' : World} {B : Nat} {v : Value} {l : List (Oct)} (h : OBy w B v l) (hk : Keeps S w w') (hS : ∀ b, B ≤ b → ¬ S b) : OBy w' B v l := own_keepsS h hk fun b hb => hS b (World.ownsRow.lt h b hb).1
theorem OBy.less {w : World} {B B' : Nat} {v : Value} {l : List (Oct)} (h : OBy w B v l) (hB : B' ≤ B) : OBy w B' v l := World.ownsRow.mono h hB
theorem OBy.kind {S : Nat → Prop} {w w' : World} {B : Nat} {v : Value} {l : List (Oct)} {t : TypeId} (h : OBy w B v l) (hk : Keeps S w w') (hS : OfTy w t S) (hne : 5 ≠ t) : OBy w' B v l := own_keepsTy h hk hS hne
theorem copyBytes_in (l : List Oct) (A : Option Addr) (cap : Nat) (w : World) (hx : Lies w w.heap.size A (bytesV l)) (hl : l.length ≤ 1000000000) :
    Calls Tryz.prog 75 #[.slice A l.length cap] w fun e w' => ∃ A' c', e = .returned (.slice A' l.length c') ∧ OBy w' w.heap.size (.slice A' l.length c') l ∧ Keeps (fun _ => False) w w' :=
  (copyBytes_any l A _ cap w hx (by omega)).mono fun _ _ ⟨A', c', h1, h2, _, h3⟩ => ⟨A', c', h1, h2, keepsAll h3⟩
end Go.Proofs.YtcmbdnjcfneinaaGreatDoor
/-
  Copies of effects: the walks. Conditions: lengths within 10 ^ 9.
-/
namespace Go.Proofs.YtcmbdnjcfneinaaGreatDoor
open Go.RowKit
theorem info_effC : (Tryz.prog.info? 43).map (fun i => (i.zero, i.size, i.bytes)) = some (some (.agg #[.int .i64 0, .slice none 0 0, .slice none 0 0, .int .i64 0]), 4, 64) := by kernel_rfl
/-- An element's cells, and the lists of its own that they lead to. -/
def OlE (w : World) (B : Nat) (v : List Value) (e : Eff) : Prop := ∃ (A1 A2 : Option Addr) (c1 c2 : Nat), v = [.int .i64 e.on, .slice A1 e.slots.length c1, .slice A2 e.code.length c2, .int .i64 e.bound] ∧ OSm w B (.slice A1 e.slots.length c1) e.slots ∧ OBy w B (.slice A2 e.code.length c2) e.code
def OlEt (t : TypeId) : Prop := (fun t => t = 80 ∨ t = 5) t
theorem OlE_k : ElO OlE OlEt := ⟨fun _ _ _ _ _ _ ⟨A1, A2, c1, c2, e, h1, h2⟩ hk hS => ⟨A1, A2, c1, c2, e, h1.keeps hk hS, h2.keeps hk hS⟩, fun _ _ _ _ _ ⟨A1, A2, c1, c2, e, h1, h2⟩ hB => ⟨A1, A2, c1, c2, e, h1.less hB, h2.less hB⟩, fun _ _ _ _ _ _ _ ⟨A1, A2, c1, c2, e, h1, h2⟩ hk hS hn => ⟨A1, A2, c1, c2, e, h1.kind hk hS (fun e => hn (.inl e.symm)), h2.kind hk hS (fun e => hn (.inr e.symm))⟩⟩
set_option maxRecDepth 4000 in
set_option maxHeartbeats 1000000 in
theorem copyEffect_any (e : Eff) (A1 A2 : Option Addr) (c1 c2 : Nat) (w : World) (h1 : Lies w w.heap.size A1 (e.slots.map (Value.int .i8))) (h2 : Lies w w.heap.size A2 (bytesV e.code)) (hm : EffFew e) :
    Calls Tryz.prog 157 #[.agg (effV e A1 A2 c1 c2)] w fun r w' => ∃ (B1 B2 : Option Addr) (d1 d2 : Nat), r = .returned (.agg (effV e B1 B2 d1 d2)) ∧ OSm w' w.heap.size (.slice B1 e.slots.length d1) e.slots ∧ OBy w' w.heap.size (.slice B2 e.code.length d2) e.code ∧ Keeps (fun _ => False) w w' := by
  unfold effV
  have P := Lib.hid ((Whole.made w 43 #[.int .i64 e.on, .slice A1 e.slots.length c1, .slice A2 e.code.length c2, .int .i64 e.bound]).alloc (.cells #[.int .i64 0, .slice none 0 0, .slice none 0 0, .int .i64 0] 43))
  have R := Lib.hid (Whole.made (w.alloc (.cells #[.int .i64 e.on, .slice A1 e.slots.length c1, .slice A2 e.code.length c2, .int .i64 e.bound] 43)) 43 #[.int .i64 0, .slice none 0 0, .slice none 0 0, .int .i64 0])
  rw [show (w.alloc (.cells #[.int .i64 e.on, .slice A1 e.slots.length c1, .slice A2 e.code.length c2, .int .i64 e.bound] 43)).heap.size = w.heap.size + 1 by simp] at R
  have K := Lib.hid (((Keeps.refl (fun _ => False) w).alloc (.cells #[.int .i64 e.on, .slice A1 e.slots.length c1, .slice A2 e.code.length c2, .int .i64 e.bound] 43)).alloc (.cells #[.int .i64 0, .slice none 0 0, .slice none 0 0, .int .i64 0] 43))
  have Z : Hid (w.heap.size + 2 ≤ ((w.alloc (.cells (#[.int .i64 e.on, .slice A1 e.slots.length c1, .slice A2 e.code.length c2, .int .i64 e.bound]) 43)).alloc (.cells #[.int .i64 0, .slice none 0 0, .slice none 0 0, .int .i64 0] 43)).heap.size) := Lib.hid (by simp)
  have H1 := Lib.hid h1
  have H2 := Lib.hid h2
  clear h1 h2
  go_enter Tryz.func157, Tryz.ntmps157
  go_wp2_with fail
  generalize ((w.alloc (.cells (#[.int .i64 e.on, .slice A1 e.slots.length c1, .slice A2 e.code.length c2, .int .i64 e.bound]) 43)).alloc (.cells #[.int .i64 0, .slice none 0 0, .slice none 0 0, .int .i64 0] 43)) = w0 at *
  refine (copySmalls_in e.slots A1 c1 w0 ((H1.out.keeps K.out (fun _ _ => id) (Nat.le_refl _)).more (by have := Z.out; omega)) (hm.slots)).mono ?_
  rintro r w1 ⟨B1, d1, rfl, E1n, kk⟩
  have E1 := Lib.hid (E1n.less Z.out)
  clear E1n
  replace P := Lib.hid (P.out.keeps kk id)
  replace R := Lib.hid (R.out.keeps kk id)
  replace K := Lib.hid (K.out.trans kk)
  replace Z : Hid (w.heap.size + 2 ≤ w1.heap.size) := Lib.hid (Nat.le_trans Z.out kk.size)
  clear kk
  obtain ⟨a0, a1, a2, a3⟩ := four P.out
  have pf := P.out.free 1
  go_wp2_with fail
  clear a0 a1 a2 a3 pf
  replace K := Lib.hid (K.out.setCell (p := ⟨w.heap.size, 1, none⟩) (fun h => absurd h (Nat.lt_irrefl _)) (.slice B1 e.slots.length d1))
  have ks := (Keeps.refl (fun b => b = w.heap.size) w1).setCell (p := ⟨w.heap.size, 1, none⟩) (fun _ => rfl) (.slice B1 e.slots.length d1)
  replace P := Lib.hid (P.out.put 1 (.slice B1 e.slots.length d1))
  replace R := Lib.hid (R.out.keeps ks (by omega))
  replace Z := Lib.hid (Nat.le_trans Z.out ks.size)
  replace E1 := Lib.hid (E1.out.keeps ks (fun b hb e => by omega))
  clear ks
  generalize w1.setCell ⟨w.heap.size, 1, none⟩ (.slice B1 e.slots.length d1) = v1 at *
  refine (copyBytes_in e.code A2 c2 v1 ((H2.out.keeps K.out (fun _ _ => id) (Nat.le_refl _)).more (by have := Z.out; omega)) (hm.code)).mono ?_
  rintro r w2 ⟨B2, d2, rfl, E2n, kk⟩
  have E2 := Lib.hid (E2n.less Z.out)
  clear E2n
  replace E1 := Lib.hid (E1.out.keeps kk (fun _ _ => id))
  replace P := Lib.hid (P.out.keeps kk id)
  replace R := Lib.hid (R.out.keeps kk id)
  replace K := Lib.hid (K.out.trans kk)
  replace Z : Hid (w.heap.size + 2 ≤ w2.heap.size) := Lib.hid (Nat.le_trans Z.out kk.size)
  clear kk
  obtain ⟨a0, a1, a2, a3⟩ := four P.out
  have pf := P.out.free 2
  obtain ⟨b0, b1, b2, b3⟩ := four R.out
  have rf0 := R.out.free 0
  have rf1 := R.out.free 1
  have rf2 := R.out.free 2
  have rf3 := R.out.free 3
  have RF := Lib.hid (((((R.out.putFar (p := ⟨w.heap.size, 2, none⟩) (by show w.heap.size + 1 ≠ w.heap.size; omega) (.slice B2 e.code.length d2)).put 0 (.int .i64 e.on)).put 1 (.slice B1 e.slots.length d1)).put 2 (.slice B2 e.code.length d2)).put 3 (.int .i64 e.bound))
  have KF := Lib.hid ((((((Keeps.refl (fun b => b = w.heap.size ∨ b = w.heap.size + 1) w2).setCell (p := ⟨w.heap.size, 2, none⟩) (fun _ => .inl rfl) (.slice B2 e.code.length d2)).setCell (p := ⟨w.heap.size + 1, 0, none⟩) (fun _ => .inr rfl) (.int .i64 e.on)).setCell (p := ⟨w.heap.size + 1, 1, none⟩) (fun _ => .inr rfl) (.slice B1 e.slots.length d1)).setCell (p := ⟨w.heap.size + 1, 2, none⟩) (fun _ => .inr rfl) (.slice B2 e.code.length d2)).setCell (p := ⟨w.heap.size + 1, 3, none⟩) (fun _ => .inr rfl) (.int .i64 e.bound))
  clear P R
  go_wp2_with fail
  refine bodyPost_ret (results_cell rfl _ (w.heap.size + 1) rfl (#[.int .i64 e.on, .slice B1 e.slots.length d1, .slice B2 e.code.length d2, .int .i64 e.bound]) _ RF.out _ Tryz.underlying43 rfl (by kernel_rfl)) rfl ?_
  refine ⟨B1, B2, d1, d2, rfl, (E1.out.keeps KF.out (fun b hb e => by omega)).less (by omega), (E2.out.keeps KF.out (fun b hb e => by omega)).less (by omega), K.out.and KF.out (fun b hb e => by omega)⟩
def OEf (w : World) (B : Nat) (v : Value) (l : List Eff) : Prop := ∃ cells, OUp OlE 4 43 w B v l cells
theorem OEf.keeps {S : Nat → Prop} {w w' : World} {B : Nat} {v : Value} {l : List Eff} (h : OEf w B v l) (hk : Keeps S w w') (hS : ∀ b, B ≤ b → ¬ S b) : OEf w' B v l := by
  obtain ⟨cells, h⟩ := h
  exact ⟨cells, h.keeps OlE_k hk hS⟩
theorem OEf.less {w : World} {B B' : Nat} {v : Value} {l : List Eff} (h : OEf w B v l) (hB : B' ≤ B) : OEf w B' v l := by
  obtain ⟨cells, h⟩ := h
  exact ⟨cells, h.less OlE_k hB⟩
theorem OEf.kind {S : Nat → Prop} {w w' : World} {B : Nat} {v : Value} {l : List Eff} {t : TypeId} (h : OEf w B v l) (hk : Keeps S w w') (hS : OfTy w t S) (h1 : ¬ OlEt t) (h2 : 43 ≠ t) : OEf w' B v l := by
  obtain ⟨cells, h⟩ := h
  exact ⟨cells, h.kind OlE_k hk hS h1 h2⟩
set_option maxRecDepth 4000 in
set_option maxHeartbeats 1000000 in
theorem copyEffects_in (xs : List Eff) (A : Option Addr) (cap : Nat) (w : World) (hx : EfLies w w.heap.size A xs) (hl : xs.length ≤ 1000000000) (hr : ∀ r ∈ xs, EffFew r) :
    Calls Tryz.prog 134 #[.slice A xs.length cap] w fun e w' => ∃ A' c', e = .returned (.slice A' xs.length c') ∧ OEf w' w.heap.size (.slice A' xs.length c') xs ∧ Keeps (fun _ => False) w w' := by
  have HX := Lib.hid hx; clear hx
  go_enter Tryz.func134, Tryz.ntmps134
  go_wp2_with fail
  go_loopw [3, 4] (fun vc vi wr => ∃ (i : Nat) (cells : List Value) (A' : Option Addr) (c' : Nat), i ≤ xs.length ∧ vi = .int .i64 i ∧ vc = .slice A' i c' ∧ Hid (OUp OlE 4 43 wr w.heap.size (.slice A' i c') (xs.take i) cells) ∧ Hid (Keeps (fun _ => False) w wr)) (fun _ vi _ => xs.length - (intOf vi).toNat)
  case atStart => exact ⟨0, [], none, 0, by omega, rfl, rfl, Lib.hid OUp.nil, Lib.hid (Keeps.refl _ w)⟩
  case round =>
    obtain ⟨i, cells, A', c', hi, rfl, rfl, HO, HK⟩ := hrel
    by_cases hlt : i < xs.length
    · have hxi : xs[i]? = some xs[i] := List.getElem?_eq_getElem hlt
      obtain ⟨g, off, A1, c1, A2, c2, rfl, hg, k0, k1, k2, k3, hs, hc⟩ := (HX.out.keeps HK.out (fun _ _ => id) (Nat.le_refl _)) i xs[i] hxi
      have hri := hr xs[i] (List.getElem_mem hlt)
      generalize xs[i] = x at *
      go_wp2_with fail
      refine (copyEffect_any x A1 A2 c1 c2 wr (hs.more HK.out.size) (hc.more HK.out.size) hri).mono ?_
      rintro e w1 ⟨B1, B2, d1, d2, rfl, E1, E2, kk⟩
      clear k0 k1 k2 k3 hs hc
      unfold effV at *
      have hlen : (xs.take i).length = i := by rw [List.length_take]; omega
      have ka := (Keeps.refl (fun _ => False) w1).alloc (.cells #[.int .i64 x.on, .slice B1 x.slots.length d1, .slice B2 x.code.length d2, .int .i64 x.bound] 43)
      have HA : Hid (OUp OlE 4 43 (w1.alloc (.cells #[.int .i64 x.on, .slice B1 x.slots.length d1, .slice B2 x.code.length d2, .int .i64 x.bound] 43)) w.heap.size (.slice A' i c') (xs.take i) cells) := Lib.hid (HO.out.keeps OlE_k (kk.trans ka) (fun _ _ => id))
      have HA0 : Hid ((w1.alloc (.cells #[.int .i64 x.on, .slice B1 x.slots.length d1, .slice B2 x.code.length d2, .int .i64 x.bound] 43)).ownsRow w.heap.size 43 4 (.slice A' i c') i cells) := Lib.hid (by have := HA.out.own; rwa [hlen] at this)
      have HN : Hid (Lies (w1.alloc (.cells #[.int .i64 x.on, .slice B1 x.slots.length d1, .slice B2 x.code.length d2, .int .i64 x.bound] 43)) (w1.heap.size + 1) (some ⟨w1.heap.size, 0, none⟩) [.int .i64 x.on, .slice B1 x.slots.length d1, .slice B2 x.code.length d2, .int .i64 x.bound]) := Lib.hid (Lies.row (fr := (0, 0)) (Whole.made w1 43 #[.int .i64 x.on, .slice B1 x.slots.length d1, .slice B2 x.code.length d2, .int .i64 x.bound]) (Nat.lt_succ_self _))
      have HB : Hid (w.heap.size ≤ (w1.alloc (.cells #[.int .i64 x.on, .slice B1 x.slots.length d1, .slice B2 x.code.length d2, .int .i64 x.bound] 43)).heap.size) := Lib.hid ((HK.out.trans (kk.trans ka)).size)
      have HE : Hid (OlE (w1.alloc (.cells #[.int .i64 x.on, .slice B1 x.slots.length d1, .slice B2 x.code.length d2, .int .i64 x.bound] 43)) w.heap.size [.int .i64 x.on, .slice B1 x.slots.length d1, .slice B2 x.code.length d2, .int .i64 x.bound] x) := Lib.hid ⟨B1, B2, d1, d2, rfl, (E1.less HK.out.size).keeps ka (fun _ _ => id), (E2.less HK.out.size).keeps ka (fun _ _ => id)⟩
      have HK1 := Lib.hid (HK.out.trans (kk.trans ka))
      have ht : Hid (xs.take i ++ [x] = xs.take (i + 1)) := Lib.hid (by rw [List.take_add_one, hxi]; rfl)
      clear E1 E2 kk ka HO HK hxi
      go_wp2_with (first
        | (at_builtin
           refine wpList_append_cells _ rfl _ _ 38 rfl w.heap.size 43 (.agg #[.int .i64 0, .slice none 0 0, .slice none 0 0, .int .i64 0]) 4 64 Tryz.underlying38 info_effC rfl (by decide) (.slice A' i c') i cells rfl HA0.out _ (some ⟨w1.heap.size, 0, none⟩) 1 1 [.int .i64 x.on, .slice B1 x.slots.length d1, .slice B2 x.code.length d2, .int .i64 x.bound] rfl HN.out rfl (fun u hu => by simp only [List.mem_cons, List.not_mem_nil, or_false] at hu; rcases hu with rfl | rfl | rfl | rfl <;> rfl) (by simp only [maxLen]; omega) (by omega) HB.out ?_
           intro A3 c3 w2 hown hg2 _ _ _))
      have hp := HA.out.push OlE_k (by unfold OlEt; decide) rfl HE.out hg2 (by rw [hlen]; exact hown)
      rw [ht.out] at hp
      exact ⟨⟨i + 1, _, A3, c3, by omega, by go_num, rfl, Lib.hid hp, Lib.hid (HK1.out.grown hg2 (fun k hk h0 => absurd ((HA0.out.lt k hk).1) (by omega)))⟩, by simp [intOf]; omega⟩
    · obtain rfl : i = xs.length := by omega
      go_wp2_with fail
      go_ret
      have HO' := HO.out
      rw [List.take_length] at HO'
      exact ⟨A', c', rfl, ⟨cells, HO'⟩, HK.out⟩
end Go.Proofs.YtcmbdnjcfneinaaGreatDoor
/-
  Copies of kinds: the walks. Conditions: lengths within 10 ^ 9.
-/
namespace Go.Proofs.YtcmbdnjcfneinaaGreatDoor
open Go.RowKit
theorem info_kndC : (Tryz.prog.info? 40).map (fun i => (i.zero, i.size, i.bytes)) = some (some (.agg #[.int .i64 0, .int .i64 0, .int .i64 0, .int .i64 0, .slice none 0 0, .slice none 0 0]), 6, 80) := by kernel_rfl
/-- An element's cells, and the lists of its own that they lead to. -/
def OlKd (w : World) (B : Nat) (v : List Value) (k : Knd) : Prop := ∃ (A1 A2 : Option Addr) (c1 c2 : Nat), v = [.int .i64 k.name, .int .i64 k.cost, .int .i64 k.power, .int .i64 k.health, .slice A1 k.tags.length c1, .slice A2 k.effs.length c2] ∧ OIn w B (.slice A1 k.tags.length c1) k.tags ∧ OEf w B (.slice A2 k.effs.length c2) k.effs
def OlKdt (t : TypeId) : Prop := (fun t => t = 3 ∨ t = 43 ∨ t = 80 ∨ t = 5) t
theorem OlKd_k : ElO OlKd OlKdt := ⟨fun _ _ _ _ _ _ ⟨A1, A2, c1, c2, e, h1, h2⟩ hk hS => ⟨A1, A2, c1, c2, e, h1.keeps hk hS, h2.keeps hk hS⟩, fun _ _ _ _ _ ⟨A1, A2, c1, c2, e, h1, h2⟩ hB => ⟨A1, A2, c1, c2, e, h1.less hB, h2.less hB⟩, fun _ _ _ _ _ _ _ ⟨A1, A2, c1, c2, e, h1, h2⟩ hk hS hn => ⟨A1, A2, c1, c2, e, h1.kind hk hS (fun e => hn (.inl e.symm)), h2.kind hk hS (fun e => hn (.inr (.inr e))) (fun e => hn (.inr (.inl e.symm)))⟩⟩
def OKd (w : World) (B : Nat) (v : Value) (l : List Knd) : Prop := ∃ cells, OUp OlKd 6 40 w B v l cells
theorem OKd.keeps {S : Nat → Prop} {w w' : World} {B : Nat} {v : Value} {l : List Knd} (h : OKd w B v l) (hk : Keeps S w w') (hS : ∀ b, B ≤ b → ¬ S b) : OKd w' B v l := by
  obtain ⟨cells, h⟩ := h
  exact ⟨cells, h.keeps OlKd_k hk hS⟩
theorem OKd.less {w : World} {B B' : Nat} {v : Value} {l : List Knd} (h : OKd w B v l) (hB : B' ≤ B) : OKd w B' v l := by
  obtain ⟨cells, h⟩ := h
  exact ⟨cells, h.less OlKd_k hB⟩
theorem OKd.kind {S : Nat → Prop} {w w' : World} {B : Nat} {v : Value} {l : List Knd} {t : TypeId} (h : OKd w B v l) (hk : Keeps S w w') (hS : OfTy w t S) (h1 : ¬ OlKdt t) (h2 : 40 ≠ t) : OKd w' B v l := by
  obtain ⟨cells, h⟩ := h
  exact ⟨cells, h.kind OlKd_k hk hS h1 h2⟩
set_option maxRecDepth 4000 in
set_option maxHeartbeats 1000000 in
theorem copyKind_any (k : Knd) (A1 A2 : Option Addr) (c1 c2 : Nat) (w : World) (h1 : Lies w w.heap.size A1 (k.tags.map (Value.int .i64))) (h2 : EfLies w w.heap.size A2 k.effs) (hm : KndFew k) :
    Calls Tryz.prog 102 #[.agg (kndV k A1 A2 c1 c2)] w fun r w' => ∃ (B1 B2 : Option Addr) (d1 d2 : Nat), r = .returned (.agg (kndV k B1 B2 d1 d2)) ∧ OIn w' w.heap.size (.slice B1 k.tags.length d1) k.tags ∧ OEf w' w.heap.size (.slice B2 k.effs.length d2) k.effs ∧ Keeps (fun _ => False) w w' := by
  unfold kndV
  have P := Lib.hid ((Whole.made w 40 #[.int .i64 k.name, .int .i64 k.cost, .int .i64 k.power, .int .i64 k.health, .slice A1 k.tags.length c1, .slice A2 k.effs.length c2]).alloc (.cells #[.int .i64 0, .int .i64 0, .int .i64 0, .int .i64 0, .slice none 0 0, .slice none 0 0] 40))
  have R := Lib.hid (Whole.made (w.alloc (.cells #[.int .i64 k.name, .int .i64 k.cost, .int .i64 k.power, .int .i64 k.health, .slice A1 k.tags.length c1, .slice A2 k.effs.length c2] 40)) 40 #[.int .i64 0, .int .i64 0, .int .i64 0, .int .i64 0, .slice none 0 0, .slice none 0 0])
  rw [show (w.alloc (.cells #[.int .i64 k.name, .int .i64 k.cost, .int .i64 k.power, .int .i64 k.health, .slice A1 k.tags.length c1, .slice A2 k.effs.length c2] 40)).heap.size = w.heap.size + 1 by simp] at R
  have K := Lib.hid (((Keeps.refl (fun _ => False) w).alloc (.cells #[.int .i64 k.name, .int .i64 k.cost, .int .i64 k.power, .int .i64 k.health, .slice A1 k.tags.length c1, .slice A2 k.effs.length c2] 40)).alloc (.cells #[.int .i64 0, .int .i64 0, .int .i64 0, .int .i64 0, .slice none 0 0, .slice none 0 0] 40))
  have Z : Hid (w.heap.size + 2 ≤ ((w.alloc (.cells (#[.int .i64 k.name, .int .i64 k.cost, .int .i64 k.power, .int .i64 k.health, .slice A1 k.tags.length c1, .slice A2 k.effs.length c2]) 40)).alloc (.cells #[.int .i64 0, .int .i64 0, .int .i64 0, .int .i64 0, .slice none 0 0, .slice none 0 0] 40)).heap.size) := Lib.hid (by simp)
  have H1 := Lib.hid h1
  have H2 := Lib.hid h2
  clear h1 h2
  go_enter Tryz.func102, Tryz.ntmps102
  go_wp2_with fail
  generalize ((w.alloc (.cells (#[.int .i64 k.name, .int .i64 k.cost, .int .i64 k.power, .int .i64 k.health, .slice A1 k.tags.length c1, .slice A2 k.effs.length c2]) 40)).alloc (.cells #[.int .i64 0, .int .i64 0, .int .i64 0, .int .i64 0, .slice none 0 0, .slice none 0 0] 40)) = w0 at *
  refine (copyInts_in k.tags A1 c1 w0 ((H1.out.keeps K.out (fun _ _ => id) (Nat.le_refl _)).more (by have := Z.out; omega)) (hm.tags)).mono ?_
  rintro r w1 ⟨B1, d1, rfl, E1n, kk⟩
  have E1 := Lib.hid (E1n.less Z.out)
  clear E1n
  replace P := Lib.hid (P.out.keeps kk id)
  replace R := Lib.hid (R.out.keeps kk id)
  replace K := Lib.hid (K.out.trans kk)
  replace Z : Hid (w.heap.size + 2 ≤ w1.heap.size) := Lib.hid (Nat.le_trans Z.out kk.size)
  clear kk
  obtain ⟨a0, a1, a2, a3, a4, a5⟩ := six P.out
  have pf := P.out.free 4
  go_wp2_with fail
  clear a0 a1 a2 a3 a4 a5 pf
  replace K := Lib.hid (K.out.setCell (p := ⟨w.heap.size, 4, none⟩) (fun h => absurd h (Nat.lt_irrefl _)) (.slice B1 k.tags.length d1))
  have ks := (Keeps.refl (fun b => b = w.heap.size) w1).setCell (p := ⟨w.heap.size, 4, none⟩) (fun _ => rfl) (.slice B1 k.tags.length d1)
  replace P := Lib.hid (P.out.put 4 (.slice B1 k.tags.length d1))
  replace R := Lib.hid (R.out.keeps ks (by omega))
  replace Z := Lib.hid (Nat.le_trans Z.out ks.size)
  replace E1 := Lib.hid (E1.out.keeps ks (fun b hb e => by omega))
  clear ks
  generalize w1.setCell ⟨w.heap.size, 4, none⟩ (.slice B1 k.tags.length d1) = v1 at *
  refine (copyEffects_in k.effs A2 c2 v1 ((H2.out.keeps K.out (fun _ _ => id) (Nat.le_refl _)).more (by have := Z.out; omega)) (hm.effs) (hm.each)).mono ?_
  rintro r w2 ⟨B2, d2, rfl, E2n, kk⟩
  have E2 := Lib.hid (E2n.less Z.out)
  clear E2n
  replace E1 := Lib.hid (E1.out.keeps kk (fun _ _ => id))
  replace P := Lib.hid (P.out.keeps kk id)
  replace R := Lib.hid (R.out.keeps kk id)
  replace K := Lib.hid (K.out.trans kk)
  replace Z : Hid (w.heap.size + 2 ≤ w2.heap.size) := Lib.hid (Nat.le_trans Z.out kk.size)
  clear kk
  obtain ⟨a0, a1, a2, a3, a4, a5⟩ := six P.out
  have pf := P.out.free 5
  obtain ⟨b0, b1, b2, b3, b4, b5⟩ := six R.out
  have rf0 := R.out.free 0
  have rf1 := R.out.free 1
  have rf2 := R.out.free 2
  have rf3 := R.out.free 3
  have rf4 := R.out.free 4
  have rf5 := R.out.free 5
  have RF := Lib.hid (((((((R.out.putFar (p := ⟨w.heap.size, 5, none⟩) (by show w.heap.size + 1 ≠ w.heap.size; omega) (.slice B2 k.effs.length d2)).put 0 (.int .i64 k.name)).put 1 (.int .i64 k.cost)).put 2 (.int .i64 k.power)).put 3 (.int .i64 k.health)).put 4 (.slice B1 k.tags.length d1)).put 5 (.slice B2 k.effs.length d2))
  have KF := Lib.hid ((((((((Keeps.refl (fun b => b = w.heap.size ∨ b = w.heap.size + 1) w2).setCell (p := ⟨w.heap.size, 5, none⟩) (fun _ => .inl rfl) (.slice B2 k.effs.length d2)).setCell (p := ⟨w.heap.size + 1, 0, none⟩) (fun _ => .inr rfl) (.int .i64 k.name)).setCell (p := ⟨w.heap.size + 1, 1, none⟩) (fun _ => .inr rfl) (.int .i64 k.cost)).setCell (p := ⟨w.heap.size + 1, 2, none⟩) (fun _ => .inr rfl) (.int .i64 k.power)).setCell (p := ⟨w.heap.size + 1, 3, none⟩) (fun _ => .inr rfl) (.int .i64 k.health)).setCell (p := ⟨w.heap.size + 1, 4, none⟩) (fun _ => .inr rfl) (.slice B1 k.tags.length d1)).setCell (p := ⟨w.heap.size + 1, 5, none⟩) (fun _ => .inr rfl) (.slice B2 k.effs.length d2))
  clear P R
  go_wp2_with fail
  refine bodyPost_ret (results_cell rfl _ (w.heap.size + 1) rfl (#[.int .i64 k.name, .int .i64 k.cost, .int .i64 k.power, .int .i64 k.health, .slice B1 k.tags.length d1, .slice B2 k.effs.length d2]) _ RF.out _ Tryz.underlying40 rfl (by kernel_rfl)) rfl ?_
  refine ⟨B1, B2, d1, d2, rfl, (E1.out.keeps KF.out (fun b hb e => by omega)).less (by omega), (E2.out.keeps KF.out (fun b hb e => by omega)).less (by omega), K.out.and KF.out (fun b hb e => by omega)⟩
set_option maxRecDepth 4000 in
set_option maxHeartbeats 1000000 in
theorem copyKinds_in (xs : List Knd) (A : Option Addr) (cap : Nat) (w : World) (hx : KdLies w w.heap.size A xs) (hl : xs.length ≤ 1000000000) (hr : ∀ r ∈ xs, KndFew r) :
    Calls Tryz.prog 53 #[.slice A xs.length cap] w fun e w' => ∃ A' c', e = .returned (.slice A' xs.length c') ∧ OKd w' w.heap.size (.slice A' xs.length c') xs ∧ Keeps (fun _ => False) w w' := by
  have HX := Lib.hid hx; clear hx
  go_enter Tryz.func53, Tryz.ntmps53
  go_wp2_with fail
  go_loopw [3, 4] (fun vc vi wr => ∃ (i : Nat) (cells : List Value) (A' : Option Addr) (c' : Nat), i ≤ xs.length ∧ vi = .int .i64 i ∧ vc = .slice A' i c' ∧ Hid (OUp OlKd 6 40 wr w.heap.size (.slice A' i c') (xs.take i) cells) ∧ Hid (Keeps (fun _ => False) w wr)) (fun _ vi _ => xs.length - (intOf vi).toNat)
  case atStart => exact ⟨0, [], none, 0, by omega, rfl, rfl, Lib.hid OUp.nil, Lib.hid (Keeps.refl _ w)⟩
  case round =>
    obtain ⟨i, cells, A', c', hi, rfl, rfl, HO, HK⟩ := hrel
    by_cases hlt : i < xs.length
    · have hxi : xs[i]? = some xs[i] := List.getElem?_eq_getElem hlt
      obtain ⟨g, off, A1, c1, A2, c2, rfl, hg, k0, k1, k2, k3, k4, k5, hs, hc⟩ := (HX.out.keeps HK.out (fun _ _ => id) (Nat.le_refl _)) i xs[i] hxi
      have hri := hr xs[i] (List.getElem_mem hlt)
      generalize xs[i] = x at *
      go_wp2_with fail
      refine (copyKind_any x A1 A2 c1 c2 wr (hs.more HK.out.size) (hc.more HK.out.size) hri).mono ?_
      rintro e w1 ⟨B1, B2, d1, d2, rfl, E1, E2, kk⟩
      clear k0 k1 k2 k3 k4 k5 hs hc
      unfold kndV at *
      have hlen : (xs.take i).length = i := by rw [List.length_take]; omega
      have ka := (Keeps.refl (fun _ => False) w1).alloc (.cells #[.int .i64 x.name, .int .i64 x.cost, .int .i64 x.power, .int .i64 x.health, .slice B1 x.tags.length d1, .slice B2 x.effs.length d2] 40)
      have HA : Hid (OUp OlKd 6 40 (w1.alloc (.cells #[.int .i64 x.name, .int .i64 x.cost, .int .i64 x.power, .int .i64 x.health, .slice B1 x.tags.length d1, .slice B2 x.effs.length d2] 40)) w.heap.size (.slice A' i c') (xs.take i) cells) := Lib.hid (HO.out.keeps OlKd_k (kk.trans ka) (fun _ _ => id))
      have HA0 : Hid ((w1.alloc (.cells #[.int .i64 x.name, .int .i64 x.cost, .int .i64 x.power, .int .i64 x.health, .slice B1 x.tags.length d1, .slice B2 x.effs.length d2] 40)).ownsRow w.heap.size 40 6 (.slice A' i c') i cells) := Lib.hid (by have := HA.out.own; rwa [hlen] at this)
      have HN : Hid (Lies (w1.alloc (.cells #[.int .i64 x.name, .int .i64 x.cost, .int .i64 x.power, .int .i64 x.health, .slice B1 x.tags.length d1, .slice B2 x.effs.length d2] 40)) (w1.heap.size + 1) (some ⟨w1.heap.size, 0, none⟩) [.int .i64 x.name, .int .i64 x.cost, .int .i64 x.power, .int .i64 x.health, .slice B1 x.tags.length d1, .slice B2 x.effs.length d2]) := Lib.hid (Lies.row (fr := (0, 0)) (Whole.made w1 40 #[.int .i64 x.name, .int .i64 x.cost, .int .i64 x.power, .int .i64 x.health, .slice B1 x.tags.length d1, .slice B2 x.effs.length d2]) (Nat.lt_succ_self _))
      have HB : Hid (w.heap.size ≤ (w1.alloc (.cells #[.int .i64 x.name, .int .i64 x.cost, .int .i64 x.power, .int .i64 x.health, .slice B1 x.tags.length d1, .slice B2 x.effs.length d2] 40)).heap.size) := Lib.hid ((HK.out.trans (kk.trans ka)).size)
      have HE : Hid (OlKd (w1.alloc (.cells #[.int .i64 x.name, .int .i64 x.cost, .int .i64 x.power, .int .i64 x.health, .slice B1 x.tags.length d1, .slice B2 x.effs.length d2] 40)) w.heap.size [.int .i64 x.name, .int .i64 x.cost, .int .i64 x.power, .int .i64 x.health, .slice B1 x.tags.length d1, .slice B2 x.effs.length d2] x) := Lib.hid ⟨B1, B2, d1, d2, rfl, (E1.less HK.out.size).keeps ka (fun _ _ => id), (E2.less HK.out.size).keeps ka (fun _ _ => id)⟩
      have HK1 := Lib.hid (HK.out.trans (kk.trans ka))
      have ht : Hid (xs.take i ++ [x] = xs.take (i + 1)) := Lib.hid (by rw [List.take_add_one, hxi]; rfl)
      clear E1 E2 kk ka HO HK hxi
      go_wp2_with (first
        | (at_builtin
           refine wpList_append_cells _ rfl _ _ 24 rfl w.heap.size 40 (.agg #[.int .i64 0, .int .i64 0, .int .i64 0, .int .i64 0, .slice none 0 0, .slice none 0 0]) 6 80 Tryz.underlying24 info_kndC rfl (by decide) (.slice A' i c') i cells rfl HA0.out _ (some ⟨w1.heap.size, 0, none⟩) 1 1 [.int .i64 x.name, .int .i64 x.cost, .int .i64 x.power, .int .i64 x.health, .slice B1 x.tags.length d1, .slice B2 x.effs.length d2] rfl HN.out rfl (fun u hu => by simp only [List.mem_cons, List.not_mem_nil, or_false] at hu; rcases hu with rfl | rfl | rfl | rfl | rfl | rfl <;> rfl) (by simp only [maxLen]; omega) (by omega) HB.out ?_
           intro A3 c3 w2 hown hg2 _ _ _))
      have hp := HA.out.push OlKd_k (by unfold OlKdt; decide) rfl HE.out hg2 (by rw [hlen]; exact hown)
      rw [ht.out] at hp
      exact ⟨⟨i + 1, _, A3, c3, by omega, by go_num, rfl, Lib.hid hp, Lib.hid (HK1.out.grown hg2 (fun k hk h0 => absurd ((HA0.out.lt k hk).1) (by omega)))⟩, by simp [intOf]; omega⟩
    · obtain rfl : i = xs.length := by omega
      go_wp2_with fail
      go_ret
      have HO' := HO.out
      rw [List.take_length] at HO'
      exact ⟨A', c', rfl, ⟨cells, HO'⟩, HK.out⟩
end Go.Proofs.YtcmbdnjcfneinaaGreatDoor
/-
  Lists of a pack's own, as they are read. Conditions: none.
-/
namespace Go.Proofs.YtcmbdnjcfneinaaGreatDoor
open Go.RowKit
theorem OEf.lie {w : World} {B c : Nat} {A : Option Addr} {l : List Eff} (h : OEf w B (.slice A l.length c) l) : EfLies w w.heap.size A l := fun i e hi => by
  obtain ⟨cells, ho, hel⟩ := h
  have hL := own_lies_q ho
  have hl := (List.getElem?_eq_some_iff.1 hi).1
  obtain ⟨v, hv, ⟨A1, A2, c1, c2, rfl, E1, E2⟩, hc⟩ := hel i e hi
  obtain ⟨g, off, eA, hg, h0⟩ := hL (i * 4 + 0) _ (hc 0 (by omega))
  subst eA
  have q : ∀ m u, m < 4 → cells[i * 4 + m]? = some u → w.cell? ⟨g, off + (i * 4 + m), none⟩ = some u := fun m u hm hu => by
    obtain ⟨g', off', eA, _, h1⟩ := hL _ u hu
    injection eA with eA
    injection eA with e1 e2 _
    subst e1 e2
    exact h1
  refine ⟨g, off, A1, c1, A2, c2, rfl, hg, q 0 _ (by omega) (hc 0 (by omega)), q 1 _ (by omega) (hc 1 (by omega)), q 2 _ (by omega) (hc 2 (by omega)), q 3 _ (by omega) (hc 3 (by omega)), own_lies_q E1, own_lies_q E2⟩
theorem OKd.lie {w : World} {B c : Nat} {A : Option Addr} {l : List Knd} (h : OKd w B (.slice A l.length c) l) : KdLies w w.heap.size A l := fun i e hi => by
  obtain ⟨cells, ho, hel⟩ := h
  have hL := own_lies_q ho
  have hl := (List.getElem?_eq_some_iff.1 hi).1
  obtain ⟨v, hv, ⟨A1, A2, c1, c2, rfl, E1, E2⟩, hc⟩ := hel i e hi
  obtain ⟨g, off, eA, hg, h0⟩ := hL (i * 6 + 0) _ (hc 0 (by omega))
  subst eA
  have q : ∀ m u, m < 6 → cells[i * 6 + m]? = some u → w.cell? ⟨g, off + (i * 6 + m), none⟩ = some u := fun m u hm hu => by
    obtain ⟨g', off', eA, _, h1⟩ := hL _ u hu
    injection eA with eA
    injection eA with e1 e2 _
    subst e1 e2
    exact h1
  refine ⟨g, off, A1, c1, A2, c2, rfl, hg, q 0 _ (by omega) (hc 0 (by omega)), q 1 _ (by omega) (hc 1 (by omega)), q 2 _ (by omega) (hc 2 (by omega)), q 3 _ (by omega) (hc 3 (by omega)), q 4 _ (by omega) (hc 4 (by omega)), q 5 _ (by omega) (hc 5 (by omega)), own_lies_q E1, E2.lie⟩
theorem opk_lie {w : World} {B : Nat} {p : Pk} {Ai At Ak : Option Addr} {ci ct ck : Nat} (h1 : OLo w B (.slice Ai p.ints.length ci) p.ints) (h2 : OTx w B (.slice At p.texts.length ct) p.texts) (h3 : OKd w B (.slice Ak p.kinds.length ck) p.kinds) : PkIn w w.heap.size p Ai At Ak := ⟨own_lies_q h1, own_lies_q h2, h3.lie⟩
end Go.Proofs.YtcmbdnjcfneinaaGreatDoor
