/-
  RowsStacks: does at any call, of two stacks or of nil ones. Conditions: lengths within 10 ^ 6.
-/
import Derived.Test.YtbfhbekocgdceaaRtB
import Derived.Test.YtbfhbekocgdceaaRtC
import Derived.Test.YtbfhbekocgdceaaRtD
import Derived.Test.YtbfhbekocgdceaaRtF
namespace Go.Proofs.Ytbfhbekocgdceaa
open Go.RowKit
/-- Two stacks of one content, or two nil ones; F: their blocks. -/
def Side (w : World) (s r : Value) (m : Nat) (F : Nat → Prop) : Prop :=
  (s = .pointer none ∧ r = .pointer none ∧ ∀ b, ¬ F b) ∨
  ∃ sp rp A c l n most D cd U cu, s = .pointer (some ⟨sp, 0, none⟩) ∧ r = .pointer (some ⟨rp, 0, none⟩) ∧ PairS w sp rp A c l n most D cd U cu ∧ l.length ≤ m ∧ (l.length : Int) ≤ most ∧ ∀ b, F b ↔ PairS.foot sp rp A D U b
theorem Side.calm {S : Nat → Prop} {w w' : World} {s r : Value} {m : Nat} {F : Nat → Prop} (h : Side w s r m F) (hk : Keeps S w w') (hS : ∀ b, F b → ¬ S b) : Side w' s r m F := by
  rcases h with h | ⟨sp, rp, A, c, l, n, most, D, cd, U, cu, e1, e2, h, hm, hn, hF⟩
  · exact .inl h
  · exact .inr ⟨sp, rp, A, c, l, n, most, D, cd, U, cu, e1, e2, h.calm hk (fun b hb => hS b ((hF b).2 hb)), hm, hn, hF⟩
theorem Side.more {w : World} {s r : Value} {m m' : Nat} {F : Nat → Prop} (h : Side w s r m F) (hm : m ≤ m') : Side w s r m' F := by
  rcases h with h | ⟨sp, rp, A, c, l, n, most, D, cd, U, cu, e1, e2, h, hm, hn, hF⟩
  · exact .inl h
  · exact .inr ⟨sp, rp, A, c, l, n, most, D, cd, U, cu, e1, e2, h, by omega, hn, hF⟩
theorem Side.lt {w : World} {s r : Value} {m : Nat} {F : Nat → Prop} (h : Side w s r m F) {b : Nat} (hb : F b) : b < w.heap.size := by
  rcases h with h | ⟨sp, rp, A, c, l, n, most, D, cd, U, cu, e1, e2, h, hm, hn, hF⟩
  · exact absurd hb (h.2.2 b)
  · exact h.lt ((hF b).1 hb)
/-- What a call of does leaves. -/
structure DoesTo (w w' : World) (s r : Value) (m : Nat) (F F' : Nat → Prop) (hb : Nat) (rows rows' : List Sl) (HA HA' : Option Addr) (hc' : Nat) : Prop where
  side : Side w' s r (m + 1) F'
  held : HeldIn w' hb rows' HA' hc'
  len : rows'.length ≤ rows.length + 1
  keeps : Keeps (fun b => F b ∨ HeldIn.foot hb HA rows b) w w'
  newF : ∀ b, F' b → F b ∨ w.heap.size ≤ b
  newH : ∀ b, HeldIn.foot hb HA' rows' b → HeldIn.foot hb HA rows b ∨ w.heap.size ≤ b
  dis : ∀ b, F' b → ¬ HeldIn.foot hb HA' rows' b
section
variable {w w' : World} {s r : Value} {m : Nat} {F F' : Nat → Prop} {hb hc : Nat} {rows rows' : List Sl} {HA HA' : Option Addr}
theorem DoesTo.quiet (h : Side w s r m F) (hh : HeldIn w hb rows HA hc) (hd : ∀ b, F b → ¬ HeldIn.foot hb HA rows b) (hk : Keeps (fun _ => False) w w') : DoesTo w w' s r m F F hb rows rows HA HA hc :=
  ⟨(h.calm hk (fun _ _ h => h)).more (Nat.le_succ _), hh.calm hk (fun _ _ h => h), Nat.le_succ _, hk.mono (fun _ _ h => h.elim), fun _ h => .inl h, fun _ h => .inl h, hd⟩
theorem DoesTo.pair (hh : HeldIn w hb rows HA hc) (hd : ∀ b, F b → ¬ HeldIn.foot hb HA rows b) (hk : Keeps F w w') (h' : Side w' s r (m + 1) F') (hn : ∀ b, F' b → F b ∨ w.heap.size ≤ b) : DoesTo w w' s r m F F' hb rows rows HA HA hc :=
  ⟨h', hh.calm hk (fun b h1 h2 => hd b h2 h1), Nat.le_succ _, hk.mono (fun _ _ h => .inl h), hn, fun _ h => .inl h, fun b h1 h2 => by
    rcases hn b h1 with h3 | h3
    · exact hd b h3 h2
    · have := hh.lt h2; omega⟩
theorem DoesTo.done {hc' : Nat} (h : Side w s r m F) (hd : ∀ b, F b → ¬ HeldIn.foot hb HA rows b) (hh' : HeldIn w' hb rows' HA' hc') (hl : rows'.length ≤ rows.length + 1) (hk : Keeps (HeldIn.foot hb HA rows) w w') (hn : ∀ b, HeldIn.foot hb HA' rows' b → HeldIn.foot hb HA rows b ∨ w.heap.size ≤ b) : DoesTo w w' s r m F F hb rows rows' HA HA' hc' :=
  ⟨(h.calm hk hd).more (Nat.le_succ _), hh', hl, hk.mono (fun _ _ h => .inr h), fun _ h => .inl h, hn, fun b h1 h2 => by
    rcases hn b h2 with h3 | h3
    · exact hd b h1 h3
    · have := h.lt h1; omega⟩
end
theorem does_any (s r : Value) (m : Nat) (F : Nat → Prop) (hb hc : Nat) (rows : List Sl) (HA : Option Addr) (k on x : Int) (w : World) (h : Side w s r m F) (hh : HeldIn w hb rows HA hc) (hd : ∀ b, F b → ¬ HeldIn.foot hb HA rows b) (hm : m ≤ 1000000) (hr : rows.length ≤ 100000) :
    Calls Try.prog 40 #[s, r, .agg #[.int .i64 k, .int .i64 on, .int .i64 x], .pointer (some ⟨hb, 0, none⟩)] w fun e w' => e = .returned (.bool true) ∧ ∃ F' rows' HA' hc', DoesTo w w' s r m F F' hb rows rows' HA HA' hc' := by
  have h0 := h
  rcases h with ⟨rfl, rfl, _⟩ | ⟨sp, rp, A, c, l, n, most, D, cd, U, cu, rfl, rfl, hp, hlm, hn, hF⟩
  · have q : ∀ e w', (e = Ending.returned (.bool true) ∧ Keeps (fun _ => False) w w') → (e = .returned (.bool true) ∧ ∃ F' rows' HA' hc', DoesTo w w' (.pointer none) (.pointer none) m F F' hb rows rows' HA HA' hc') := fun e w' h => ⟨h.1, F, rows, HA, hc, .quiet h0 hh hd h.2⟩
    by_cases k0 : k = 0
    · subst k0; exact (does_do_nil on x _ w).mono q
    by_cases k1 : k = 1
    · subst k1; exact (does_undo_nil on x _ w).mono q
    by_cases k2 : k = 2
    · subst k2; exact (does_redo_nil on x _ w).mono q
    by_cases k3 : k = 3
    · subst k3
      refine (does_done_nil hb rows HA hc on x w hh hr).mono ?_
      rintro e w' ⟨rfl, r, HA', hc', h1, h2, h3⟩
      exact ⟨rfl, F, _, HA', hc', .done h0 hd h1 (by simp) h2 h3⟩
    exact (does_len_nil k on x _ w k0 k1 k2 k3).mono q
  · have hle := hp.st.le
    have q : ∀ e w', (e = Ending.returned (.bool true) ∧ Keeps (fun _ => False) w w') → (e = .returned (.bool true) ∧ ∃ F' rows' HA' hc', DoesTo w w' (.pointer (some ⟨sp, 0, none⟩)) (.pointer (some ⟨rp, 0, none⟩)) m F F' hb rows rows' HA HA' hc') := fun e w' h => ⟨h.1, F, rows, HA, hc, .quiet h0 hh hd h.2⟩
    by_cases k0 : k = 0
    · subst k0
      by_cases hf : (n : Int) = most
      · subst hf; exact (does_full sp rp A c l n D cd U cu on x _ w hp).mono q
      · refine (does_do sp rp A c l n most D cd U cu on x _ w hp (by omega) (by omega)).mono ?_
        rintro e w' ⟨rfl, A', c', D', d', hp', hk, hA, hD⟩
        refine ⟨rfl, PairS.foot sp rp A' D' none, rows, HA, hc, .pair hh hd (hk.mono (fun b _ h => (hF b).2 h)) (.inr ⟨sp, rp, A', c', _, _, most, D', d', none, 0, rfl, rfl, hp', by simp; omega, by simp; omega, fun b => Iff.rfl⟩) (fun b hb => ?_)⟩
        rcases hb with hb | hb | hb | hb | hb
        · exact .inl ((hF b).2 (.inl hb))
        · exact .inl ((hF b).2 (.inr (.inl hb)))
        · rcases hA b hb with hb | hb
          · exact .inl ((hF b).2 (.inr (.inr (.inl hb))))
          · exact .inr hb
        · exact .inr (hD b hb)
        · cases hb
    by_cases k1 : k = 1
    · subst k1
      by_cases hz : n = 0
      · exact (does_undo_none sp rp A c l n most D cd U cu on x _ w hp hz).mono q
      · obtain ⟨n, rfl⟩ : ∃ j, n = j + 1 := ⟨n - 1, by omega⟩
        refine (does_undo_any sp rp A c l n most D cd U cu on x _ w (l[n]'(by omega)) hp (List.getElem?_eq_getElem _) (by omega)).mono ?_
        rintro e w' ⟨rfl, D', d', U', u', hp', hk, hD, hU⟩
        refine ⟨rfl, PairS.foot sp rp A D' U', rows, HA, hc, .pair hh hd (hk.mono (fun b _ h => (hF b).2 h)) (.inr ⟨sp, rp, A, c, _, _, most, D', d', U', u', rfl, rfl, hp', by omega, by omega, fun b => Iff.rfl⟩) (fun b hb => ?_)⟩
        rcases hb with hb | hb | hb | hb | hb
        · exact .inl ((hF b).2 (.inl hb))
        · exact .inl ((hF b).2 (.inr (.inl hb)))
        · exact .inl ((hF b).2 (.inr (.inr (.inl hb))))
        · exact .inr (hD b hb)
        · exact .inr (hU b hb)
    by_cases k2 : k = 2
    · subst k2
      by_cases hz : n = l.length
      · exact (does_redo_none sp rp A c l n most D cd U cu on x _ w hp hz).mono q
      · refine (does_redo_any sp rp A c l n most D cd U cu on x _ w (l[n]'(by omega)) hp (List.getElem?_eq_getElem _) (by omega)).mono ?_
        rintro e w' ⟨rfl, D', d', U', u', hp', hk, hD, hU⟩
        refine ⟨rfl, PairS.foot sp rp A D' U', rows, HA, hc, .pair hh hd (hk.mono (fun b _ h => (hF b).2 h)) (.inr ⟨sp, rp, A, c, _, _, most, D', d', U', u', rfl, rfl, hp', by omega, by omega, fun b => Iff.rfl⟩) (fun b hb => ?_)⟩
        rcases hb with hb | hb | hb | hb | hb
        · exact .inl ((hF b).2 (.inl hb))
        · exact .inl ((hF b).2 (.inr (.inl hb)))
        · exact .inl ((hF b).2 (.inr (.inr (.inl hb))))
        · exact .inr (hD b hb)
        · exact .inr (hU b hb)
    by_cases k3 : k = 3
    · subst k3
      refine (does_done sp rp hb A c l n most D cd U cu rows HA hc on x w hp hh (fun b h => hd b ((hF b).2 h)) (by omega) hr).mono ?_
      rintro e w' ⟨rfl, r, HA', hc', h1, h2, h3⟩
      exact ⟨rfl, F, _, HA', hc', .done h0 hd h1 (by simp) h2 h3⟩
    exact (does_len k sp rp A c l n most D cd U cu on x _ w k0 k1 k2 k3 hp (by omega)).mono q
end Go.Proofs.Ytbfhbekocgdceaa
