/-
  The law KindsNames: the walk. Conditions: the text is no longer than Go's own limit.
-/
import Derived.Test.YtfcdbmfdaohpjaaDoorKindS
import Derived.Test.YtfcdbmfdaohpjaaDoorBagT
namespace Go.Proofs.YtfcdbmfdaohpjaaDoor
open Go.RowKit
theorem own_of_whole {w : World} {g n : Nat} {e : TypeId} {cs : Array Value} (h : Whole w g e cs) (hn : cs.size = n) (hm : n ≤ maxLen) : w.ownsRow 0 e 1 (.slice (some ⟨g, 0, none⟩) n n) n cs.toList :=
  ⟨by rw [Array.length_toList, hn, Nat.mul_one], .inr ⟨g, n, cs, rfl, Nat.zero_le _, h, Nat.le_refl _, hm, by rw [hn, Nat.mul_one], List.take_of_length_le (by rw [Array.length_toList, hn]; omega)⟩⟩
theorem blks_snoc {rows : List Sl} {r : Sl} {b : Nat} (h : blks (rows ++ [r]) b) : blks rows b ∨ r.blk = some b := by
  obtain ⟨k, q, hq, hb⟩ := h
  rcases Nat.lt_or_ge k rows.length with hlt | hge
  · rw [List.getElem?_append_left hlt] at hq; exact .inl ⟨k, q, hq, hb⟩
  · rw [List.getElem?_append_right hge] at hq
    have h0 : k - rows.length = 0 := by
      rcases Nat.eq_zero_or_pos (k - rows.length) with h0 | h0
      · exact h0
      · rw [List.getElem?_eq_none (by simp; omega)] at hq; cases hq
    rw [h0] at hq
    injection hq with hq
    subst hq
    exact .inr hb
theorem kinds_size (a : Sg) : a.kinds.size = a.args.length := by simp [Sg.kinds]
/-- The slice of a sign's list of kinds. -/
def Sg.sl (a : Sg) (b : Nat) : Sl := ⟨some ⟨b, 0, none⟩, a.args.length, a.args.length⟩
theorem sl_own {a : Sg} {b : Nat} {w : World} (h : Whole w b 52 a.kinds) (hl : a.args.length ≤ 5) : w.ownsRow 0 52 1 (a.sl b).val (a.sl b).len a.kinds.toList := own_of_whole h (kinds_size a) (by show a.args.length ≤ maxLen; unfold maxLen; omega)
theorem sl_blk {a : Sg} {b c : Nat} (h : (a.sl b).blk = some c) : c = b := by
  simp [Sg.sl, Sl.blk, Sl.val, Value.ownBlock] at h; omega
/-- The bag, its lists all of at most five, all made since. -/
def BagOf (w0 w : World) (p m : Nat) (rows : List Sl) (A : Option Addr) (c : Nat) : Prop :=
  BagSn w p rows A c ∧ rows.length ≤ m ∧ (∀ (k : Nat) (r : Sl), rows[k]? = some r → r.len ≤ 5) ∧ (∀ b, blks rows b → w0.heap.size ≤ b)
theorem BagOf.past {w0 w w' : World} {p m c : Nat} {rows : List Sl} {A : Option Addr} (h : BagOf w0 w p m rows A c) (hb : Below w.heap.size w w') : BagOf w0 w' p m rows A c := ⟨h.1.past hb, h.2⟩
/-- One list more. -/
theorem BagOf.add {w0 w w' : World} {p m c c' b : Nat} {rows : List Sl} {A A' : Option Addr} {a : Sg} (h : BagOf w0 w p m rows A c) (hK : Whole w b 52 a.kinds) (hl : a.args.length ≤ 5) (hb : ¬ blks rows b ∧ b ≠ p) (h0 : w0.heap.size ≤ b)
    (hW : Whole w' p 45 ((bagNone.setIfInBounds 5 (.slice A rows.length c)).setIfInBounds 5 (.slice A' (rows.length + 1) c'))) (hO : w'.ownsRow (p + 1) 51 1 (.slice A' (rows.length + 1) c') (rows.length + 1) (vals rows ++ [(a.sl b).val]))
    (hKe : Keeps (fun b => b = p ∨ (Value.slice A rows.length c).ownBlock = some b) w w') : BagOf w0 w' p (m + 1) (rows ++ [a.sl b]) A' c' := by
  obtain ⟨h1, h2, h3, h4⟩ := h
  refine ⟨h1.add (sl_own hK hl) (fun c hc => by rw [sl_blk hc]; exact hb) hW hO hKe, by simp; omega, fun k r hr => ?_, fun c hc => ?_⟩
  · rcases Nat.lt_or_ge k rows.length with hlt | hge
    · rw [List.getElem?_append_left hlt] at hr; exact h3 k r hr
    · rw [List.getElem?_append_right hge] at hr
      have : r ∈ [a.sl b] := List.mem_of_getElem? hr
      simp at this
      rw [this]; exact hl
  · rcases blks_snoc hc with h5 | h5
    · exact h4 c h5
    · rw [sl_blk h5]; exact h0
/-- AddSmalls at a bag that is filled so. -/
theorem addTo_any {w0 w : World} {p m c b : Nat} {rows : List Sl} {A : Option Addr} {a : Sg} (h : BagOf w0 w p m rows A c) (hK : Whole w b 52 a.kinds) (hl : a.args.length ≤ 5) (hb : ¬ blks rows b ∧ b ≠ p) (h0 : w0.heap.size ≤ b) (hp : w0.heap.size ≤ p) (hm : m < 400) :
    Calls Tryd.prog 8 #[.pointer (some ⟨p, 0, none⟩), .slice (some ⟨b, 0, none⟩) a.args.length a.args.length] w fun e w' => e = .returned (.tuple #[]) ∧ (∃ A' c', BagOf w0 w' p (m + 1) (rows ++ [a.sl b]) A' c') ∧ Below w0.heap.size w w' ∧
      Keeps (fun b => b = p ∨ (Value.slice A rows.length c).ownBlock = some b) w w' := by
  have h1 := h.1
  have hin := h1.hW.inside
  refine (addSmalls_any p (p + 1) rows.length a.args.length a.args.length c A (some ⟨b, 0, none⟩) _ (vals rows) w h1.hW (by simp [bagNone]) h1.hO (Nat.lt_succ_self _) hin (by have := h.2.1; omega)).mono ?_
  intro e w' ⟨he, A', c', hW, hO, hKe⟩
  have hlow : w0.heap.size ≤ w.heap.size := by omega
  exact ⟨he, ⟨A', c', h.add hK hl hb h0 hW hO hKe⟩, hKe.below hlow (fun k hk => by
    rcases hk with hk | hk
    · omega
    · have := (h1.hO.lt k hk).1; omega), hKe⟩
end Go.Proofs.YtfcdbmfdaohpjaaDoor
