/-
  The document's list of things of a state: the walk. Conditions: lengths within 10 ^ 9.
-/
import Derived.Test.YtgbikcliembkcaaDoorChB
import Derived.Test.YtgbikcliembkcaaDoorChC
import Derived.Deep.RegionHeld3
namespace Go.Proofs.YtgbikcliembkcaaDoor
open Go.RowKit
theorem info_bool : (Tryd.prog.info? 4).map (fun i => (i.zero, i.size, i.bytes)) = some (some (.bool false), 1, 1) := by kernel_rfl
/-- A list of bools, its cells. -/
def bools (l : List Bool) : List Value := l.map Value.bool
theorem bools_one (l : List Bool) : ∀ u ∈ bools l, u.oneCell' = true := fun u hu => by
  obtain ⟨c, _, rfl⟩ := List.mem_map.1 hu; rfl
/-- The list that grows: its row, the state's box, what stays. -/
structure OutIn (w wr : World) (SA : Array Value) (T : Nat → Prop) (L : List Bool) (A : Option Addr) (n c : Nat) : Prop where
  len : n = L.length
  own : wr.ownsRow (w.heap.size + 1) 4 1 (.slice A n c) n (bools L)
  off : ∀ b, (Value.slice A n c).ownBlock = some b → ¬ T b
  whole : Whole wr w.heap.size 32 SA
  keeps : Keeps (fun _ => False) w wr
  size : w.heap.size + 1 ≤ wr.heap.size
theorem OutIn.on {S : Nat → Prop} {w wr w' : World} {SA : Array Value} {T : Nat → Prop} {L : List Bool} {A : Option Addr} {n c : Nat} (h : OutIn w wr SA T L A n c) (hk : Keeps S wr w') (hS : ∀ b, S b → w.heap.size + 1 ≤ b ∧ T b) : OutIn w w' SA T L A n c :=
  ⟨h.len, own_keepsS h.own hk fun b hb hs => h.off b hb (hS b hs).2, h.off, h.whole.keeps hk fun hs => by have := (hS _ hs).1; omega, h.keeps.and hk (fun b hb hs => by have := (hS b hs).1; omega), Nat.le_trans h.size hk.size⟩
theorem OutIn.calm {w wr w' : World} {SA : Array Value} {T : Nat → Prop} {L : List Bool} {A : Option Addr} {n c : Nat} (h : OutIn w wr SA T L A n c) (hk : Keeps (fun _ => False) wr w') : OutIn w w' SA T L A n c := h.on hk fun _ h => h.elim
theorem OutIn.turn {w wr : World} {SA : Array Value} {T T' : Nat → Prop} {L : List Bool} {A : Option Addr} {n c : Nat} (h : OutIn w wr SA T L A n c) (hT : ∀ b, b < wr.heap.size → T' b → T b) : OutIn w wr SA T' L A n c :=
  ⟨h.len, h.own, fun b hb ht => h.off b hb (hT b (h.own.lt b hb).2 ht), h.whole, h.keeps, h.size⟩
/-- More of them put behind. -/
theorem OutIn.push {w wr w2 : World} {SA : Array Value} {T : Nat → Prop} {L M : List Bool} {A A2 : Option Addr} {n m c c2 : Nat} (h : OutIn w wr SA T L A n c) (hT : ∀ b, T b → b < wr.heap.size) (hm : m = M.length) (hg : wr.grownBy w2 (Value.slice A n c).ownBlock)
    (hown : w2.ownsRow (w.heap.size + 1) 4 1 (.slice A2 (n + m) c2) (n + m) (bools L ++ bools M)) (hor : (Value.slice A2 (n + m) c2).ownBlock = (Value.slice A n c).ownBlock ∨ (Value.slice A2 (n + m) c2).ownBlock = some wr.heap.size) : OutIn w w2 SA T (L ++ M) A2 (n + m) c2 := by
  have hgk : Keeps (fun b => (Value.slice A n c).ownBlock = some b) wr w2 := (Keeps.refl _ wr).grown hg (fun k hk _ => hk)
  refine ⟨by rw [List.length_append, h.len, hm], by rw [bools, List.map_append]; exact hown, fun b hb ht => ?_, h.whole.keeps hgk (fun e => by have := (h.own.lt _ e).1; omega), h.keeps.grown hg (fun k hk h0 => absurd (h.own.lt k hk).1 (by omega)), Nat.le_trans h.size hgk.size⟩
  rcases hor with e | e
  · exact h.off b (e ▸ hb) ht
  · rw [e] at hb
    injection hb with hb
    have := hT b ht
    omega
/-- Which numbers below m stand in a list. -/
def stoodM (m : Nat) (p : List Int) : Array Value := full m (fun i => .bool (decide ((i : Int) ∈ p)))
theorem made_stood (m : Nat) : madeCells #[.bool false] m = stoodM m [] := by
  rw [fillTo_zero m (fun _ => .bool false) (.bool false)]
  unfold fillTo stoodM full
  congr 1
theorem stoodM_get (m : Nat) (p : List Int) (i : Nat) (h : i < m) : (stoodM m p)[i]? = some (.bool (decide ((i : Int) ∈ p))) := full_get m _ i h
theorem stoodM_put (m : Nat) (p : List Int) (i : Nat) : (stoodM m p).setIfInBounds i (.bool true) = stoodM m (p ++ [(i : Int)]) := by
  unfold stoodM
  rw [full_put]
  refine full_congr fun k _ => ?_
  by_cases e : k = i
  · subst e; simp
  · rw [if_neg e]
    have : ((k : Int) ∈ p ++ [(i : Int)]) = ((k : Int) ∈ p) := by
      apply propext
      simp only [List.mem_append, List.mem_singleton]
      exact ⟨fun h => h.resolve_right (by omega), .inl⟩
    simp only [this]
/-- The list where i entries were good. -/
def beforeL (s : St) (i : Nat) : List Bool := true :: (s.players.map plB ++ (s.cards.map (cardB s.players.length) ++ List.replicate i true))
theorem beforeL_next (s : St) (i : Nat) : beforeL s (i + 1) = beforeL s i ++ [true] := by
  simp only [beforeL, List.cons_append, List.append_assoc, List.replicate_succ']
theorem beforeL_length (s : St) (i : Nat) : (beforeL s i).length = 1 + s.players.length + s.cards.length + i := by simp [beforeL]; omega
theorem things_bad {s : St} {p r : List Int} {x : Int} (h : headB s = true) (e : s.zones.flatten = p ++ x :: r) (hg : AllGood s.cards.length p) (hx : ¬ (0 ≤ x ∧ x < (s.cards.length : Int) ∧ x ∉ p)) : thingsB s = beforeL s p.length ++ [false] := by
  unfold thingsB beforeL
  rw [if_pos h, e, lead_bad hg hx, if_pos (by simp)]
  simp only [List.cons_append, List.append_assoc]
theorem things_full {s : St} (h : headB s = true) (hg : AllGood s.cards.length s.zones.flatten) : thingsB s = beforeL s s.zones.flatten.length ++ [decide (s.zones.flatten.length = s.cards.length), turnB s, whoseB s, endB s, winB s] := by
  unfold thingsB beforeL
  rw [if_pos h, lead_all hg, if_neg (Nat.lt_irrefl _)]
  simp only [List.cons_append, List.append_assoc]
theorem own_kind {w : World} {B B' s s' n n' b : Nat} {e e' : TypeId} {v v' : Value} {xs xs' : List Value} (h : w.ownsRow B e s v n xs) (h' : w.ownsRow B' e' s' v' n' xs') (hne : e ≠ e') (hb : v.ownBlock = some b) : v'.ownBlock ≠ some b := fun hb' => by
  rcases h.2 with ⟨rfl, _⟩ | ⟨g, _, cur, rfl, _, hg, _⟩
  · cases hb
  · rcases h'.2 with ⟨rfl, _⟩ | ⟨g', _, cur', rfl, _, hg', _⟩
    · cases hb'
    · simp only [Value.ownBlock, Option.some.injEq] at hb hb'
      subst hb hb'
      rw [hg] at hg'
      injection hg' with hg'
      injection hg' with _ hg' _
      exact hne hg'
theorem whole_kind_own {w : World} {B s n b : Nat} {e t : TypeId} {v : Value} {xs : List Value} {cs : Array Value} (h : w.ownsRow B e s v n xs) (hw : Whole w b t cs) (hne : t ≠ e) : v.ownBlock ≠ some b := fun hb => by
  rcases h.2 with ⟨rfl, _⟩ | ⟨g, _, cur, rfl, _, hg, _⟩
  · cases hb
  · simp only [Value.ownBlock, Option.some.injEq] at hb
    subst hb
    have e := hw.symm.trans hg
    injection e with e
    injection e with _ e _
    exact hne e
theorem OutIn.done {w wr : World} {SA : Array Value} {T : Nat → Prop} {L M : List Bool} {A : Option Addr} {n c : Nat} (h : OutIn w wr SA T L A n c) (hM : M = L) : ∃ A' cap, Ending.returned (.slice A n c) = Ending.returned (.slice A' M.length cap) ∧ wr.ownsRow w.heap.size 4 1 (.slice A' M.length cap) M.length (bools M) ∧ Keeps (fun _ => False) w wr := by
  subst hM
  have hl := h.len
  subst hl
  exact ⟨A, c, rfl, h.own.mono (by omega), h.keeps⟩
theorem step_if {c : Bool} {A B : Prop} (hc : c = true) (h : A) : if c = true then A else B := by rw [if_pos hc]; exact h
theorem head_no {s : St} (h : ¬ (2 ≤ s.players.length ∧ s.players.length ≤ 4 ∧ 1 ≤ s.cards.length ∧ s.cards.length ≤ 256 ∧ s.zones.length = 4 * s.players.length)) : headB s = false := by
  cases hb : headB s
  · rfl
  · exact absurd ((head_iff s).1 hb) h
theorem things_short {s : St} (h : headB s = false) : thingsB s = [false] := by rw [thingsB, if_neg (by rw [h]; decide)]
end Go.Proofs.YtgbikcliembkcaaDoor
