/-
  RowsHeaps: what stands in memory between two calls; a list of things in a block of its own. Conditions: none.
-/
import Derived.Test.YtbfhbekocgdceaaRhB
namespace Go.Proofs.Ytbfhbekocgdceaa
open Go.RowKit
theorem own_any (A : Option Addr) (n n' c c' : Nat) : (Value.slice A n c).ownBlock = (Value.slice A n' c').ownBlock := by
  cases A <;> rfl
theorem whole_kind {w : World} {g g' : Nat} {t t' : TypeId} {cs cs' : Array Value} (h : Whole w g t cs) (h' : Whole w g' t' cs') (hne : t ≠ t') : g ≠ g' := fun e => by
  subst e
  unfold Whole at h h'
  rw [h] at h'
  injection h' with h'
  injection h' with _ e1 _
  exact hne e1
theorem row_kind {w : World} {B s n b : Nat} {e t : TypeId} {v : Value} {xs : List Value} {cs : Array Value} (h : w.ownsRow B e s v n xs) (hw : Whole w b t cs) (hne : t ≠ e) : v.ownBlock ≠ some b := fun hb => by
  rcases h.2 with ⟨rfl, _⟩ | ⟨g, _, cur, rfl, _, hg, _⟩
  · cases hb
  · simp only [Value.ownBlock, Option.some.injEq] at hb
    subst hb
    unfold Whole at hw
    rw [hw] at hg
    injection hg with hg
    injection hg with _ e1 _
    exact hne e1
theorem other_kind {w : World} {B B' s s' n n' : Nat} {e e' : TypeId} {v v' : Value} {xs xs' : List Value} (h : w.ownsRow B e s v n xs) (h' : w.ownsRow B' e' s' v' n' xs') (hne : e ≠ e') {b : Nat} (hb : v.ownBlock = some b) (hb' : v'.ownBlock = some b) : False := by
  rcases h.2 with ⟨rfl, _⟩ | ⟨g, _, cur, rfl, _, hg, _⟩
  · cases hb
  · rcases h'.2 with ⟨rfl, _⟩ | ⟨g', _, cur', rfl, _, hg', _⟩
    · cases hb'
    · simp only [Value.ownBlock, Option.some.injEq] at hb hb'
      subst hb; subst hb'
      rw [hg] at hg'
      injection hg' with hg'
      injection hg' with _ e1 _
      exact hne e1
/-- The two heaps in memory. -/
structure HpAt (w0 w : World) (hp rp : Nat) (A : Option Addr) (c : Nat) (RA : Option Addr) (rc : Nat) (l : List EnT) (came : Int) (r : List (Int × Int)) : Prop where
  hT : HeapT w hp A c l came
  rH : RefH w rp RA rc r
  lowA : ∀ b, (Value.slice A l.length c).ownBlock = some b → w0.heap.size ≤ b
  lowR : ∀ b, (Value.slice RA r.length rc).ownBlock = some b → w0.heap.size ≤ b
  low : w0.heap.size ≤ hp ∧ w0.heap.size ≤ rp
  keeps : Keeps (fun b => w0.heap.size ≤ b) w0 w
section
variable {w0 w w' : World} {hp rp : Nat} {A RA : Option Addr} {c rc : Nat} {l : List EnT} {came : Int} {r : List (Int × Int)}
theorem HpAt.calm {S : Nat → Prop} (h : HpAt w0 w hp rp A c RA rc l came r) (hk : Keeps S w w') (h1 : ¬ S hp) (h2 : ¬ S rp) (h3 : ∀ b, (Value.slice A l.length c).ownBlock = some b → ¬ S b) (h4 : ∀ b, (Value.slice RA r.length rc).ownBlock = some b → ¬ S b) (h5 : ∀ b, b < w0.heap.size → ¬ S b) : HpAt w0 w' hp rp A c RA rc l came r :=
  ⟨h.hT.calm hk h1 h3, h.rH.calm hk h2 h4, h.lowA, h.lowR, h.low, h.keeps.and hk (fun b hb hs => by
    have := h5 b hb hs; exact this.elim)⟩
theorem HpAt.quiet (h : HpAt w0 w hp rp A c RA rc l came r) (hk : Keeps (fun _ => False) w w') : HpAt w0 w' hp rp A c RA rc l came r :=
  h.calm hk id id (fun _ _ h => h) (fun _ _ h => h) (fun _ _ h => h)
/-- The reference's heap has moved on. -/
theorem HpAt.ref {RA' : Option Addr} {rc' : Nat} {r' : List (Int × Int)} (h : HpAt w0 w hp rp A c RA rc l came r) (hr : RefH w' rp RA' rc' r') (hk : Keeps (fun b => b = rp ∨ (Value.slice RA r.length rc).ownBlock = some b) w w')
    (hn : ∀ b, (Value.slice RA' r'.length rc').ownBlock = some b → (Value.slice RA r.length rc).ownBlock = some b ∨ w.heap.size ≤ b) : HpAt w0 w' hp rp A c RA' rc' l came r' := by
  refine ⟨h.hT.calm hk (fun hs => ?_) (fun b hb hs => ?_), hr, h.lowA, fun b hb => ?_, h.low, h.keeps.and hk (fun b _ hs => ?_)⟩
  · rcases hs with hs | hs
    · exact whole_kind h.hT.box h.rH.box (by decide) hs
    · exact row_kind h.rH.own h.hT.box (by decide) hs
  · rcases hs with hs | hs
    · subst hs; exact row_kind h.hT.own h.rH.box (by decide) hb
    · exact other_kind h.hT.own h.rH.own (by decide) hb hs
  · rcases hn b hb with h1 | h1
    · exact h.lowR b h1
    · have := h.keeps.size; omega
  · rcases hs with hs | hs
    · rw [hs]; exact h.low.2
    · exact h.lowR b hs
/-- The program's heap has moved on. -/
theorem HpAt.own {A' : Option Addr} {c' : Nat} {l' : List EnT} {came' : Int} (h : HpAt w0 w hp rp A c RA rc l came r) (hr : HeapT w' hp A' c' l' came') (hk : Keeps (fun b => b = hp ∨ (Value.slice A l.length c).ownBlock = some b) w w')
    (hn : ∀ b, (Value.slice A' l'.length c').ownBlock = some b → (Value.slice A l.length c).ownBlock = some b ∨ w.heap.size ≤ b) : HpAt w0 w' hp rp A' c' RA rc l' came' r := by
  refine ⟨hr, h.rH.calm hk (fun hs => ?_) (fun b hb hs => ?_), fun b hb => ?_, h.lowR, h.low, h.keeps.and hk (fun b _ hs => ?_)⟩
  · rcases hs with hs | hs
    · exact whole_kind h.rH.box h.hT.box (by decide) hs
    · exact row_kind h.hT.own h.rH.box (by decide) hs
  · rcases hs with hs | hs
    · subst hs; exact row_kind h.rH.own h.hT.box (by decide) hb
    · exact other_kind h.rH.own h.hT.own (by decide) hb hs
  · rcases hn b hb with h1 | h1
    · exact h.lowA b h1
    · have := h.keeps.size; omega
  · rcases hs with hs | hs
    · rw [hs]; exact h.low.1
    · exact h.lowA b hs
end
/-- A list of things, in a block of its own. -/
def ThRow (w : World) (b : Nat) (ts : List (Int × Int)) : Prop := Whole w b 30 (flat thC ts).toArray
theorem flat_setTh (l : List (Int × Int)) (i : Nat) (x : Int × Int) (hi : i < l.length) : ((flat thC l).set (i * 2) (.int .i64 x.1)).set (i * 2 + 1) (.int .i64 x.2) = flat thC (l.set i x) := by
  have hl := flat_length (f := thC) (k := 2) (fun _ => rfl) l
  rw [set2 _ _ (i * 2) _ (by rw [hl]; omega), flat_set (k := 2) (fun _ => rfl) l i x hi]
  rfl
theorem ThRow.put {w : World} {b : Nat} {ts : List (Int × Int)} (h : ThRow w b ts) (i : Nat) (x : Int × Int) (hi : i < ts.length) : ThRow ((w.setCell ⟨b, i * 2, none⟩ (.int .i64 x.1)).setCell ⟨b, i * 2 + 1, none⟩ (.int .i64 x.2)) b (ts.set i x) := by
  unfold ThRow at *
  rw [← flat_setTh ts i x hi]
  have h1 := (h.put (i * 2) (.int .i64 x.1)).put (i * 2 + 1) (.int .i64 x.2)
  simpa using h1
theorem ThRow.at_ {w : World} {b : Nat} {ts : List (Int × Int)} (h : ThRow w b ts) {i : Nat} {x : Int × Int} (hi : ts[i]? = some x) : w.cell? ⟨b, i * 2, none⟩ = some (.int .i64 x.1) ∧ w.cell? ⟨b, i * 2 + 1, none⟩ = some (.int .i64 x.2) ∧ w.frozen? ⟨b, i * 2, none⟩ = false ∧ w.frozen? ⟨b, i * 2 + 1, none⟩ = false := by
  have h0 := flat_get (f := thC) (k := 2) (fun _ => rfl) ts i x hi 0 (by decide)
  have h1 := flat_get (f := thC) (k := 2) (fun _ => rfl) ts i x hi 1 (by decide)
  rw [Nat.add_zero] at h0
  refine ⟨?_, ?_, Whole.free h _, Whole.free h _⟩
  · rw [Whole.cellAt h]; simp only [List.getElem?_toArray, h0]; rfl
  · rw [Whole.cellAt h]; simp only [List.getElem?_toArray, h1]; rfl
theorem ThRow.made (w : World) (n : Nat) : ThRow (w.alloc (.cells (madeCells #[.int .i64 0, .int .i64 0] (n * 2)) 30)) w.heap.size (List.replicate n (0, 0)) := by
  have e : madeCells #[.int .i64 0, .int .i64 0] (n * 2) = (flat thC (List.replicate n (0, 0))).toArray := by
    apply Array.ext_getElem?
    intro i
    have hl := flat_length (f := thC) (k := 2) (fun _ => rfl) (List.replicate n ((0 : Int), (0 : Int)))
    rw [List.length_replicate] at hl
    by_cases hi : i < n * 2
    · have hk : i = (i / 2) * 2 + i % 2 := by omega
      have h0 : (List.replicate n ((0 : Int), (0 : Int)))[i / 2]? = some (0, 0) := by rw [List.getElem?_replicate, if_pos (by omega)]
      have h1 := flat_get (f := thC) (k := 2) (fun _ => rfl) _ (i / 2) _ h0 (i % 2) (by omega)
      rw [← hk] at h1
      simp only [List.getElem?_toArray, h1]
      unfold madeCells
      rw [Array.getElem?_map, Array.getElem?_range, if_pos hi]
      rcases Nat.mod_two_eq_zero_or_one i with h2 | h2 <;> simp [h2, thC]
    · rw [Array.getElem?_eq_none (by rw [size_madeCells]; omega), Array.getElem?_eq_none (by simp [hl]; omega)]
  rw [e]
  exact Whole.made w _ _
theorem make_rows {P : Program} (t e : TypeId) (z : Value) (size bytes : Nat) (ht : P.underlying t = some (.slice e)) (hinfo : (P.info? e).map (fun i => (i.zero, i.size, i.bytes)) = some (some z, size, bytes))
    (n : Nat) (hbytes : bytes * n ≤ 281474976710656) (h63 : n ≤ 9223372036854775807) (w : World) :
    (Instr.makeSlice t (.int .i64 (n : Int)) (.int .i64 (n : Int))).run P w = .ok (.slice (some ⟨w.heap.size, 0, none⟩) n n) (w.alloc (.cells (madeCells z.cells (n * size)) e)) := by
  obtain ⟨i, hi, hzz⟩ := Option.map_eq_some_iff.1 hinfo
  simp only [Prod.mk.injEq] at hzz
  obtain ⟨hz, hs, hb⟩ := hzz
  have hb' : (i.bytes : Int) * (n : Int) ≤ 281474976710656 := by
    have h : ((i.bytes * n : Nat) : Int) ≤ 281474976710656 := by rw [hb]; omega
    rwa [Int.natCast_mul] at h
  have hr := run_make (P := P) w t e i z ht hi hz .i64 .i64 n n (by omega) (Int.le_refl _) hb' (by omega)
  simpa [hs] using hr
/-- The list while it is filled, and while it is written over. -/
def fillTh (xs : List (Int × Int)) (k : Nat) : List (Int × Int) := xs.take k ++ List.replicate (xs.length + 2 - k) (0, 0)
def markTh (xs : List (Int × Int)) (k : Nat) : List (Int × Int) := List.replicate k (-5, -5) ++ (xs ++ [(0, 0), (0, 0)]).drop k
theorem fillTh_length (xs : List (Int × Int)) (k : Nat) (h : k ≤ xs.length) : (fillTh xs k).length = xs.length + 2 := by simp [fillTh]; omega
theorem fillTh_put (xs : List (Int × Int)) (k : Nat) (x : Int × Int) (hx : xs[k]? = some x) : (fillTh xs k).set k x = fillTh xs (k + 1) := by
  have hk := (List.getElem?_eq_some_iff.1 hx).1
  have hl : (xs.take k).length = k := by rw [List.length_take]; omega
  unfold fillTh
  rw [List.set_append, if_neg (by omega), hl, Nat.sub_self, show xs.length + 2 - k = (xs.length + 2 - (k + 1)) + 1 by omega, List.replicate_succ, List.set_cons_zero, List.take_add_one, hx]
  simp
theorem fillTh_full (xs : List (Int × Int)) : fillTh xs xs.length = xs ++ [(0, 0), (0, 0)] := by
  unfold fillTh
  rw [List.take_length, show xs.length + 2 - xs.length = 2 by omega]
  rfl
theorem markTh_zero (xs : List (Int × Int)) : markTh xs 0 = xs ++ [(0, 0), (0, 0)] := rfl
theorem markTh_at (xs : List (Int × Int)) (k : Nat) (x : Int × Int) (hx : xs[k]? = some x) : (markTh xs k)[k]? = some x := by
  have hk := (List.getElem?_eq_some_iff.1 hx).1
  unfold markTh
  rw [List.getElem?_append_right (by simp), List.length_replicate, Nat.sub_self, List.getElem?_drop, Nat.add_zero, List.getElem?_append_left hk, hx]
theorem markTh_put (xs : List (Int × Int)) (k : Nat) (hk : k < xs.length) : (markTh xs k).set k (-5, -5) = markTh xs (k + 1) := by
  unfold markTh
  rw [List.set_append, if_neg (by simp), List.length_replicate, Nat.sub_self, List.drop_eq_getElem_cons (by simp; omega), List.set_cons_zero, List.replicate_succ', List.append_assoc]
  rfl
theorem markTh_length (xs : List (Int × Int)) (k : Nat) (h : k ≤ xs.length) : (markTh xs k).length = xs.length + 2 := by simp [markTh]; omega
/-- What the turns before the i-th one count for. -/
def nTo (turns : List (List (Int × Int) × Int)) (i : Nat) : Nat := i + ((turns.take i).map (fun t => t.1.length)).sum
theorem nTo_zero (turns : List (List (Int × Int) × Int)) : nTo turns 0 = 0 := by simp [nTo]
theorem nTo_next {turns : List (List (Int × Int) × Int)} {i : Nat} {t : List (Int × Int) × Int} (h : turns[i]? = some t) : nTo turns (i + 1) = nTo turns i + 1 + t.1.length := by
  unfold nTo
  rw [List.take_add_one, h]
  simp only [Option.toList_some, List.map_append, List.map_cons, List.map_nil, List.sum_append, List.sum_cons, List.sum_nil]
  omega
theorem nTo_le {turns : List (List (Int × Int) × Int)} {i j : Nat} (h : i ≤ j) : nTo turns i ≤ nTo turns j := by
  induction j with
  | zero => obtain rfl : i = 0 := by omega
            exact Nat.le_refl _
  | succ j ih =>
    by_cases e : i = j + 1
    · subst e; exact Nat.le_refl _
    · have h1 := ih (by omega)
      by_cases hj : j < turns.length
      · have := nTo_next (List.getElem?_eq_getElem hj); omega
      · have h2 : turns.take (j + 1) = turns.take j := by rw [List.take_of_length_le (by omega), List.take_of_length_le (by omega)]
        unfold nTo at *
        rw [h2]
        omega
end Go.Proofs.Ytbfhbekocgdceaa
