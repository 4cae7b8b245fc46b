/-
  Lists that are marked, gone on with one by one, and looked at: plain laws of memory. Conditions: no two of the lists lie in one block.
-/
import Derived.Test.YtcmbdnjcfneinaaGreatDoorAppendN
namespace Go.Proofs.YtcmbdnjcfneinaaGreatDoor
open Go.RowKit

/-- The address A leads to the cells xs, from the head of a block of the set D on. -/
def LiesD (w : World) (D : Nat → Prop) (A : Option Addr) (xs : List Value) : Prop :=
  ∀ k u, xs[k]? = some u → ∃ b, A = some ⟨b, 0, none⟩ ∧ D b ∧ w.cell? ⟨b, k, none⟩ = some u
section
variable {w w' : World} {D E : Nat → Prop} {A : Option Addr} {xs : List Value}
theorem LiesD.keep (h : LiesD w D A xs) (hk : ∀ b o, D b → o < xs.length → w'.cell? ⟨b, o, none⟩ = w.cell? ⟨b, o, none⟩) : LiesD w' D A xs := fun k u hu => by
  obtain ⟨b, e, hb, hc⟩ := h k u hu
  refine ⟨b, e, hb, (hk b _ hb ?_).trans hc⟩
  rcases Nat.lt_or_ge k xs.length with h | h
  · exact h
  · rw [List.getElem?_eq_none h] at hu; cases hu
theorem LiesD.keeps {S : Nat → Prop} (h : LiesD w D A xs) (hk : Keeps S w w') (hlt : ∀ b, D b → b < w.heap.size) (hn : ∀ b, D b → ¬ S b) : LiesD w' D A xs := h.keep fun b _ hb _ => hk.cell (hlt b hb) (hn b hb)
theorem LiesD.more (h : LiesD w D A xs) (hD : ∀ b, D b → E b) : LiesD w E A xs := fun k u hu => by
  obtain ⟨b, e, hb, hc⟩ := h k u hu
  exact ⟨b, e, hD b hb, hc⟩
theorem LiesD.nil : LiesD w D A [] := fun k u h => by simp at h
theorem LiesD.lies {B : Nat} (h : LiesD w D A xs) (hB : ∀ b, D b → b < B) : Lies w B A xs := fun k u hu => by
  obtain ⟨b, e, hb, hc⟩ := h k u hu
  exact ⟨b, 0, e, hB b hb, by rw [Nat.zero_add]; exact hc⟩
end
theorem own_liesD {w : World} {base size n cap : Nat} {e : TypeId} {A : Option Addr} {xs : List Value} {D : Nat → Prop} (h : w.ownsRow base e size (.slice A n cap) n xs) (hD : ∀ b, (Value.slice A n cap).ownBlock = some b → D b) : LiesD w D A xs := by
  intro k u hu
  have hk : k < xs.length := by
    rcases Nat.lt_or_ge k xs.length with h | h
    · exact h
    · rw [List.getElem?_eq_none h] at hu; cases hu
  rcases h.2 with ⟨hv, h0⟩ | ⟨g, cap', cur, hv, _, hh, _, _, _, ht⟩
  · rw [h.1, h0] at hk; omega
  · injection hv with h1 h2 h3
    subst h1
    exact ⟨g, rfl, hD g rfl, by rw [own_cells h rfl (by rw [← h.1]; exact hk), hu]⟩

/-! ### Marks -/
section
variable (mk : Nat → Nat → List Value)
/-- The cells of the first m marks of the list k. -/
def marks (k m : Nat) : List Value := (List.range m).flatMap (mk k)
theorem marks_zero (k : Nat) : marks mk k 0 = [] := rfl
theorem marks_succ (k m : Nat) : marks mk k (m + 1) = marks mk k m ++ mk k m := by
  unfold marks; rw [List.range_succ, List.flatMap_append]; simp
theorem marks_length {s : Nat} (hs : ∀ k i, (mk k i).length = s) (k : Nat) : ∀ m, (marks mk k m).length = m * s
  | 0 => by simp [marks]
  | m + 1 => by rw [marks_succ, List.length_append, marks_length hs k m, hs, Nat.add_mul, Nat.one_mul]
theorem marks_get {s : Nat} (hs : ∀ k i, (mk k i).length = s) (k : Nat) : ∀ (m i j : Nat), i < m → j < s → (marks mk k m)[i * s + j]? = (mk k i)[j]?
  | 0, i, j, h, _ => absurd h (Nat.not_lt_zero _)
  | m + 1, i, j, h, hj => by
    rw [marks_succ]
    by_cases e : i = m
    · subst e
      rw [List.getElem?_append_right (by rw [marks_length mk hs]; omega), marks_length mk hs]
      congr 1; omega
    · have hlt : i * s + j < (marks mk k m).length := by
        rw [marks_length mk hs]
        have h1 : (i + 1) * s ≤ m * s := Nat.mul_le_mul_right _ (by omega)
        rw [Nat.add_mul, Nat.one_mul] at h1
        omega
      rw [List.getElem?_append_left hlt]
      exact marks_get hs k m i j (by omega) hj
theorem marks_take (k : Nat) {m n : Nat} (h : m ≤ n) : ∃ t, marks mk k n = marks mk k m ++ t := by
  induction n with
  | zero => obtain rfl : m = 0 := by omega
            exact ⟨[], (List.append_nil _).symm⟩
  | succ n ih =>
    by_cases e : m = n + 1
    · subst e; exact ⟨[], by simp⟩
    · obtain ⟨t, ht⟩ := ih (by omega)
      exact ⟨t ++ mk k n, by rw [marks_succ, ht, List.append_assoc]⟩
end

/-! ### A slice, by its parts -/
structure Sl where
  at_ : Option Addr
  len : Nat
  cap : Nat
def Sl.val (r : Sl) : Value := .slice r.at_ r.len r.cap
def Sl.blk (r : Sl) : Option Nat := r.val.ownBlock
def vals (rows : List Sl) : List Value := rows.map Sl.val
theorem vals_length (rows : List Sl) : (vals rows).length = rows.length := by simp [vals]
theorem vals_get {rows : List Sl} {k : Nat} {r : Sl} (h : rows[k]? = some r) : (vals rows)[k]? = some r.val := by simp [vals, h]
/-- Each of the slices is a row of its own, no two in one block. -/
structure SlRows (e : TypeId) (s : Nat) (rows : List Sl) (w : World) : Prop where
  own : ∀ (k : Nat) (r : Sl), rows[k]? = some r → ∃ xs, w.ownsRow 0 e s r.val r.len xs
  apart : ∀ (j k : Nat) (r q : Sl) (b : Nat), rows[j]? = some r → rows[k]? = some q → r.blk = some b → q.blk = some b → j = k
theorem own_keepsS {S : Nat → Prop} {w w' : World} {base size : Nat} {e : TypeId} {v : Value} {n : Nat} {xs : List Value} (h : w.ownsRow base e size v n xs) (hk : Keeps S w w') (hn : ∀ b, v.ownBlock = some b → ¬ S b) : w'.ownsRow base e size v n xs := by
  refine ⟨h.1, ?_⟩
  rcases h.2 with hn' | ⟨g, cap, cur, rfl, hb, hg, rest⟩
  · exact .inl hn'
  · exact .inr ⟨g, cap, cur, rfl, hb, (hk.block g (Array.getElem?_eq_some_iff.1 hg).1 (hn g rfl)).trans hg, rest⟩
theorem own_base {w : World} {base base' size : Nat} {e : TypeId} {v : Value} {n : Nat} {xs : List Value} (h : w.ownsRow base e size v n xs) (hb : ∀ b, v.ownBlock = some b → base' ≤ b) : w.ownsRow base' e size v n xs := by
  refine ⟨h.1, ?_⟩
  rcases h.2 with hn | ⟨g, cap, cur, rfl, _, rest⟩
  · exact .inl hn
  · exact .inr ⟨g, cap, cur, rfl, hb g rfl, rest⟩
theorem SlRows.keeps {S : Nat → Prop} {e : TypeId} {s : Nat} {rows : List Sl} {w w' : World} (h : SlRows e s rows w) (hk : Keeps S w w') (hn : ∀ (k : Nat) (r : Sl) (b : Nat), rows[k]? = some r → r.blk = some b → ¬ S b) : SlRows e s rows w' :=
  ⟨fun k r hr => by obtain ⟨xs, hx⟩ := h.own k r hr; exact ⟨xs, own_keepsS hx hk (fun b hb => hn k r b hr hb)⟩, h.apart⟩
/-- A set of blocks: those of the slices. -/
def blks (rows : List Sl) (b : Nat) : Prop := ∃ (k : Nat) (r : Sl), rows[k]? = some r ∧ r.blk = some b
theorem blks_lt {e : TypeId} {s : Nat} {rows : List Sl} {w : World} (h : SlRows e s rows w) {b : Nat} (hb : blks rows b) : b < w.heap.size := by
  obtain ⟨k, r, hr, hrb⟩ := hb
  obtain ⟨xs, hx⟩ := h.own k r hr
  exact (hx.lt b hrb).2

/-! ### The lists are marked -/
section
variable (mk : Nat → Nat → List Value) (e : TypeId) (s : Nat) (rows : List Sl)
structure Marked (w0 w : World) (n : Nat) : Prop where
  keeps : Keeps (blks rows) w0 w
  own : ∀ (k : Nat) (r : Sl), rows[k]? = some r → ∃ xs, w.ownsRow 0 e s r.val r.len xs ∧ (k < n → xs = marks mk k r.len)
structure MarkedIn (w0 w : World) (n i : Nat) (r : Sl) : Prop where
  keeps : Keeps (blks rows) w0 w
  own : ∀ (k : Nat) (q : Sl), k ≠ n → rows[k]? = some q → ∃ xs, w.ownsRow 0 e s q.val q.len xs ∧ (k < n → xs = marks mk k q.len)
  here : ∃ xs, w.ownsRow 0 e s r.val r.len xs ∧ xs.take (i * s) = marks mk n i
variable {mk e s rows}
theorem Marked.start {w0 w : World} (hR : SlRows e s rows w) (hk : Keeps (blks rows) w0 w) : Marked mk e s rows w0 w 0 :=
  ⟨hk, fun k r hr => by obtain ⟨xs, hx⟩ := hR.own k r hr; exact ⟨xs, hx, fun h => absurd h (Nat.not_lt_zero _)⟩⟩
theorem Marked.enter {w0 w : World} {n : Nat} {r : Sl} (h : Marked mk e s rows w0 w n) (hr : rows[n]? = some r) : MarkedIn mk e s rows w0 w n 0 r :=
  ⟨h.keeps, fun k q _ hq => h.own k q hq, by obtain ⟨xs, hx, _⟩ := h.own n r hr; exact ⟨xs, hx, by simp [marks]⟩⟩
theorem MarkedIn.leave {w0 w : World} {n : Nat} {r : Sl} (h : MarkedIn mk e s rows w0 w n r.len r) (hr : rows[n]? = some r) : Marked mk e s rows w0 w (n + 1) :=
  ⟨h.keeps, fun k q hq => by
    by_cases e1 : k = n
    · subst e1
      rw [hr] at hq
      obtain rfl : r = q := by injection hq
      obtain ⟨xs, hx, ht⟩ := h.here
      refine ⟨xs, hx, fun _ => ?_⟩
      rw [← ht, List.take_of_length_le (by rw [hx.1]; exact Nat.le_refl _)]
    · obtain ⟨xs, hx, hm⟩ := h.own k q e1 hq
      exact ⟨xs, hx, fun hk => hm (by omega)⟩⟩
end
section
variable {mk : Nat → Nat → List Value} {e : TypeId} {rows : List Sl}
/-- Where the next mark goes: a cell of the list's block. -/
theorem MarkedIn.cell {s : Nat} {w0 w : World} {n i : Nat} {r : Sl} (h : MarkedIn mk e s rows w0 w n i r) (hi : i < r.len) : ∃ g cs, r.at_ = some ⟨g, 0, none⟩ ∧ Whole w g e cs ∧ r.len * s ≤ cs.size := by
  obtain ⟨xs, hx, _⟩ := h.here
  rcases hx.2 with ⟨_, h0⟩ | ⟨g, cap, cur, hv, _, hh, hc, _, hsz, _⟩
  · omega
  · unfold Sl.val at hv
    injection hv with h1 h2 h3
    exact ⟨g, cur, h1, hh, by rw [hsz]; exact Nat.mul_le_mul_right _ hc⟩
theorem MarkedIn.put {w0 w : World} {n i g : Nat} {r : Sl} {u : Value} (h : MarkedIn mk e 1 rows w0 w n i r) (hr : rows[n]? = some r) (hR : ∀ (j k : Nat) (r q : Sl) (b : Nat), rows[j]? = some r → rows[k]? = some q → r.blk = some b → q.blk = some b → j = k) (hi : i < r.len) (hg : r.at_ = some ⟨g, 0, none⟩) (hu : mk n i = [u]) :
    MarkedIn mk e 1 rows w0 (w.setCell ⟨g, i, none⟩ u) n (i + 1) r := by
  have hb : r.blk = some g := by unfold Sl.blk Sl.val; rw [hg]; rfl
  have hk : Keeps (fun b => b = g) w (w.setCell ⟨g, i, none⟩ u) := (Keeps.refl (fun b => b = g) w).setCell (p := ⟨g, i, none⟩) (fun _ => rfl) u
  refine ⟨h.keeps.trans (hk.mono fun b _ e1 => ⟨n, r, hr, by rw [e1]; exact hb⟩), ?_, ?_⟩
  · intro k q hne hq
    obtain ⟨xs, hx, hm⟩ := h.own k q hne hq
    exact ⟨xs, own_keepsS hx hk fun b hb' e1 => hne (hR k n q r g hq hr (by rw [← e1]; exact hb') hb), hm⟩
  · obtain ⟨xs, hx, ht⟩ := h.here
    rcases hx.2 with ⟨_, h0⟩ | ⟨g', cap, cur, hv, hbs, hh, hc, hm, hsz, hta⟩
    · omega
    · have hgg : g' = g := by
        have e1 : r.at_ = some ⟨g', 0, none⟩ := by unfold Sl.val at hv; injection hv
        rw [hg] at e1
        injection e1 with e1
        injection e1 with e1
        exact e1.symm
      subst hgg
      have hl : xs.length = r.len := by rw [hx.1, Nat.mul_one]
      have hW : Whole w g' e cur := hh
      refine ⟨xs.set i u, ⟨by rw [List.length_set]; exact hx.1, .inr ⟨g', cap, _, hv, hbs, hW.put i u, hc, hm, by rw [Array.size_setIfInBounds]; exact hsz, ?_⟩⟩, ?_⟩
      · rw [Array.toList_setIfInBounds, List.take_set, hta]
      · rw [Nat.mul_one, marks_succ, hu, List.take_succ_eq_append_getElem (by rw [List.length_set]; omega), List.getElem_set_self, List.take_set_of_le (Nat.le_refl _)]
        rw [Nat.mul_one] at ht
        rw [ht]
end

theorem MarkedIn.drew {mk : Nat → Nat → List Value} {e : TypeId} {s : Nat} {rows : List Sl} {w0 w : World} {n i : Nat} {r : Sl} (h : MarkedIn mk e s rows w0 w n i r) : MarkedIn mk e s rows w0 w.drew n i r := ⟨h.keeps.drew, h.own, h.here⟩
/-! ### The lists go on -/
theorem grown_cell {w w' : World} {row : Option Nat} (hg : w.grownBy w' row) {b o : Nat} (hb : b < w.heap.size) (hn : row ≠ some b) : w'.cell? ⟨b, o, none⟩ = w.cell? ⟨b, o, none⟩ :=
  World.cell?_of_block (w := w) (a := ⟨b, o, none⟩) (hg.block b hb fun e => hn e.symm)
/-- What an append leaves, seen from ahead of the block that it laid its arguments in. -/
structure Pushed (e : TypeId) (s base : Nat) (w w' : World) (v v' : Value) (n : Nat) (xs news : List Value) : Prop where
  own : w'.ownsRow base e s v' (n + 1) (xs ++ news)
  grown : w.grownBy w' v.ownBlock
  at_ : v'.ownBlock = v.ownBlock ∨ ∃ b, v'.ownBlock = some b ∧ w.heap.size ≤ b ∧ b < w'.heap.size
  stays : Stays w w' v (n * s)
  big : w.heap.size < w'.heap.size
theorem pushed_of {e : TypeId} {s base : Nat} {w w' : World} {o : Obj} {v v' : Value} {n : Nat} {xs news : List Value} (h0 : w.ownsRow base e s v n xs) (h1 : w'.ownsRow base e s v' (n + 1) (xs ++ news)) (h2 : (w.alloc o).grownBy w' v.ownBlock)
    (h3 : v'.ownBlock = v.ownBlock ∨ v'.ownBlock = some (w.alloc o).heap.size) (h4 : Stays (w.alloc o) w' v (n * s)) : Pushed e s base w w' v v' n xs news := by
  have hsz : (w.alloc o).heap.size = w.heap.size + 1 := by simp
  have hbig : w.heap.size < w'.heap.size := by have := h2.size; omega
  refine ⟨h1, ⟨h2.os, h2.tape, h2.output, by omega, fun k hk hn => (h2.block k (by omega) hn).trans (Below.heap_alloc w o k hk)⟩, ?_, ?_, hbig⟩
  · rcases h3 with h3 | h3
    · exact .inl h3
    · exact .inr ⟨_, h3, by omega, (h1.lt _ h3).2⟩
  · intro g o' hg ho
    have hlt := (h0.lt g hg).2
    exact (h4 g o' hg ho).trans (World.cell?_of_block (w := w) (a := ⟨g, o', none⟩) (Below.heap_alloc w o g hlt))
section
variable (mk : Nat → Nat → List Value) (e eo : TypeId) (s : Nat) (base : Nat) (rows : List Sl)
/-- What stands of the list k. -/
def Done1 (w : World) (D : Nat → Prop) (ones mores : List Value) (k : Nat) : Prop :=
  ∀ r : Sl, rows[k]? = some r → LiesD w D r.at_ (marks mk k r.len) ∧ (∃ a c, ones[k]? = some (.slice a (r.len + 1) c) ∧ LiesD w D a (marks mk k (r.len + 1))) ∧ (∃ a c, mores[k]? = some (.slice a (r.len + 70) c) ∧ LiesD w D a (marks mk k (r.len + 70)))
/-- Behind n lists: D holds what may not be turned any more. -/
structure Going (w0 w : World) (n : Nat) (ov mv : Value) (ones mores : List Value) (D : Nat → Prop) : Prop where
  keeps : Keeps (blks rows) w0 w
  big : base ≤ w.heap.size
  lt : ∀ b, D b → b < w.heap.size
  one : w.ownsRow base eo 1 ov n ones
  more : w.ownsRow base eo 1 mv n mores
  oneD : ∀ b, ov.ownBlock = some b → ¬ D b
  moreD : ∀ b, mv.ownBlock = some b → ¬ D b
  om : ∀ b, ov.ownBlock = some b → mv.ownBlock = some b → False
  rest : ∀ (k : Nat) (r : Sl), n ≤ k → rows[k]? = some r → w.ownsRow 0 e s r.val r.len (marks mk k r.len) ∧ ∀ b, r.blk = some b → ¬ D b ∧ b < base
  did : ∀ k, k < n → Done1 mk rows w D ones mores k
/-- Within the list n: m of its marks more stand; c: n, and one more where the first one is taken; E holds the blocks that it has had. -/
structure GoingIn (w0 w : World) (n m c : Nat) (ov mv lv : Value) (ones mores : List Value) (D E : Nat → Prop) (r : Sl) : Prop where
  keeps : Keeps (blks rows) w0 w
  big : base ≤ w.heap.size
  lt : ∀ b, D b ∨ E b → b < w.heap.size
  one : w.ownsRow base eo 1 ov c ones
  more : w.ownsRow base eo 1 mv n mores
  oneD : ∀ b, ov.ownBlock = some b → ¬ D b ∧ ¬ E b
  moreD : ∀ b, mv.ownBlock = some b → ¬ D b ∧ ¬ E b
  om : ∀ b, ov.ownBlock = some b → mv.ownBlock = some b → False
  own : w.ownsRow 0 e s lv (r.len + m) (marks mk n (r.len + m))
  lE : ∀ b, lv.ownBlock = some b → E b ∧ ¬ D b
  lnew : ∀ b, lv.ownBlock = some b → blks rows b ∨ w0.heap.size ≤ b
  rest : ∀ (k : Nat) (q : Sl), n < k → rows[k]? = some q → w.ownsRow 0 e s q.val q.len (marks mk k q.len) ∧ ∀ b, q.blk = some b → ¬ D b ∧ ¬ E b ∧ b < base
  here : LiesD w E r.at_ (marks mk n r.len)
  cn : c = n ∨ c = n + 1
  first : c = n + 1 → 1 ≤ m ∧ ∃ a cp, ones[n]? = some (.slice a (r.len + 1) cp) ∧ LiesD w E a (marks mk n (r.len + 1))
  did : ∀ k, k < n → Done1 mk rows w D ones mores k
variable {mk e eo s base rows}
theorem Done1.keep {w w' : World} {D D' : Nat → Prop} {ones ones' mores mores' : List Value} {k : Nat} (h : Done1 mk rows w D ones mores k) (hk : ∀ b o, D b → w'.cell? ⟨b, o, none⟩ = w.cell? ⟨b, o, none⟩) (hD : ∀ b, D b → D' b)
    (ho : k < ones.length → ones'[k]? = ones[k]?) (hm : k < mores.length → mores'[k]? = mores[k]?) : Done1 mk rows w' D' ones' mores' k := fun r hr => by
  obtain ⟨h1, ⟨a, c, h2, h3⟩, a', c', h4, h5⟩ := h r hr
  exact ⟨(h1.keep fun b o hb _ => hk b o hb).more hD, ⟨a, c, (ho (List.getElem?_eq_some_iff.1 h2).1).trans h2, (h3.keep fun b o hb _ => hk b o hb).more hD⟩, a', c', (hm (List.getElem?_eq_some_iff.1 h4).1).trans h4, (h5.keep fun b o hb _ => hk b o hb).more hD⟩
theorem Going.enter {w0 w : World} {n : Nat} {ov mv : Value} {ones mores : List Value} {D : Nat → Prop} (h : Going mk e eo s base rows w0 w n ov mv ones mores D) (hap : ∀ (j k : Nat) (r q : Sl) (b : Nat), rows[j]? = some r → rows[k]? = some q → r.blk = some b → q.blk = some b → j = k) {r : Sl} (hr : rows[n]? = some r) :
    GoingIn mk e eo s base rows w0 w n 0 n ov mv r.val ones mores D (fun b => r.blk = some b) r := by
  obtain ⟨ho, hb⟩ := h.rest n r (Nat.le_refl _) hr
  refine ⟨h.keeps, h.big, ?_, h.one, h.more, ?_, ?_, h.om, ho, fun b hb' => ⟨hb', (hb b hb').1⟩, fun b hb' => .inl ⟨n, r, hr, hb'⟩, ?_, own_liesD ho fun b hb' => hb', .inl rfl, fun h0 => by omega, h.did⟩
  · intro b hb'
    rcases hb' with hb' | hb'
    · exact h.lt b hb'
    · exact (ho.lt b hb').2
  · intro b hb'
    refine ⟨h.oneD b hb', fun he => ?_⟩
    have h1 := (h.one.lt b hb').1
    have h2 := (hb b he).2
    omega
  · intro b hb'
    refine ⟨h.moreD b hb', fun he => ?_⟩
    have h1 := (h.more.lt b hb').1
    have h2 := (hb b he).2
    omega
  · intro k q hk hq
    obtain ⟨h1, h2⟩ := h.rest k q (by omega) hq
    refine ⟨h1, fun b hb' => ⟨(h2 b hb').1, fun he => ?_, (h2 b hb').2⟩⟩
    have := hap n k r q b hr hq he hb'
    omega
/-- The list takes one mark more. -/
theorem GoingIn.push {w0 w w' : World} {n m c : Nat} {ov mv lv lv' : Value} {ones mores : List Value} {D E : Nat → Prop} {r : Sl} (h : GoingIn mk e eo s base rows w0 w n m c ov mv lv ones mores D E r) (hs : ∀ k i, (mk k i).length = s)
    (hp : Pushed e s 0 w w' lv lv' (r.len + m) (marks mk n (r.len + m)) (mk n (r.len + m))) :
    GoingIn mk e eo s base rows w0 w' n (m + 1) c ov mv lv' ones mores D (fun b => E b ∨ lv'.ownBlock = some b) r := by
  have hle := hp.big
  have hD : ∀ b o, D b → w'.cell? ⟨b, o, none⟩ = w.cell? ⟨b, o, none⟩ := fun b o hb => grown_cell hp.grown (h.lt b (.inl hb)) fun e1 => (h.lE b e1).2 hb
  have hE : ∀ b o, E b → o < (r.len + m) * s → w'.cell? ⟨b, o, none⟩ = w.cell? ⟨b, o, none⟩ := fun b o hb ho => by
    by_cases e1 : lv.ownBlock = some b
    · exact hp.stays b o e1 ho
    · exact grown_cell hp.grown (h.lt b (.inr hb)) e1
  have hEl : ∀ {A : Option Addr} {q : Nat}, q ≤ r.len + m → LiesD w E A (marks mk n q) → LiesD w' (fun b => E b ∨ lv'.ownBlock = some b) A (marks mk n q) := fun {A q} hq hl =>
    (hl.keep fun b o hb ho => hE b o hb (by
      rw [marks_length mk hs] at ho
      exact Nat.lt_of_lt_of_le ho (Nat.mul_le_mul_right _ hq))).more fun b hb => .inl hb
  have hnewE : ∀ b, lv'.ownBlock = some b → (E b ∧ ¬ D b) ∨ w.heap.size ≤ b := fun b hb => by
    rcases hp.at_ with e1 | ⟨b', e1, e2, _⟩
    · exact .inl (h.lE b (e1 ▸ hb))
    · rw [e1] at hb; injection hb with hb; exact .inr (by omega)
  have hlnew : ∀ b, lv'.ownBlock = some b → blks rows b ∨ w0.heap.size ≤ b := fun b hb => by
    rcases hp.at_ with e1 | ⟨b', e1, e2, _⟩
    · exact h.lnew b (e1 ▸ hb)
    · rw [e1] at hb; injection hb with hb; exact .inr (by have := h.keeps.size; omega)
  have hkept : ∀ {bs sz : Nat} {et : TypeId} {v : Value} {k : Nat} {xs : List Value}, w.ownsRow bs et sz v k xs → (∀ b, v.ownBlock = some b → ¬ E b) → w'.ownsRow bs et sz v k xs := fun {bs sz et v k xs} hv hn =>
    hv.kept hp.grown (by
      cases hb : v.ownBlock with
      | none => exact .inl rfl
      | some b => exact .inr fun e1 => hn b hb (h.lE b e1.symm).1)
  refine ⟨?_, by have := h.big; omega, ?_, hkept h.one fun b hb => (h.oneD b hb).2, hkept h.more fun b hb => (h.moreD b hb).2, ?_, ?_, h.om, ?_, ?_, hlnew, ?_, hEl (Nat.le_add_right _ _) h.here, h.cn, ?_, fun k hk => (h.did k hk).keep hD (fun _ hb => hb) (fun _ => rfl) fun _ => rfl⟩
  · exact h.keeps.grown hp.grown fun b hb hlt => by
      rcases h.lnew b hb with h1 | h1
      · exact h1
      · omega
  · intro b hb
    rcases hb with hb | hb | hb
    · have := h.lt b (.inl hb); omega
    · have := h.lt b (.inr hb); omega
    · exact (hp.own.lt b hb).2
  · intro b hb
    refine ⟨(h.oneD b hb).1, fun he => ?_⟩
    rcases he with he | he
    · exact (h.oneD b hb).2 he
    · rcases hnewE b he with h1 | h1
      · exact (h.oneD b hb).2 h1.1
      · have := (h.one.lt b hb).2; omega
  · intro b hb
    refine ⟨(h.moreD b hb).1, fun he => ?_⟩
    rcases he with he | he
    · exact (h.moreD b hb).2 he
    · rcases hnewE b he with h1 | h1
      · exact (h.moreD b hb).2 h1.1
      · have := (h.more.lt b hb).2; omega
  · have := hp.own
    rw [← marks_succ] at this
    exact this
  · intro b hb
    refine ⟨.inr hb, fun hd => ?_⟩
    rcases hnewE b hb with h1 | h1
    · exact h1.2 hd
    · have := h.lt b (.inl hd); omega
  · intro k q hk hq
    obtain ⟨h1, h2⟩ := h.rest k q hk hq
    refine ⟨hkept h1 fun b hb => (h2 b hb).2.1, fun b hb => ⟨(h2 b hb).1, fun he => ?_, (h2 b hb).2.2⟩⟩
    rcases he with he | he
    · exact (h2 b hb).2.1 he
    · rcases hnewE b he with h3 | h3
      · exact (h2 b hb).2.1 h3.1
      · have := (h1.lt b hb).2; omega
  · intro hc
    obtain ⟨hm, a, cp, h1, h2⟩ := h.first hc
    exact ⟨by omega, a, cp, h1, hEl (by omega) h2⟩
/-- The first one is taken. -/
theorem GoingIn.took {w0 w w' : World} {n : Nat} {ov ov' mv lv : Value} {ones mores : List Value} {D E : Nat → Prop} {r : Sl} {a : Option Addr} {cp : Nat} (h : GoingIn mk e eo s base rows w0 w n 1 n ov mv lv ones mores D E r) (hb0 : w0.heap.size ≤ base)
    (hlv : lv = .slice a (r.len + 1) cp) (hp : Pushed eo 1 base w w' ov ov' n ones [lv]) :
    GoingIn mk e eo s base rows w0 w' n 1 (n + 1) ov' mv lv (ones ++ [lv]) mores D E r := by
  have hle := hp.big
  have hlen : ones.length = n := own_length h.one
  have hcell : ∀ b o, (D b ∨ E b) → w'.cell? ⟨b, o, none⟩ = w.cell? ⟨b, o, none⟩ := fun b o hb => grown_cell hp.grown (h.lt b hb) fun e1 => by
    rcases hb with hb | hb
    · exact (h.oneD b e1).1 hb
    · exact (h.oneD b e1).2 hb
  have hnew : ∀ b, ov'.ownBlock = some b → ov.ownBlock = some b ∨ w.heap.size ≤ b := fun b hb => by
    rcases hp.at_ with e1 | ⟨b', e1, e2, _⟩
    · exact .inl (e1 ▸ hb)
    · rw [e1] at hb; injection hb with hb; exact .inr (by omega)
  have hkept : ∀ {bs sz : Nat} {et : TypeId} {v : Value} {k : Nat} {xs : List Value}, w.ownsRow bs et sz v k xs → (∀ b, v.ownBlock = some b → ov.ownBlock = some b → False) → w'.ownsRow bs et sz v k xs := fun {bs sz et v k xs} hv hn =>
    hv.kept hp.grown (by
      cases hb : v.ownBlock with
      | none => exact .inl rfl
      | some b => exact .inr fun e1 => hn b hb e1.symm)
  have hfar : ∀ b, ov'.ownBlock = some b → ∀ P : Prop, (P → D b ∨ E b) → ¬ P := fun b hb P hP p => by
    rcases hnew b hb with h1 | h1
    · rcases hP p with h2 | h2
      · exact (h.oneD b h1).1 h2
      · exact (h.oneD b h1).2 h2
    · have := h.lt b (hP p); omega
  refine ⟨?_, by have := h.big; omega, fun b hb => by have := h.lt b hb; omega, hp.own, hkept h.more fun b hb ho => h.om b ho hb, fun b hb => ⟨hfar b hb _ .inl, hfar b hb _ .inr⟩, h.moreD, ?_, hkept h.own fun b hb ho => (h.oneD b ho).2 (h.lE b hb).1, h.lE, h.lnew, ?_, h.here.keep fun b o hb _ => hcell b o (.inr hb), .inr rfl, ?_, fun k hk => (h.did k hk).keep (fun b o hb => hcell b o (.inl hb)) (fun _ hb => hb) (fun hl => List.getElem?_append_left hl) fun _ => rfl⟩
  · exact h.keeps.grown hp.grown fun b hb hlt => absurd (h.one.lt b hb).1 (by omega)
  · intro b hb hm
    rcases hnew b hb with h1 | h1
    · exact h.om b h1 hm
    · have := (h.more.lt b hm).2; omega
  · intro k q hk hq
    obtain ⟨h1, h2⟩ := h.rest k q hk hq
    exact ⟨hkept h1 fun b hb ho => by
      have h3 := (h.one.lt b ho).1
      have h4 := (h2 b hb).2.2
      omega, h2⟩
  · intro _
    refine ⟨Nat.le_refl _, a, cp, ?_, ?_⟩
    · rw [List.getElem?_append_right (by omega), hlen, Nat.sub_self, hlv]; rfl
    · have h1 := h.own
      subst hlv
      exact (own_liesD (D := E) h1 fun b hb => (h.lE b hb).1).keep fun b o hb _ => hcell b o (.inr hb)
/-- The list is through. -/
theorem GoingIn.leave {w0 w w' : World} {n : Nat} {ov mv mv' lv : Value} {ones mores : List Value} {D E : Nat → Prop} {r : Sl} {a : Option Addr} {cp : Nat} (h : GoingIn mk e eo s base rows w0 w n 70 (n + 1) ov mv lv ones mores D E r) (hr : rows[n]? = some r) (hb0 : w0.heap.size ≤ base)
    (hlv : lv = .slice a (r.len + 70) cp) (hp : Pushed eo 1 base w w' mv mv' n mores [lv]) :
    Going mk e eo s base rows w0 w' (n + 1) ov mv' ones (mores ++ [lv]) (fun b => D b ∨ E b) := by
  have hle := hp.big
  have hlen : mores.length = n := own_length h.more
  have hcell : ∀ b o, (D b ∨ E b) → w'.cell? ⟨b, o, none⟩ = w.cell? ⟨b, o, none⟩ := fun b o hb => grown_cell hp.grown (h.lt b hb) fun e1 => by
    rcases hb with hb | hb
    · exact (h.moreD b e1).1 hb
    · exact (h.moreD b e1).2 hb
  have hnew : ∀ b, mv'.ownBlock = some b → mv.ownBlock = some b ∨ w.heap.size ≤ b := fun b hb => by
    rcases hp.at_ with e1 | ⟨b', e1, e2, _⟩
    · exact .inl (e1 ▸ hb)
    · rw [e1] at hb; injection hb with hb; exact .inr (by omega)
  have hkept : ∀ {bs sz : Nat} {et : TypeId} {v : Value} {k : Nat} {xs : List Value}, w.ownsRow bs et sz v k xs → (∀ b, v.ownBlock = some b → mv.ownBlock = some b → False) → w'.ownsRow bs et sz v k xs := fun {bs sz et v k xs} hv hn =>
    hv.kept hp.grown (by
      cases hb : v.ownBlock with
      | none => exact .inl rfl
      | some b => exact .inr fun e1 => hn b hb e1.symm)
  refine ⟨?_, by have := h.big; omega, fun b hb => by have := h.lt b hb; omega, hkept h.one fun b hb hm => h.om b hb hm, hp.own, fun b hb hd => ?_, fun b hb hd => ?_, ?_, ?_, ?_⟩
  · exact h.keeps.grown hp.grown fun b hb hlt => absurd (h.more.lt b hb).1 (by omega)
  · rcases hd with hd | hd
    · exact (h.oneD b hb).1 hd
    · exact (h.oneD b hb).2 hd
  · rcases hnew b hb with h1 | h1
    · rcases hd with hd | hd
      · exact (h.moreD b h1).1 hd
      · exact (h.moreD b h1).2 hd
    · have := h.lt b hd; omega
  · intro b hb hm
    rcases hnew b hm with h1 | h1
    · exact h.om b hb h1
    · have := (h.one.lt b hb).2; omega
  · intro k q hk hq
    obtain ⟨h1, h2⟩ := h.rest k q (by omega) hq
    refine ⟨hkept h1 fun b hb ho => by
      have h3 := (h.more.lt b ho).1
      have h4 := (h2 b hb).2.2
      omega, fun b hb => ⟨fun hd => ?_, (h2 b hb).2.2⟩⟩
    rcases hd with hd | hd
    · exact (h2 b hb).1 hd
    · exact (h2 b hb).2.1 hd
  · intro k hk
    by_cases e1 : k = n
    · subst e1
      intro q hq
      rw [hr] at hq
      obtain rfl : r = q := by injection hq
      obtain ⟨_, a1, c1, h1, h2⟩ := h.first rfl
      refine ⟨(h.here.keep fun b o hb _ => hcell b o (.inr hb)).more fun _ hb => .inr hb, ⟨a1, c1, h1, (h2.keep fun b o hb _ => hcell b o (.inr hb)).more fun _ hb => .inr hb⟩, a, cp, ?_, ?_⟩
      · rw [List.getElem?_append_right (by omega), hlen, Nat.sub_self, hlv]; rfl
      · have h3 := h.own
        subst hlv
        exact ((own_liesD (D := E) h3 fun b hb => (h.lE b hb).1).keep fun b o hb _ => hcell b o (.inr hb)).more fun _ hb => .inr hb
    · exact (h.did k (by omega)).keep (fun b o hb => hcell b o (.inl hb)) (fun _ hb => .inl hb) (fun _ => rfl) fun hl => List.getElem?_append_left hl
theorem none_blk {b : Nat} (h : (Value.slice none 0 0).ownBlock = some b) : False := by cases h
theorem Going.start {w0 w : World} (h : Marked mk e s rows w0 w rows.length) (hbw : base = w.heap.size) : Going mk e eo s base rows w0 w 0 (.slice none 0 0) (.slice none 0 0) [] [] (fun _ => False) := by
  refine ⟨h.keeps, by omega, fun _ hd => hd.elim, World.ownsRow_nil _ _ _ _, World.ownsRow_nil _ _ _ _, (fun _ hb' => (none_blk hb').elim), (fun _ hb' => (none_blk hb').elim), (fun _ hb' => (none_blk hb').elim), ?_, fun k hk => absurd hk (Nat.not_lt_zero _)⟩
  intro k r _ hr
  obtain ⟨xs, hx, hm⟩ := h.own k r hr
  obtain rfl := hm (List.getElem?_eq_some_iff.1 hr).1
  exact ⟨hx, fun b hb' => ⟨fun hd => hd.elim, by rw [hbw]; exact (hx.lt b hb').2⟩⟩
end
/-- The list takes one mark more: as the walk meets it. -/
theorem GoingIn.pushed {mk : Nat → Nat → List Value} {e eo : TypeId} {s base : Nat} {rows : List Sl} {w0 w w' : World} {o : Obj} {n m c cap' : Nat} {ov mv lv : Value} {A' : Option Addr} {ones mores : List Value} {D E : Nat → Prop} {r : Sl} (h : GoingIn mk e eo s base rows w0 w n m c ov mv lv ones mores D E r) (hs : ∀ k i, (mk k i).length = s)
    (h1 : w'.ownsRow 0 e s (.slice A' (r.len + m + 1) cap') (r.len + m + 1) (marks mk n (r.len + m) ++ mk n (r.len + m))) (h2 : (w.alloc o).grownBy w' lv.ownBlock)
    (h3 : (Value.slice A' (r.len + m + 1) cap').ownBlock = lv.ownBlock ∨ (Value.slice A' (r.len + m + 1) cap').ownBlock = some (w.alloc o).heap.size) (h4 : Stays (w.alloc o) w' lv ((r.len + m) * s)) :
    ∃ E' : Nat → Prop, GoingIn mk e eo s base rows w0 w' n (m + 1) c ov mv (.slice A' (r.len + m + 1) cap') ones mores D E' r :=
  ⟨_, h.push hs (pushed_of h.own h1 h2 h3 h4)⟩
/-! ### The bag itself -/
/-- The bag at p holds the slices in its cell j, in a row at gO. -/
structure BagFix (w : World) (p j gO capO : Nat) (rows : List Sl) : Prop where
  hp : w.cell? ⟨p, j, none⟩ = some (.slice (some ⟨gO, 0, none⟩) rows.length capO)
  hO : ∀ (n : Nat) (r : Sl), rows[n]? = some r → w.cell? ⟨gO, n, none⟩ = some (.slice r.at_ r.len r.cap)
  lt : p < w.heap.size ∧ gO < w.heap.size
  far : ¬ blks rows p ∧ ¬ blks rows gO
theorem BagFix.keeps {w w' : World} {p j gO capO : Nat} {rows : List Sl} (h : BagFix w p j gO capO rows) (hk : Keeps (blks rows) w w') : BagFix w' p j gO capO rows :=
  ⟨(hk.cell h.lt.1 h.far.1).trans h.hp, fun n r hr => (hk.cell h.lt.2 h.far.2).trans (h.hO n r hr), ⟨Nat.lt_of_lt_of_le h.lt.1 hk.size, Nat.lt_of_lt_of_le h.lt.2 hk.size⟩, h.far⟩
end Go.Proofs.YtcmbdnjcfneinaaGreatDoor
