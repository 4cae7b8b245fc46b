/-
  Lists that are marked and gone on with one by one (chapter 04's apart): plain laws of memory. Conditions: no two of the lists lie in one block.
-/
import Derived.Test.YtbfhbekocgdceaaBagP
namespace Go.Proofs.Ytbfhbekocgdceaa
open Go.RowKit
section
variable (mk : Nat → Nat → List Value) (e eo : TypeId) (s : Nat) (base : Nat) (rows : List Sl)
/-- What stands of the list k. -/
def Done2 (w : World) (D : Nat → Prop) (mores : List Value) (k : Nat) : Prop :=
  ∀ r : Sl, rows[k]? = some r → LiesD w D r.at_ (marks mk k r.len) ∧ (∃ a c, mores[k]? = some (.slice a (r.len + 70) c) ∧ LiesD w D a (marks mk k (r.len + 70)))
/-- Behind n lists: D holds what may not be turned any more. -/
structure Gng (w0 w : World) (n : Nat) (mv : Value) (mores : List Value) (D : Nat → Prop) : Prop where
  keeps : Keeps (blks rows) w0 w
  big : base ≤ w.heap.size
  lt : ∀ b, D b → b < w.heap.size
  more : w.ownsRow base eo 1 mv n mores
  moreD : ∀ b, mv.ownBlock = some b → ¬ D b
  rest : ∀ (k : Nat) (r : Sl), n ≤ k → rows[k]? = some r → w.ownsRow 0 e s r.val r.len (marks mk k r.len) ∧ ∀ b, r.blk = some b → ¬ D b ∧ b < base
  did : ∀ k, k < n → Done2 mk rows w D mores k
/-- Within the list n: m of its marks more stand; E holds the blocks that it has had. -/
structure GngIn (w0 w : World) (n m : Nat) (mv lv : Value) (mores : List Value) (D E : Nat → Prop) (r : Sl) : Prop where
  keeps : Keeps (blks rows) w0 w
  big : base ≤ w.heap.size
  lt : ∀ b, D b ∨ E b → b < w.heap.size
  more : w.ownsRow base eo 1 mv n mores
  moreD : ∀ b, mv.ownBlock = some b → ¬ D b ∧ ¬ E b
  own : w.ownsRow 0 e s lv (r.len + m) (marks mk n (r.len + m))
  lE : ∀ b, lv.ownBlock = some b → E b ∧ ¬ D b
  lnew : ∀ b, lv.ownBlock = some b → blks rows b ∨ w0.heap.size ≤ b
  rest : ∀ (k : Nat) (q : Sl), n < k → rows[k]? = some q → w.ownsRow 0 e s q.val q.len (marks mk k q.len) ∧ ∀ b, q.blk = some b → ¬ D b ∧ ¬ E b ∧ b < base
  here : LiesD w E r.at_ (marks mk n r.len)
  did : ∀ k, k < n → Done2 mk rows w D mores k
variable {mk e eo s base rows}
theorem Done2.keep {w w' : World} {D D' : Nat → Prop} {mores mores' : List Value} {k : Nat} (h : Done2 mk rows w D mores k) (hk : ∀ b o, D b → w'.cell? ⟨b, o, none⟩ = w.cell? ⟨b, o, none⟩) (hD : ∀ b, D b → D' b)
    (hm : k < mores.length → mores'[k]? = mores[k]?) : Done2 mk rows w' D' mores' k := fun r hr => by
  obtain ⟨h1, a', c', h4, h5⟩ := h r hr
  exact ⟨(h1.keep fun b o hb _ => hk b o hb).more hD, a', c', (hm (List.getElem?_eq_some_iff.1 h4).1).trans h4, (h5.keep fun b o hb _ => hk b o hb).more hD⟩
theorem Gng.enter {w0 w : World} {n : Nat} {mv : Value} {mores : List Value} {D : Nat → Prop} (h : Gng mk e eo s base rows w0 w n mv mores D) (hap : ∀ (j k : Nat) (r q : Sl) (b : Nat), rows[j]? = some r → rows[k]? = some q → r.blk = some b → q.blk = some b → j = k) {r : Sl} (hr : rows[n]? = some r) :
    GngIn mk e eo s base rows w0 w n 0 mv r.val mores D (fun b => r.blk = some b) r := by
  obtain ⟨ho, hb⟩ := h.rest n r (Nat.le_refl _) hr
  refine ⟨h.keeps, h.big, ?_, h.more, ?_, ho, fun b hb' => ⟨hb', (hb b hb').1⟩, fun b hb' => .inl ⟨n, r, hr, hb'⟩, ?_, own_liesD ho fun b hb' => hb', h.did⟩
  · intro b hb'
    rcases hb' with hb' | hb'
    · exact h.lt b hb'
    · exact (ho.lt b hb').2
  · intro b hb'
    refine ⟨h.moreD b hb', fun he => ?_⟩
    have h1 := (h.more.lt b hb').1
    have h2 := (hb b he).2
    omega
  · intro k q hk hq
    obtain ⟨h1, h2⟩ := h.rest k q (by omega) hq
    refine ⟨h1, fun b hb' => ⟨(h2 b hb').1, fun he => ?_, (h2 b hb').2⟩⟩
    have := hap n k r q b hr hq he hb'
    omega
/-- The list takes one mark more. -/
theorem GngIn.push {w0 w w' : World} {n m : Nat} {mv lv lv' : Value} {mores : List Value} {D E : Nat → Prop} {r : Sl} (h : GngIn mk e eo s base rows w0 w n m mv lv mores D E r) (hs : ∀ k i, (mk k i).length = s)
    (hp : Pushed e s 0 w w' lv lv' (r.len + m) (marks mk n (r.len + m)) (mk n (r.len + m))) :
    GngIn mk e eo s base rows w0 w' n (m + 1) mv lv' mores D (fun b => E b ∨ lv'.ownBlock = some b) r := by
  have hle := hp.big
  have hD : ∀ b o, D b → w'.cell? ⟨b, o, none⟩ = w.cell? ⟨b, o, none⟩ := fun b o hb => grown_cell hp.grown (h.lt b (.inl hb)) fun e1 => (h.lE b e1).2 hb
  have hE : ∀ b o, E b → o < (r.len + m) * s → w'.cell? ⟨b, o, none⟩ = w.cell? ⟨b, o, none⟩ := fun b o hb ho => by
    by_cases e1 : lv.ownBlock = some b
    · exact hp.stays b o e1 ho
    · exact grown_cell hp.grown (h.lt b (.inr hb)) e1
  have hEl : ∀ {A : Option Addr} {q : Nat}, q ≤ r.len + m → LiesD w E A (marks mk n q) → LiesD w' (fun b => E b ∨ lv'.ownBlock = some b) A (marks mk n q) := fun {A q} hq hl =>
    (hl.keep fun b o hb ho => hE b o hb (by
      rw [marks_length mk hs] at ho
      exact Nat.lt_of_lt_of_le ho (Nat.mul_le_mul_right _ hq))).more fun b hb => .inl hb
  have hnewE : ∀ b, lv'.ownBlock = some b → (E b ∧ ¬ D b) ∨ w.heap.size ≤ b := fun b hb => by
    rcases hp.at_ with e1 | ⟨b', e1, e2, _⟩
    · exact .inl (h.lE b (e1 ▸ hb))
    · rw [e1] at hb; injection hb with hb; exact .inr (by omega)
  have hlnew : ∀ b, lv'.ownBlock = some b → blks rows b ∨ w0.heap.size ≤ b := fun b hb => by
    rcases hp.at_ with e1 | ⟨b', e1, e2, _⟩
    · exact h.lnew b (e1 ▸ hb)
    · rw [e1] at hb; injection hb with hb; exact .inr (by have := h.keeps.size; omega)
  have hkept : ∀ {bs sz : Nat} {et : TypeId} {v : Value} {k : Nat} {xs : List Value}, w.ownsRow bs et sz v k xs → (∀ b, v.ownBlock = some b → ¬ E b) → w'.ownsRow bs et sz v k xs := fun {bs sz et v k xs} hv hn =>
    hv.kept hp.grown (by
      cases hb : v.ownBlock with
      | none => exact .inl rfl
      | some b => exact .inr fun e1 => hn b hb (h.lE b e1.symm).1)
  refine ⟨?_, by have := h.big; omega, ?_, hkept h.more fun b hb => (h.moreD b hb).2, ?_, ?_, ?_, hlnew, ?_, hEl (Nat.le_add_right _ _) h.here, fun k hk => (h.did k hk).keep hD (fun _ hb => hb) fun _ => rfl⟩
  · exact h.keeps.grown hp.grown fun b hb hlt => by
      rcases h.lnew b hb with h1 | h1
      · exact h1
      · omega
  · intro b hb
    rcases hb with hb | hb | hb
    · have := h.lt b (.inl hb); omega
    · have := h.lt b (.inr hb); omega
    · exact (hp.own.lt b hb).2
  · intro b hb
    refine ⟨(h.moreD b hb).1, fun he => ?_⟩
    rcases he with he | he
    · exact (h.moreD b hb).2 he
    · rcases hnewE b he with h1 | h1
      · exact (h.moreD b hb).2 h1.1
      · have := (h.more.lt b hb).2; omega
  · have := hp.own
    rw [← marks_succ] at this
    exact this
  · intro b hb
    refine ⟨.inr hb, fun hd => ?_⟩
    rcases hnewE b hb with h1 | h1
    · exact h1.2 hd
    · have := h.lt b (.inl hd); omega
  · intro k q hk hq
    obtain ⟨h1, h2⟩ := h.rest k q hk hq
    refine ⟨hkept h1 fun b hb => (h2 b hb).2.1, fun b hb => ⟨(h2 b hb).1, fun he => ?_, (h2 b hb).2.2⟩⟩
    rcases he with he | he
    · exact (h2 b hb).2.1 he
    · rcases hnewE b he with h3 | h3
      · exact (h2 b hb).2.1 h3.1
      · have := (h1.lt b hb).2; omega
/-- The list is through. -/
theorem GngIn.leave {w0 w w' : World} {n : Nat} {mv mv' lv : Value} {mores : List Value} {D E : Nat → Prop} {r : Sl} {a : Option Addr} {cp : Nat} (h : GngIn mk e eo s base rows w0 w n 70 mv lv mores D E r) (hr : rows[n]? = some r) (hb0 : w0.heap.size ≤ base)
    (hlv : lv = .slice a (r.len + 70) cp) (hp : Pushed eo 1 base w w' mv mv' n mores [lv]) :
    Gng mk e eo s base rows w0 w' (n + 1) mv' (mores ++ [lv]) (fun b => D b ∨ E b) := by
  have hle := hp.big
  have hlen : mores.length = n := own_length h.more
  have hcell : ∀ b o, (D b ∨ E b) → w'.cell? ⟨b, o, none⟩ = w.cell? ⟨b, o, none⟩ := fun b o hb => grown_cell hp.grown (h.lt b hb) fun e1 => by
    rcases hb with hb | hb
    · exact (h.moreD b e1).1 hb
    · exact (h.moreD b e1).2 hb
  have hnew : ∀ b, mv'.ownBlock = some b → mv.ownBlock = some b ∨ w.heap.size ≤ b := fun b hb => by
    rcases hp.at_ with e1 | ⟨b', e1, e2, _⟩
    · exact .inl (e1 ▸ hb)
    · rw [e1] at hb; injection hb with hb; exact .inr (by omega)
  have hkept : ∀ {bs sz : Nat} {et : TypeId} {v : Value} {k : Nat} {xs : List Value}, w.ownsRow bs et sz v k xs → (∀ b, v.ownBlock = some b → mv.ownBlock = some b → False) → w'.ownsRow bs et sz v k xs := fun {bs sz et v k xs} hv hn =>
    hv.kept hp.grown (by
      cases hb : v.ownBlock with
      | none => exact .inl rfl
      | some b => exact .inr fun e1 => hn b hb e1.symm)
  refine ⟨?_, by have := h.big; omega, fun b hb => by have := h.lt b hb; omega, hp.own, fun b hb hd => ?_, ?_, ?_⟩
  · exact h.keeps.grown hp.grown fun b hb hlt => absurd (h.more.lt b hb).1 (by omega)
  · rcases hnew b hb with h1 | h1
    · rcases hd with hd | hd
      · exact (h.moreD b h1).1 hd
      · exact (h.moreD b h1).2 hd
    · have := h.lt b hd; omega
  · intro k q hk hq
    obtain ⟨h1, h2⟩ := h.rest k q (by omega) hq
    refine ⟨hkept h1 fun b hb ho => by
      have h3 := (h.more.lt b ho).1
      have h4 := (h2 b hb).2.2
      omega, fun b hb => ⟨fun hd => ?_, (h2 b hb).2.2⟩⟩
    rcases hd with hd | hd
    · exact (h2 b hb).1 hd
    · exact (h2 b hb).2.1 hd
  · intro k hk
    by_cases e1 : k = n
    · subst e1
      intro q hq
      rw [hr] at hq
      obtain rfl : r = q := by injection hq
      refine ⟨(h.here.keep fun b o hb _ => hcell b o (.inr hb)).more fun _ hb => .inr hb, a, cp, ?_, ?_⟩
      · rw [List.getElem?_append_right (by omega), hlen, Nat.sub_self, hlv]; rfl
      · have h3 := h.own
        subst hlv
        exact ((own_liesD (D := E) h3 fun b hb => (h.lE b hb).1).keep fun b o hb _ => hcell b o (.inr hb)).more fun _ hb => .inr hb
    · exact (h.did k (by omega)).keep (fun b o hb => hcell b o (.inl hb)) (fun _ hb => .inl hb) fun hl => List.getElem?_append_left hl
theorem Gng.start {w0 w : World} (h : Marked mk e s rows w0 w rows.length) (hbw : base = w.heap.size) : Gng mk e eo s base rows w0 w 0 (.slice none 0 0) [] (fun _ => False) := by
  refine ⟨h.keeps, by omega, fun _ hd => hd.elim, World.ownsRow_nil _ _ _ _, (fun _ hb' => (none_blk hb').elim), ?_, fun k hk => absurd hk (Nat.not_lt_zero _)⟩
  intro k r _ hr
  obtain ⟨xs, hx, hm⟩ := h.own k r hr
  obtain rfl := hm (List.getElem?_eq_some_iff.1 hr).1
  exact ⟨hx, fun b hb' => ⟨fun hd => hd.elim, by rw [hbw]; exact (hx.lt b hb').2⟩⟩
end
/-- The list takes one mark more: as the walk meets it. -/
theorem GngIn.pushed {mk : Nat → Nat → List Value} {e eo : TypeId} {s base : Nat} {rows : List Sl} {w0 w w' : World} {o : Obj} {n m cap' : Nat} {mv lv : Value} {A' : Option Addr} {mores : List Value} {D E : Nat → Prop} {r : Sl} (h : GngIn mk e eo s base rows w0 w n m mv lv mores D E r) (hs : ∀ k i, (mk k i).length = s)
    (h1 : w'.ownsRow 0 e s (.slice A' (r.len + m + 1) cap') (r.len + m + 1) (marks mk n (r.len + m) ++ mk n (r.len + m))) (h2 : (w.alloc o).grownBy w' lv.ownBlock)
    (h3 : (Value.slice A' (r.len + m + 1) cap').ownBlock = lv.ownBlock ∨ (Value.slice A' (r.len + m + 1) cap').ownBlock = some (w.alloc o).heap.size) (h4 : Stays (w.alloc o) w' lv ((r.len + m) * s)) :
    ∃ E' : Nat → Prop, GngIn mk e eo s base rows w0 w' n (m + 1) mv (.slice A' (r.len + m + 1) cap') mores D E' r :=
  ⟨_, h.push hs (pushed_of h.own h1 h2 h3 h4)⟩
/-- The slices lie in the row at gO. -/
structure RowFix (w : World) (gO : Nat) (rows : List Sl) : Prop where
  hO : ∀ (n : Nat) (r : Sl), rows[n]? = some r → w.cell? ⟨gO, n, none⟩ = some (.slice r.at_ r.len r.cap)
  lt : gO < w.heap.size
  far : ¬ blks rows gO
theorem RowFix.keeps {w w' : World} {gO : Nat} {rows : List Sl} (h : RowFix w gO rows) (hk : Keeps (blks rows) w w') : RowFix w' gO rows :=
  ⟨fun n r hr => (hk.cell h.lt h.far).trans (h.hO n r hr), Nat.lt_of_lt_of_le h.lt hk.size, h.far⟩
end Go.Proofs.Ytbfhbekocgdceaa
