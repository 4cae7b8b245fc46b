/-
  append onto a row of the call's own, elements of any number of cells; what stood there stays where it stood, even where the row moves. Conditions: the new length within Go's own limits.
-/
import Derived.Test.YtcmbdnjcfneinaaGreatDoorAppend
import Derived.Test.YtcmbdnjcfneinaaGreatDoorMemM
namespace Go.Proofs.YtcmbdnjcfneinaaGreatDoor
open Go.RowKit

section
variable {P : Program} (w : World)
/-- The old cells of the row stay where they lay. -/
def Stays (w w' : World) (v : Value) (m : Nat) : Prop := ∀ g o, v.ownBlock = some g → o < m → w'.cell? ⟨g, o, none⟩ = w.cell? ⟨g, o, none⟩

theorem own_cells {base : Nat} {e : TypeId} {size : Nat} {v : Value} {n : Nat} {xs : List Value} {w : World} (h : w.ownsRow base e size v n xs) {g : Nat} (hg : v.ownBlock = some g) {o : Nat} (ho : o < n * size) : w.cell? ⟨g, o, none⟩ = xs[o]? := by
  rcases h.2 with ⟨rfl, _⟩ | ⟨g', cap, cur, rfl, _, hh, _, _, _, ht⟩
  · cases hg
  · simp only [Value.ownBlock, Option.some.injEq] at hg
    subst hg
    rw [cell_of_row w g' o cur e (0, 0) hh, ← ht, List.getElem?_take, if_pos ho, Array.getElem?_toList]

theorem run_append_cells (base : Nat) (t ty e : TypeId) (z : Value) (size bytes : Nat) (ht : P.underlying t = some (.slice e)) (hinfo : (P.info? e).map (fun i => (i.zero, i.size, i.bytes)) = some (some z, size, bytes)) (hzs : z.cells.size = size) (hsz : 0 < size)
    (v : Value) (n : Nat) (xs : List Value) (hown : w.ownsRow base e size v n xs)
    (B : Nat) (A : Option Addr) (m c : Nat) (news : List Value) (hr : Lies w B A news) (hm : news.length = m * size) (h1 : ∀ u ∈ news, u.oneCell' = true)
    (h63 : n + m ≤ maxLen) (hbytes : (n + m) * bytes ≤ 140737488355328) (hbase : base ≤ w.heap.size) :
    ∃ A' cap' w', (Builtin.append_ #[t, t] ty #[v, .slice A m c]).run P w = .ok (.slice A' (n + m) cap') w' ∧ w'.ownsRow base e size (.slice A' (n + m) cap') (n + m) (xs ++ news) ∧ w.grownBy w' v.ownBlock ∧
      ((Value.slice A' (n + m) cap').ownBlock = v.ownBlock ∨ (Value.slice A' (n + m) cap').ownBlock = some w.heap.size) ∧ n + m ≤ cap' ∧ Stays w w' v (n * size) := by
  obtain ⟨i, hi, hzz⟩ := Option.map_eq_some_iff.1 hinfo
  simp only [Prod.mk.injEq] at hzz
  obtain ⟨hz, hsize, hby⟩ := hzz
  have fin : ∃ v' w', (Builtin.append_ #[t, t] ty #[v, .slice A m c]).run P w = .ok v' w' ∧ w'.ownsRow base e size v' (n + m) (xs ++ news) ∧ w.grownBy w' v.ownBlock ∧
      (v'.ownBlock = v.ownBlock ∨ v'.ownBlock = some w.heap.size) ∧ Stays w w' v (n * size) := by
    rcases A with _ | ad
    · have h0 : news = [] := by
        cases news with
        | nil => rfl
        | cons u l => obtain ⟨b, off, h, _⟩ := hr 0 u rfl; cases h
      subst h0
      obtain rfl : m = 0 := by
        simp only [List.length_nil] at hm
        rcases Nat.mul_eq_zero.1 hm.symm with h | h
        · exact h
        · omega
      exact ⟨v, w, run_append_none w base t ty e i size ht hi v n xs hown c, by simpa using hown, World.grownBy.refl w _, .inl rfl, fun _ _ _ _ => rfl⟩
    · have hcells : ∀ j u, news[j]? = some u → w.cell? (ad.add j) = some u := by
        intro j u hu
        obtain ⟨b, off, h, _, hc⟩ := hr j u hu
        injection h with h
        subst h
        have e : (⟨b, off, none⟩ : Addr).add j = ⟨b, off + j, none⟩ := by
          unfold Addr.add
          split
          · subst_vars; rfl
          · rfl
        rw [e]; exact hc
      obtain ⟨v', w', hrun, h2, h3, _, h5⟩ := run_append_own_at (P := P) w base t ty e i z size bytes ht hi hz hsize hby hzs hsz v n xs hown ad m c news hm hcells h1 h63 hbytes hbase
      refine ⟨v', w', hrun, h2, h3, h5, ?_⟩
      intro g o hg ho
      rcases h5 with h5 | h5
      · have e1 := own_cells hown hg ho
        have e2 := own_cells h2 (h5.trans hg) (o := o) (by rw [Nat.add_mul]; omega)
        rw [e1, e2, List.getElem?_append_left (by rw [hown.1]; exact ho)]
      · rcases hown.2 with ⟨rfl, _⟩ | ⟨g', cap, cur, rfl, _, hh, hnc, hcm, hcs, htake⟩
        · cases hg
        · simp only [Value.ownBlock, Option.some.injEq] at hg
          subst hg
          have hlt : g' < w.heap.size := (Array.getElem?_eq_some_iff.1 hh).1
          by_cases hroom : n + m ≤ cap
          · exfalso
            have hl' : news.length = m * i.size := by rw [hm, hsize]
            have hr' := run_append_room (P := P) w t ty e i ht hi g' n cap cur hh ad m c news hl' hcells h1 hroom (by rw [hl', hsize, hcs, ← Nat.add_mul]; exact Nat.mul_le_mul_right _ hroom)
            rw [hr'] at hrun
            injection hrun with hv _
            rw [← hv] at h5
            simp only [Value.ownBlock, Option.some.injEq] at h5
            omega
          · have holds : ∀ j u, xs[j]? = some u → w.cell? ((⟨g', 0, none⟩ : Addr).add j) = some u := hown.cells (g := g') rfl
            have hr' := run_append_grow (P := P) w t ty e i z ht hi hz ⟨g', 0, none⟩ n cap xs (by rw [hown.1, hsize]) holds ad m c news (by rw [hm, hsize]) hcells (by omega) (by unfold maxLen at h63; omega) (growslice_fits (by omega) (by rw [hby]; exact hbytes))
            rw [hr'] at hrun
            injection hrun with _ hw
            rw [← hw]
            exact World.cell?_of_block (heap_alloc_old w.drew _ hlt)
  obtain ⟨v', w', hrun, h2, h3, h4, h5⟩ := fin
  obtain ⟨A', cap', rfl, hc, _⟩ := own_slice h2
  exact ⟨A', cap', w', hrun, h2, h3, h4, hc, h5⟩

theorem wp_append_cells {o : Oper} {a : Act} {K : Act → World → Prop} {Q : Exit → Act → World → Prop} (s x : Operand) (t : TypeId)
    (ho : o.op = .call { callee := .builtin .append, args := #[s, x], argTypes := #[t, t] })
    (base : Nat) (e : TypeId) (z : Value) (size bytes : Nat) (ht : P.underlying t = some (.slice e)) (hinfo : (P.info? e).map (fun i => (i.zero, i.size, i.bytes)) = some (some z, size, bytes)) (hzs : z.cells.size = size) (hsz : 0 < size)
    (v : Value) (n : Nat) (xs : List Value) (hs : a.eval s = v) (hown : w.ownsRow base e size v n xs)
    (B : Nat) (A : Option Addr) (m c : Nat) (news : List Value) (hx : a.eval x = .slice A m c) (hr : Lies w B A news) (hm : news.length = m * size) (h1 : ∀ u ∈ news, u.oneCell' = true)
    (h63 : n + m ≤ maxLen) (hbytes : (n + m) * bytes ≤ 140737488355328) (hbase : base ≤ w.heap.size)
    (h : ∀ A' cap' w', w'.ownsRow base e size (.slice A' (n + m) cap') (n + m) (xs ++ news) → w.grownBy w' v.ownBlock → ((Value.slice A' (n + m) cap').ownBlock = v.ownBlock ∨ (Value.slice A' (n + m) cap').ownBlock = some w.heap.size) → n + m ≤ cap' → Stays w w' v (n * size) → K (a.put o.dst (.slice A' (n + m) cap')) w') : o.wp P a w K Q := by
  obtain ⟨A', cap', w', hrun, h2, h3, h4, h5, h6⟩ := run_append_cells (P := P) w base t o.type e z size bytes ht hinfo hzs hsz v n xs hown B A m c news hr hm h1 h63 hbytes hbase
  unfold Oper.wp execOp
  simp only [ho, resolve, invoke, builtin, Sem.run_bind, Sem.run_pure, Result.andThen_ok, List.map_toArray, List.map_cons, List.map_nil, hs, hx, hrun]
  exact h A' cap' w' h2 h3 h4 h5 h6

theorem wpList_append_cells {ops : Array Oper} {rest : List Oper} {o : Oper} {a : Act} {Q : Exit → Act → World → Prop} (hgd : o.guard = none) (s x : Operand) (t : TypeId)
    (ho : o.op = .call { callee := .builtin .append, args := #[s, x], argTypes := #[t, t] })
    (base : Nat) (e : TypeId) (z : Value) (size bytes : Nat) (ht : P.underlying t = some (.slice e)) (hinfo : (P.info? e).map (fun i => (i.zero, i.size, i.bytes)) = some (some z, size, bytes)) (hzs : z.cells.size = size) (hsz : 0 < size)
    (v : Value) (n : Nat) (xs : List Value) (hs : a.eval s = v) (hown : w.ownsRow base e size v n xs)
    (B : Nat) (A : Option Addr) (m c : Nat) (news : List Value) (hx : a.eval x = .slice A m c) (hr : Lies w B A news) (hm : news.length = m * size) (h1 : ∀ u ∈ news, u.oneCell' = true)
    (h63 : n + m ≤ maxLen) (hbytes : (n + m) * bytes ≤ 140737488355328) (hbase : base ≤ w.heap.size)
    (h : ∀ A' cap' w', w'.ownsRow base e size (.slice A' (n + m) cap') (n + m) (xs ++ news) → w.grownBy w' v.ownBlock → ((Value.slice A' (n + m) cap').ownBlock = v.ownBlock ∨ (Value.slice A' (n + m) cap').ownBlock = some w.heap.size) → n + m ≤ cap' → Stays w w' v (n * size) → wpList P ops Q rest (a.put o.dst (.slice A' (n + m) cap')) w') : wpList P ops Q (o :: rest) a w :=
  wpList_plain hgd fun _ hK => wp_append_cells w s x t ho base e z size bytes ht hinfo hzs hsz v n xs hs hown B A m c news hx hr hm h1 h63 hbytes hbase fun A' cap' w' h2 h3 h4 h5 h6 => hK _ _ (h A' cap' w' h2 h3 h4 h5 h6)
end
end Go.Proofs.YtcmbdnjcfneinaaGreatDoor
