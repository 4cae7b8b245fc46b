/-
  Copies of lists of rows: the walk. Conditions: lengths within 10 ^ 9.
-/
import Derived.Test.YthmfbcfbcookiaaDoorCopies
import Derived.Test.YthmfbcfbcookiaaDoorBagP
import Derived.Test.YthmfbcfbcookiaaDoorRowW
import Derived.Deep.Onto
namespace Go.Proofs.YthmfbcfbcookiaaDoor
open Go.RowKit
/-- Rows of the call's own, in a row of its own. -/
structure RowsOwn (w : World) (base : Nat) (v : Value) (rows : List (List Int)) (cells : List Value) : Prop where
  own : w.ownsRow base 81 1 v rows.length cells
  row : ∀ (i : Nat) (r : List Int), rows[i]? = some r → ∃ (Ai : Option Addr) (ci : Nat), cells[i]? = some (.slice Ai r.length ci) ∧ w.ownsRow base 3 1 (.slice Ai r.length ci) r.length (r.map (Value.int .i64))
theorem RowsOwn.nil (w : World) (base : Nat) : RowsOwn w base (.slice none 0 0) [] [] := ⟨World.ownsRow_nil _ _ _ _, fun i r h => by simp at h⟩
theorem RowsOwn.lie {w : World} {base : Nat} {A : Option Addr} {cap : Nat} {rows : List (List Int)} {cells : List Value} (h : RowsOwn w base (.slice A rows.length cap) rows cells) : RowsLie w w.heap.size A rows := fun i r hi => by
  obtain ⟨Ai, ci, hc, ho⟩ := h.row i r hi
  obtain ⟨g, off, e, hg, h1⟩ := own_lies_n h.own i _ hc
  exact ⟨g, off, Ai, ci, e, hg, h1, own_lies_n ho⟩
theorem RowsOwn.keeps {S : Nat → Prop} {w w' : World} {B : Nat} {v : Value} {rows : List (List Int)} {cells : List Value} (h : RowsOwn w B v rows cells) (hk : Keeps S w w') (hS : ∀ b, B ≤ b → ¬ S b) : RowsOwn w' B v rows cells :=
  ⟨own_keepsS h.own hk fun b hb => hS b (h.own.lt b hb).1, fun i r hi => by
    obtain ⟨Ai, ci, hc, ho⟩ := h.row i r hi
    exact ⟨Ai, ci, hc, own_keepsS ho hk fun b hb => hS b (ho.lt b hb).1⟩⟩
theorem RowsOwn.alloc {w : World} {B : Nat} {v : Value} {rows : List (List Int)} {cells : List Value} (h : RowsOwn w B v rows cells) (o : Obj) : RowsOwn (w.alloc o) B v rows cells :=
  ⟨h.own.alloc o, fun i r hi => by
    obtain ⟨Ai, ci, hc, ho⟩ := h.row i r hi
    exact ⟨Ai, ci, hc, ho.alloc o⟩⟩
/-- A row put behind: the outer row is grown, the inner ones stay. -/
theorem RowsOwn.push {w w' : World} {B c2 : Nat} {v : Value} {A2 : Option Addr} {rows : List (List Int)} {cells : List Value} {x : List Int} {A1 : Option Addr} {c1 : Nat} (h : RowsOwn w B v rows cells) (ho : w.ownsRow B 3 1 (.slice A1 x.length c1) x.length (x.map (Value.int .i64)))
    (hg : w.grownBy w' v.ownBlock) (hown : w'.ownsRow B 81 1 (.slice A2 (rows.length + 1) c2) (rows.length + 1) (cells ++ [.slice A1 x.length c1])) : RowsOwn w' B (.slice A2 (rows ++ [x]).length c2) (rows ++ [x]) (cells ++ [.slice A1 x.length c1]) := by
  have hcl : cells.length = rows.length := by rw [h.own.1, Nat.mul_one]
  have hkept : ∀ {v' : Value} {n : Nat} {ys : List Value}, w.ownsRow B 3 1 v' n ys → w'.ownsRow B 3 1 v' n ys := fun {v'} {n} {ys} h' => h'.kept hg (by
    rcases h'.2 with ⟨rfl, _⟩ | ⟨g, _, cur, rfl, _, hb, _⟩
    · exact .inl rfl
    · refine .inr fun e => ?_
      rcases h.own.2 with ⟨rfl, _⟩ | ⟨g', _, cur', rfl, _, hb', _⟩
      · cases e
      · simp only [Value.ownBlock, Option.some.injEq] at e
        subst e
        rw [hb] at hb'
        injection hb' with hb'
        injection hb' with _ hb' _
        exact absurd hb' (by decide))
  refine ⟨by rw [List.length_append]; exact hown, fun i r hi => ?_⟩
  rw [List.getElem?_append] at hi
  split at hi
  · rename_i hlt
    obtain ⟨Ai, ci, hc, ho'⟩ := h.row i r hi
    exact ⟨Ai, ci, by rw [List.getElem?_append_left (by omega)]; exact hc, hkept ho'⟩
  · rename_i hge
    have h0 : i - rows.length = 0 := by
      rcases Nat.eq_zero_or_pos (i - rows.length) with h | h
      · exact h
      · rw [List.getElem?_eq_none (by simp; omega)] at hi; cases hi
    rw [h0] at hi
    obtain rfl : x = r := by simpa using hi
    exact ⟨A1, c1, by rw [List.getElem?_append_right (by omega), hcl, h0]; rfl, hkept ho⟩
end Go.Proofs.YthmfbcfbcookiaaDoor
