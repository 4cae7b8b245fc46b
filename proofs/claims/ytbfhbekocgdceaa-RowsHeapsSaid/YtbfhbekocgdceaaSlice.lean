/-
  Heads and tails of slices, whatever slice that reads as a list. Conditions: none.
-/
import Derived.Test.YtbfhbekocgdceaaAppend
namespace Go.Proofs.Ytbfhbekocgdceaa
open Go.RowKit
/-- Where a tail begins. -/
def tailA (A : Option Addr) (k c : Nat) : Option Addr := if c = k then A else A.map (·.add k)
theorem Lies.head {w : World} {B : Nat} {A : Option Addr} {xs : List Value} (h : Lies w B A xs) (k : Nat) : Lies w B A (xs.take k) := fun i u hu => h i u (by
  rw [List.getElem?_take] at hu
  split at hu
  · exact hu
  · cases hu)
theorem Lies.tail {w : World} {B k c : Nat} {A : Option Addr} {xs : List Value} (h : Lies w B A xs) (hc : xs.length ≤ c) : Lies w B (tailA A k c) (xs.drop k) := fun i u hu => by
  rw [List.getElem?_drop] at hu
  obtain ⟨g, off, hA, hg, hcell⟩ := h (k + i) u hu
  have hl := (List.getElem?_eq_some_iff.1 hu).1
  subst hA
  refine ⟨g, off + k, ?_, hg, by rw [Nat.add_assoc]; exact hcell⟩
  unfold tailA
  rw [if_neg (by omega)]
  simp only [Option.map_some, Option.some.injEq]
  unfold Addr.add
  split
  · subst_vars; rfl
  · rfl
section
variable {P : Program} {w : World} {ops : Array Oper} {rest : List Oper} {o : Oper} {a : Act} {Q : Exit → Act → World → Prop}
theorem run_size_of {t e : TypeId} {size : Nat} (ht : P.underlying t = some (.slice e)) (hsz : (P.info? e).map (·.size) = some size) (w : World) : (sizeOf (P.elem t)).run P w = .ok size w := by
  obtain ⟨i, hi, rfl⟩ := Option.map_eq_some_iff.1 hsz
  have : P.elem t = e := by simp [Program.elem, ht]
  rw [this]
  simp [sizeOf, typeInfo, hi]
theorem wpList_slice_head (hgd : o.guard = none) (t e : TypeId) (x y : Operand) (ho : o.op = .slice t x none (some y) none) (ht : P.underlying t = some (.slice e)) {size : Nat} (hsz : (P.info? e).map (·.size) = some size) (A : Option Addr) (n c k : Nat)
    (hx : a.eval x = .slice A n c) (hy : a.eval y = .int .i64 k) (hk : k ≤ c) (h : wpList P ops Q rest (a.put o.dst (.slice A k c)) w) : wpList P ops Q (o :: rest) a w :=
  wpList_plain hgd fun K hK => by
    have he : P.elem t = e := by simp [Program.elem, ht]
    have hr : (Instr.sliceAt t (.slice A n c) none (some (.int .i64 (k : Int))) none).run P w = .ok (.slice A k c) w := by
      rw [run_sliceAt_slice w t _ _ _ _ (by rw [he]; exact ht), run_slice_h w t A n c (by rw [he]; exact ht) .i64 (k : Int) (by omega) (by omega), run_size_of ht hsz]
      simp only [Result.andThen, sliced, Int.toNat_natCast, Nat.sub_zero, Nat.zero_mul]
      congr 1
      cases A with
      | none => simp
      | some q => simp [Addr.add]
    unfold Oper.wp execOp
    simp only [ho, hx, hy, Option.map_none, Option.map_some, Sem.run_bind, Sem.run_pure, Result.andThen_ok, hr]
    exact hK _ _ h
theorem wpList_slice_tail (hgd : o.guard = none) (t e : TypeId) (x y : Operand) (ho : o.op = .slice t x (some y) none none) (ht : P.underlying t = some (.slice e)) (hsz : (P.info? e).map (·.size) = some 1) (A : Option Addr) (n c k : Nat)
    (hx : a.eval x = .slice A n c) (hy : a.eval y = .int .i64 k) (hk : k ≤ n) (h : wpList P ops Q rest (a.put o.dst (.slice (tailA A k c) (n - k) (c - k))) w) : wpList P ops Q (o :: rest) a w :=
  wpList_plain hgd fun K hK => by
    have he : P.elem t = e := by simp [Program.elem, ht]
    have hr : (Instr.sliceAt t (.slice A n c) (some (.int .i64 (k : Int))) none none).run P w = .ok (.slice (tailA A k c) (n - k) (c - k)) w := by
      rw [run_sliceAt_slice w t _ _ _ _ (by rw [he]; exact ht), run_slice_l w t A n c (by rw [he]; exact ht) .i64 (k : Int) (by omega) (by omega), run_size_of ht hsz]
      simp only [Result.andThen, sliced, Int.toNat_natCast, Nat.mul_one, tailA]
    unfold Oper.wp execOp
    simp only [ho, hx, hy, Option.map_none, Option.map_some, Sem.run_bind, Sem.run_pure, Result.andThen_ok, hr]
    exact hK _ _ h
end
end Go.Proofs.Ytbfhbekocgdceaa
