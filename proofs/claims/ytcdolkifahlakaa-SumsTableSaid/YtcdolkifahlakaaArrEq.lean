/-
  '==' between an array of integers and itself. Conditions: none.
-/
import Derived.Test.YtcdolkifahlakaaMem
import Derived.Laws.StructEq
namespace Go.Proofs.Ytcdolkifahlakaa
open Go.RowKit

section
variable {P : Program}
/-- An array whose cells are integers is the same as itself. -/
theorem run_equalIn_array_same (w : World) (d : Nat) {t e : TypeId} {n : Nat} {k : IntKind} {i : TypeInfo} (xs : Array Value) (ht : P.underlying t = some (.array n e)) (he : P.underlying e = some (.int k))
    (hi : P.info? e = some i) (hs : i.size = 1) (hx : ∀ j, j < n → ∃ k' z, xs[j]? = some (.int k' z)) : (Op.equalIn (d + 2) t (.agg xs) (.agg xs)).run P w = .ok true w := by
  have part1 : ∀ j, j < n → ∃ k' z, (part e xs j).run P w = .ok (.int k' z) w := by
    intro j hj
    obtain ⟨k', z, h⟩ := hx j hj
    exact ⟨k', z, by simp [part, isAgg, run_underlying he, h]⟩
  have sz : (sizeOf e).run P w = .ok 1 w := by simp [sizeOf, typeInfo, hi, hs]
  unfold Op.equalIn
  simp only [Sem.run_bind, run_underlying ht, Result.andThen_ok, sz]
  have loop : ∀ (l : List Nat), (∀ j ∈ l, j < n) →
      (forIn (m := Sem) l ((none : Option Bool), ()) fun i __s => do
        let a ← part e xs (i * 1)
        let b ← part e xs (i * 1)
        let c ← Op.equalIn (d + 1) e a b
        if (!c) = true then pure (ForInStep.done (some false, ())) else pure (ForInStep.yield (none, ()))).run P w = .ok (none, ()) w := by
    intro l
    induction l with
    | nil => intro _; simp
    | cons j l ih =>
      intro hl
      obtain ⟨k', z, hp⟩ := part1 j (hl j List.mem_cons_self)
      simp only [List.forIn_cons, Sem.run_bind, Nat.mul_one, hp, Result.andThen_ok]
      rw [run_equalIn_int w d e k' k z z he]
      simp only [Result.andThen_ok, beq_self_eq_true, Bool.not_true, Bool.false_eq_true, if_false, Sem.run_pure]
      have := ih (fun x hx => hl x (List.mem_cons_of_mem _ hx))
      simpa using this
  rw [Std.Legacy.Range.forIn_eq_forIn_range']
  rw [loop _ (fun j hj => by simp at hj; omega)]
  simp
end
end Go.Proofs.Ytcdolkifahlakaa
