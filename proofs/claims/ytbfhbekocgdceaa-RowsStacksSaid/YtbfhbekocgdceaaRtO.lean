/-
  Scripts of calls that come in. Conditions: none.
-/
import Derived.Test.YtbfhbekocgdceaaLawP
import Derived.Test.YtbfhbekocgdceaaLawI
import Derived.Lib.SmallJoins
import Derived.ChangeArms
import Derived.Test.YtbfhbekocgdceaaKeep
namespace Go.Proofs.Ytbfhbekocgdceaa
open Go.Joins Go.ChangeShapes Go.WideShapes Go.ChangeAt Go.RowKit Go.Deep
/-- The address A leads to calls. -/
def OpLies (w : World) (B : Nat) (A : Option Addr) (xs : List (Int × Int × Int)) : Prop := ∀ (j : Nat) (x : Int × Int × Int), xs[j]? = some x → ∃ g off, A = some ⟨g, off, none⟩ ∧ g < B ∧ w.cell? ⟨g, off + j * 3, none⟩ = some (.int .i64 x.1) ∧ w.cell? ⟨g, off + j * 3 + 1, none⟩ = some (.int .i64 x.2.1) ∧ w.cell? ⟨g, off + j * 3 + 2, none⟩ = some (.int .i64 x.2.2)
theorem OpLies.keep {w w' : World} {B : Nat} {A : Option Addr} {xs : List (Int × Int × Int)} (h : OpLies w B A xs) (hk : ∀ b o, b < B → w'.cell? ⟨b, o, none⟩ = w.cell? ⟨b, o, none⟩) : OpLies w' B A xs := fun j x hx => by
  obtain ⟨g, off, e, hg, h0, h1, h2⟩ := h j x hx
  exact ⟨g, off, e, hg, (hk g _ hg).trans h0, (hk g _ hg).trans h1, (hk g _ hg).trans h2⟩
section
variable {H : Type} {enc : TypeId × Value → H} {W : World}
set_option maxRecDepth 100000 in
theorem open_ops {base : Nat} {v : Value} {d : DataW H} {p : List MemPlace} (hval : Value.okWide Try.prog W .any base 68 v) (h : DataW.Trod enc Try.prog W 0 (fun _ => true) true 68 v d p) (hlt : ∀ x ∈ p, x.block < W.heap.size) :
    ∃ (A : Option Addr) (xs : List (Int × Int × Int)) (cap : Nat), v = .slice A xs.length cap ∧ OpLies W W.heap.size A xs ∧ (∀ x ∈ xs, (-9223372036854775808 ≤ x.1 ∧ x.1 ≤ 9223372036854775807) ∧ (-9223372036854775808 ≤ x.2.1 ∧ x.2.1 ≤ 9223372036854775807) ∧ (-9223372036854775808 ≤ x.2.2 ∧ x.2.2 ≤ 9223372036854775807)) ∧ xs.length ≤ cap ∧ (xs.length = 0 ∨ ∃ elems spare, d = .slice elems spare ∧ elems.length = xs.length) := by
  obtain ⟨A, len, cap, V, rfl, hF, hl, _, hd, hV⟩ := open_structs Try.underlying68 Try.underlying76 (by kernel_rfl) (by kernel_rfl) hval h hlt
  have hq : ∀ i, i < len → ∃ c : Int × Int × Int, V i 0 = .int .i64 c.1 ∧ V i 1 = .int .i64 c.2.1 ∧ V i 2 = .int .i64 c.2.2 ∧ ((-9223372036854775808 ≤ c.1 ∧ c.1 ≤ 9223372036854775807) ∧ (-9223372036854775808 ≤ c.2.1 ∧ c.2.1 ≤ 9223372036854775807) ∧ (-9223372036854775808 ≤ c.2.2 ∧ c.2.2 ≤ 9223372036854775807)) := fun i hi => by
    obtain ⟨_, _, g0⟩ := hV i hi 0 _ rfl
    obtain ⟨_, _, g1⟩ := hV i hi 1 _ rfl
    obtain ⟨_, _, g2⟩ := hV i hi 2 _ rfl
    obtain ⟨z0, c0, _, w0⟩ := DataW.trod_int Try.underlying3 g0
    obtain ⟨z1, c1, _, w1⟩ := DataW.trod_int Try.underlying3 g1
    obtain ⟨z2, c2, _, w2⟩ := DataW.trod_int Try.underlying3 g2
    exact ⟨(z0, z1, z2), (List.cons.inj c0).1, (List.cons.inj c1).1, (List.cons.inj c2).1, bounds_of_i64 w0, bounds_of_i64 w1, bounds_of_i64 w2⟩
  obtain ⟨C, hC⟩ := choose_lt hq
  refine ⟨A, (List.range len).map C, cap, by simp, ?_, fun x hx => ?_, by simpa using hl, by simpa using hd⟩
  · intro j x hx
    rw [List.getElem?_map, Option.map_eq_some_iff] at hx
    obtain ⟨i, hi, rfl⟩ := hx
    obtain ⟨hi1, hi2⟩ := List.getElem?_eq_some_iff.1 hi
    rw [List.length_range] at hi1
    obtain rfl : j = i := by simpa using hi2
    obtain ⟨h0, h1, h2, _⟩ := hC j hi1
    obtain ⟨g, off, e, hg, c0⟩ := hF j hi1 0 (by decide)
    obtain ⟨g', off', e', _, c1⟩ := hF j hi1 1 (by decide)
    obtain ⟨g'', off'', e'', _, c2⟩ := hF j hi1 2 (by decide)
    obtain ⟨rfl, rfl⟩ : g = g' ∧ off = off' := by rw [e] at e'; injection e' with e'; injection e' with e1 e2; exact ⟨e1, e2⟩
    obtain ⟨rfl, rfl⟩ : g = g'' ∧ off = off'' := by rw [e] at e''; injection e'' with e''; injection e'' with e1 e2; exact ⟨e1, e2⟩
    exact ⟨g, off, e, hg, by rw [← h0]; exact c0, by rw [← h1]; exact c1, by rw [← h2]; exact c2⟩
  · obtain ⟨i, hi, rfl⟩ := List.mem_map.1 hx
    exact (hC i (List.mem_range.1 hi)).2.2.2
end
end Go.Proofs.Ytbfhbekocgdceaa
