/-
  Chapter 04: pairs that come in; the small walks of a heap of pairs. Conditions: none.
-/
import Derived.Test.YtbfhbekocgdceaaHpP
import Derived.Test.YtbfhbekocgdceaaLawI
import Derived.Test.YtbfhbekocgdceaaLawP
import Derived.Lib.SmallJoins
import Derived.ChangeArms
import Derived.ChangeSlices
import Derived.Laws.StructEq
namespace Go.Proofs.Ytbfhbekocgdceaa
open Go.Joins Go.ChangeShapes Go.WideShapes Go.ChangeAt Go.RowKit Go.Deep
/-- The address A leads to pairs. -/
def PrLies (w : World) (B : Nat) (A : Option Addr) (xs : List (Int × ByteArray)) : Prop := ∀ (j : Nat) (x : Int × ByteArray), xs[j]? = some x → ∃ g off, A = some ⟨g, off, none⟩ ∧ g < B ∧ w.cell? ⟨g, off + j * 2, none⟩ = some (.int .i8 x.1) ∧ w.cell? ⟨g, off + j * 2 + 1, none⟩ = some (.string x.2)
theorem PrLies.keep {w w' : World} {B : Nat} {A : Option Addr} {xs : List (Int × ByteArray)} (h : PrLies w B A xs) (hk : ∀ b o, b < B → w'.cell? ⟨b, o, none⟩ = w.cell? ⟨b, o, none⟩) : PrLies w' B A xs := fun j x hx => by
  obtain ⟨g, off, e, hg, h0, h1⟩ := h j x hx
  exact ⟨g, off, e, hg, (hk g _ hg).trans h0, (hk g _ hg).trans h1⟩
theorem PrLies.more {w : World} {B B' : Nat} {A : Option Addr} {xs : List (Int × ByteArray)} (h : PrLies w B A xs) (hB : B ≤ B') : PrLies w B' A xs := fun j x hx => by
  obtain ⟨g, off, e, hg, h0, h1⟩ := h j x hx
  exact ⟨g, off, e, by omega, h0, h1⟩
section
variable {H : Type} {enc : TypeId × Value → H} {W : World}
theorem slice_addr {P : Program} {r : Reach} {base : Nat} {t e : TypeId} {A : Option Addr} {n cap : Nat} (ht : P.underlying t = some (.slice e)) (h : Value.okWide P W r base t (.slice A n cap)) : (A = none ∧ cap = 0) ∨ ∃ g off, A = some ⟨g, off, none⟩ := by
  simp only [Value.okWide, ht, Cell.okWide] at h
  cases A with
  | none =>
    refine .inl ⟨rfl, ?_⟩
    cases n <;> cases cap <;> simp_all [Cell.ok]
  | some a =>
    obtain ⟨g, off, spot⟩ := a
    have : spot = none := by simp_all [Cell.ok, World.has]
    subst this
    exact .inr ⟨g, off, rfl⟩
set_option maxRecDepth 100000 in
theorem open_pairs {base : Nat} {v : Value} {d : DataW H} {p : List MemPlace} (hval : Value.okWide Try.prog W .any base 43 v) (h : DataW.Trod enc Try.prog W 0 (fun _ => true) true 43 v d p) (hlt : ∀ x ∈ p, x.block < W.heap.size) :
    ∃ (A : Option Addr) (xs : List (Int × ByteArray)) (cap : Nat), v = .slice A xs.length cap ∧ PrLies W W.heap.size A xs ∧ (∀ x ∈ xs, -128 ≤ x.1 ∧ x.1 ≤ 127) ∧ xs.length ≤ cap ∧ (xs.length = 0 ∨ ∃ elems spare, d = .slice elems spare ∧ elems.length = xs.length) := by
  obtain ⟨A, len, cap, V, rfl, hF, hl, _, hd, hV⟩ := open_structs Try.underlying43 Try.underlying49 (by kernel_rfl) (by kernel_rfl) hval h hlt
  have hq : ∀ i, i < len → ∃ c : Int × ByteArray, V i 0 = .int .i8 c.1 ∧ V i 1 = .string c.2 ∧ (-128 ≤ c.1 ∧ c.1 ≤ 127) := fun i hi => by
    obtain ⟨_, _, g0⟩ := hV i hi 0 _ rfl
    obtain ⟨_, _, g1⟩ := hV i hi 1 _ rfl
    obtain ⟨z0, c0, _, w0⟩ := DataW.trod_int Try.underlying47 g0
    obtain ⟨z1, c1, _⟩ := DataW.trod_string Try.underlying9 g1
    refine ⟨(z0, z1), (List.cons.inj c0).1, (List.cons.inj c1).1, bounds_of_i8 w0⟩
  obtain ⟨C, hC⟩ := choose_lt hq
  refine ⟨A, (List.range len).map C, cap, by simp, ?_, fun x hx => ?_, by simpa using hl, by simpa using hd⟩
  · intro j x hx
    rw [List.getElem?_map, Option.map_eq_some_iff] at hx
    obtain ⟨i, hi, rfl⟩ := hx
    obtain ⟨hi1, hi2⟩ := List.getElem?_eq_some_iff.1 hi
    rw [List.length_range] at hi1
    obtain rfl : j = i := by simpa using hi2
    obtain ⟨h0, h1, _⟩ := hC j hi1
    obtain ⟨g, off, e, hg, c0⟩ := hF j hi1 0 (by decide)
    obtain ⟨g', off', e', _, c1⟩ := hF j hi1 1 (by decide)
    obtain ⟨rfl, rfl⟩ : g = g' ∧ off = off' := by rw [e] at e'; injection e' with e'; injection e' with e1 e2; exact ⟨e1, e2⟩
    exact ⟨g, off, e, hg, by rw [← h0]; exact c0, by rw [← h1]; exact c1⟩
  · obtain ⟨i, hi, rfl⟩ := List.mem_map.1 hx
    exact (hC i (List.mem_range.1 hi)).2.2
end
theorem newHeapP_any (w : World) :
    Calls Try.prog 17 #[.func (.func 18) #[] #[]] w fun e w' => e = .returned (.pointer (some ⟨w.heap.size, 0, none⟩)) ∧ HeapP w' w.heap.size none 0 [] 0 ∧ Keeps (fun _ => False) w w' := by
  go_enter Try.func17, Try.ntmps17
  go_wp2_with fail
  go_ret
  exact ⟨rfl, ⟨Whole.made w _ _, World.ownsRow_nil _ _ _ _⟩, (Keeps.refl _ w).alloc _⟩
theorem lenP_any (p c : Nat) (came : Int) (A : Option Addr) (l : List EnP) (w : World) (h : HeapP w p A c l came) :
    Calls Try.prog 20 #[.pointer (some ⟨p, 0, none⟩)] w fun e w' => e = .returned (.int .i64 l.length) ∧ w = w' := by
  obtain ⟨a0, a1, a2, f0, f1, f2⟩ := three h.box
  clear h
  go_enter Try.func20, Try.ntmps20
  go_wp2_with (first | (go_at_call 67; refine (hnoneP_any p _ a0).mono ?_; rintro e w' ⟨rfl, rfl⟩))
  go_ret
  exact ⟨rfl, rfl⟩
theorem bytes_inj {a b : ByteArray} (h : a.toList = b.toList) : a = b := by
  rw [ByteArray.toList_eq, ByteArray.toList_eq] at h
  exact ByteArray.ext (Array.toList_inj.1 h)
theorem ne_pair (c c' : Int × ByteArray) (w : World) : (binOp .neq 49 (.agg #[.int .i8 c.1, .string c.2]) (.agg #[.int .i8 c'.1, .string c'.2])).run Try.prog w = .ok (.bool (!decide (c = c'))) w := by
  rw [run_neq_struct, run_equalIn_struct _ _ _ _ _ (by kernel_rfl) (by kernel_rfl)]
  have hu := Try.underlying49
  simp [Program.fieldsOf, hu, Op.eqFields, go_sem, Try.underlying47, Try.underlying9]
  clear hu
  by_cases h : c = c'
  · subst h; simp
  · rw [decide_eq_false h]
    repeat' split
    all_goals first
      | rfl
      | (refine absurd (?_ : c = c') h
         obtain ⟨a, b⟩ := c
         obtain ⟨a', b'⟩ := c'
         simp only [Prod.mk.injEq]
         exact ⟨by assumption, bytes_inj (by assumption)⟩)
end Go.Proofs.Ytbfhbekocgdceaa
