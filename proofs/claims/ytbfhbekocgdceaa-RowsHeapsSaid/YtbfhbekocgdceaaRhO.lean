/-
  Turns that come in, opened. Conditions: none.
-/
import Derived.Test.YtbfhbekocgdceaaLawP
import Derived.Test.YtbfhbekocgdceaaLawI
import Derived.Test.YtbfhbekocgdceaaKeep
import Derived.Lib.SmallJoins
import Derived.ChangeArms
import Derived.ChangeSlices
namespace Go.Proofs.Ytbfhbekocgdceaa
open Go.Joins Go.ChangeShapes Go.WideShapes Go.ChangeAt Go.RowKit Go.Deep
/-- The address A leads to things. -/
def ThLies (w : World) (B : Nat) (A : Option Addr) (xs : List (Int × Int)) : Prop := ∀ (k : Nat) (x : Int × Int), xs[k]? = some x → ∃ g off, A = some ⟨g, off, none⟩ ∧ g < B ∧ w.cell? ⟨g, off + k * 2, none⟩ = some (.int .i64 x.1) ∧ w.cell? ⟨g, off + k * 2 + 1, none⟩ = some (.int .i64 x.2)
/-- The address A leads to turns. -/
def TnLies (w : World) (B : Nat) (A : Option Addr) (turns : List (List (Int × Int) × Int)) : Prop := ∀ (j : Nat) (t : List (Int × Int) × Int), turns[j]? = some t → ∃ g off Aj cj, A = some ⟨g, off, none⟩ ∧ g < B ∧ w.cell? ⟨g, off + j * 2, none⟩ = some (.slice Aj t.1.length cj) ∧ w.cell? ⟨g, off + j * 2 + 1, none⟩ = some (.int .i64 t.2) ∧ ThLies w B Aj t.1
theorem ThLies.keep {w w' : World} {B : Nat} {A : Option Addr} {xs : List (Int × Int)} (h : ThLies w B A xs) (hk : ∀ b o, b < B → w'.cell? ⟨b, o, none⟩ = w.cell? ⟨b, o, none⟩) : ThLies w' B A xs := fun k x hx => by
  obtain ⟨g, off, e, hg, h0, h1⟩ := h k x hx
  exact ⟨g, off, e, hg, (hk g _ hg).trans h0, (hk g _ hg).trans h1⟩
theorem TnLies.keep {w w' : World} {B : Nat} {A : Option Addr} {turns : List (List (Int × Int) × Int)} (h : TnLies w B A turns) (hk : ∀ b o, b < B → w'.cell? ⟨b, o, none⟩ = w.cell? ⟨b, o, none⟩) : TnLies w' B A turns := fun j t ht => by
  obtain ⟨g, off, Aj, cj, e, hg, h0, h1, h2⟩ := h j t ht
  exact ⟨g, off, Aj, cj, e, hg, (hk g _ hg).trans h0, (hk g _ hg).trans h1, h2.keep hk⟩
theorem weightsAll_mem {H : Type} {P : Program} {e : TypeId} : ∀ {l : List (DataW H)} {d : DataW H}, d ∈ l → ∀ n ∈ d.weights P e, n ∈ DataW.weightsAll P e l
  | d' :: r, d, hd, n, hn => by
    simp only [DataW.weightsAll, List.mem_append]
    rcases List.mem_cons.1 hd with rfl | h
    · exact Or.inl hn
    · exact Or.inr (weightsAll_mem h n hn)
/-- Every weight of a datum is within reach. -/
def Light {H : Type} (P : Program) (t : TypeId) (d : DataW H) : Prop := ∀ n ∈ d.weights P t, n ≤ reachBytes
section
variable {H : Type} {P : Program}
theorem Light.arg {ts : List TypeId} {ds : List (DataW H)} (h : (DataW.weightsEach P ts ds).all (· ≤ reachBytes) = true) {j : Nat} {t : TypeId} {d : DataW H} (ht : ts[j]? = some t) (hd : ds[j]? = some d) : Light P t d := fun n hn => by
  have := List.all_eq_true.1 h _ (DataW.weights_mem_each ht hd n hn)
  simpa using this
theorem Light.field {t : TypeId} {fs : Array Field} {parts : List (DataW H)} (hu : P.underlying t = some (.struct fs)) (h : Light P t (.agg parts)) {j : Nat} {f : Field} {d : DataW H} (hf : fs[j]? = some f) (hd : parts[j]? = some d) : Light P f.type d := fun n hn => by
  refine h n ?_
  unfold DataW.weights
  rw [hu]
  exact DataW.weights_mem_each (j := j) (t := f.type) (by simp [hf]) hd n hn
theorem Light.size {t e : TypeId} {elems spare : List (DataW H)} (hu : P.underlying t = some (.slice e)) (h : Light P t (.slice elems spare)) : elems.length * P.bytesOf e ≤ reachBytes := by
  have h1 := h ((elems.length + spare.length) * P.bytesOf e) (by unfold DataW.weights; rw [hu]; simp)
  exact Nat.le_trans (Nat.mul_le_mul_right _ (Nat.le_add_right _ _)) h1
theorem Light.elem {t e : TypeId} {elems spare : List (DataW H)} (hu : P.underlying t = some (.slice e)) (h : Light P t (.slice elems spare)) {d : DataW H} (hd : d ∈ elems) : Light P e d := fun n hn => by
  refine h n ?_
  unfold DataW.weights
  rw [hu]
  simp only [List.mem_cons, List.mem_append]
  exact .inr (.inl (weightsAll_mem hd n hn))
end
section
variable {H : Type} {enc : TypeId × Value → H} {P : Program} {W : World}
/-- A slice of structs, read out of one cell. -/
theorem trod_structs {t e : TypeId} {fs : Array Field} {v : Value} {x : DataW H × List MemPlace} {n : Nat} (ht : P.underlying t = some (.slice e)) (he : P.underlying e = some (.struct fs)) (hone : oneCellFields P fs = true) (hC : P.cellsOf e = fs.size)
    (h : DataW.trod enc P W 0 (fun _ => true) true n t [v] = some x) (hlt : ∀ y ∈ x.2, y.block < W.heap.size) (hw : Light P t x.1) :
    ∃ (A : Option Addr) (len cap : Nat) (V : Nat → Nat → Value), v = .slice A len cap ∧ Fielded W W.heap.size A fs.size len V ∧ len ≤ cap ∧ cap ≤ maxLen ∧ len * P.bytesOf e ≤ reachBytes ∧
      ∀ i, i < len → ∀ (j : Nat) (f : Field), fs[j]? = some f → ∃ n x, DataW.trod enc P W 0 (fun _ => true) true n f.type [V i j] = some x := by
  rcases open_slice ht h with ⟨hcs, rfl⟩ | ⟨a, len, cap, m, n', D, Pl, hcs, _, hl, hm, hmm, rfl, hel⟩
  · obtain rfl : v = .slice none 0 0 := by simpa using hcs
    exact ⟨none, 0, 0, fun _ _ => undef, rfl, fun i hi => absurd hi (Nat.not_lt_zero _), Nat.le_refl _, Nat.zero_le _, by simp, fun i hi => absurd hi (Nat.not_lt_zero _)⟩
  · obtain rfl : v = .slice (some a) len cap := by simpa using hcs
    simp only [if_true] at hmm
    subst hmm
    rw [hC] at hel
    have hq : ∀ i, i < len → ∃ cs' : List Value, cs'.length = fs.size ∧ (∀ j, j < fs.size → W.cell? ((a.add (i * fs.size)).add j) = cs'[j]?) ∧ DataW.trod enc P W 0 (fun _ => true) true n' e cs' = some (D i, Pl i) := fun i hi => by
      obtain ⟨cs', h1, h2⟩ := hel i (by omega)
      obtain ⟨_, h3, h4⟩ := World.cells?_some h1
      exact ⟨cs', h3, h4, h2⟩
    obtain ⟨C, hCs⟩ := choose_lt hq
    refine ⟨some a, len, m, fun i j => (C i).getD j undef, rfl, ?_, hl, hm, by simpa using hw.size ht, ?_⟩
    · intro i hi j hj
      obtain ⟨h3, h4, _⟩ := hCs i hi
      have h5 := h4 j hj
      rw [List.getElem?_eq_getElem (by omega)] at h5
      obtain ⟨b, off, spot⟩ := a
      have hspot : spot = none := by
        obtain ⟨h6, h7, _⟩ := hCs 0 (by omega)
        have h8 := h7 0 (by omega)
        rw [List.getElem?_eq_getElem (by omega)] at h8
        simpa [Addr.add] using World.cell?_spot h8
      subst hspot
      rw [add_plain, add_plain] at h5
      refine ⟨b, off, rfl, ?_, ?_⟩
      · have hn : 0 < m * fs.size := by
          have h7 : 0 < m := by omega
          have h8 : 0 < fs.size := by omega
          exact Nat.mul_pos h7 h8
        exact hlt (.cell b off) (List.mem_append.2 (.inl (by rw [hC]; exact MemPlace.mem_row.2 ⟨0, hn, by simp⟩)))
      · rw [h5]; simp [List.getD, List.getElem?_eq_getElem (show j < (C i).length by omega)]
    · intro i hi j f hf'
      obtain ⟨h3, _, h5⟩ := hCs i hi
      obtain ⟨xs, k, _, _, _, hxl, hff⟩ := DataW.trod_struct he h5
      have hlt' : j < fs.size := (Array.getElem?_eq_some_iff.1 hf').1
      obtain ⟨ho, hc1⟩ := hone_of hone j f hf'
      have g := hff j f hf'
      rw [ho, hc1, take1_drop (C i) j undef (by omega), List.getElem?_eq_getElem (by omega)] at g
      exact ⟨k, _, g⟩
set_option maxRecDepth 100000 in
/-- A list of things, read out of one cell. -/
theorem trod_things {v : Value} {x : DataW H × List MemPlace} {n : Nat} (h : DataW.trod enc Try.prog W 0 (fun _ => true) true n 24 [v] = some x) (hlt : ∀ y ∈ x.2, y.block < W.heap.size) (hw : Light Try.prog 24 x.1) :
    ∃ (A : Option Addr) (xs : List (Int × Int)) (cap : Nat), v = .slice A xs.length cap ∧ ThLies W W.heap.size A xs ∧ xs.length ≤ 1000000000000000 := by
  obtain ⟨A, len, cap, V, rfl, hF, hl, _, hby, hV⟩ := trod_structs Try.underlying24 Try.underlying30 (by kernel_rfl) (by kernel_rfl) h hlt hw
  have hq : ∀ i, i < len → ∃ c : Int × Int, V i 0 = .int .i64 c.1 ∧ V i 1 = .int .i64 c.2 := fun i hi => by
    obtain ⟨_, _, g0⟩ := hV i hi 0 _ rfl
    obtain ⟨_, _, g1⟩ := hV i hi 1 _ rfl
    obtain ⟨z0, c0, _, _⟩ := DataW.trod_int Try.underlying3 g0
    obtain ⟨z1, c1, _, _⟩ := DataW.trod_int Try.underlying3 g1
    exact ⟨(z0, z1), (List.cons.inj c0).1, (List.cons.inj c1).1⟩
  obtain ⟨C, hC⟩ := choose_lt hq
  rw [show Try.prog.bytesOf 30 = 16 by kernel_rfl] at hby
  simp only [reachBytes] at hby
  refine ⟨A, (List.range len).map C, cap, by simp, ?_, by simp; omega⟩
  intro j x hx
  rw [List.getElem?_map, Option.map_eq_some_iff] at hx
  obtain ⟨i, hi, rfl⟩ := hx
  obtain ⟨hi1, hi2⟩ := List.getElem?_eq_some_iff.1 hi
  rw [List.length_range] at hi1
  obtain rfl : j = i := by simpa using hi2
  obtain ⟨h0, h1⟩ := hC j hi1
  obtain ⟨g, off, e, hg, c0⟩ := hF j hi1 0 (by decide)
  obtain ⟨g', off', e', _, c1⟩ := hF j hi1 1 (by decide)
  obtain ⟨rfl, rfl⟩ : g = g' ∧ off = off' := by rw [e] at e'; injection e' with e'; injection e' with e1 e2; exact ⟨e1, e2⟩
  exact ⟨g, off, e, hg, by rw [← h0]; exact c0, by rw [← h1]; exact c1⟩
set_option maxRecDepth 100000 in
/-- A turn, read out of its two cells. -/
theorem trod_turn {cs : List Value} {x : DataW H × List MemPlace} {n : Nat} (h : DataW.trod enc Try.prog W 0 (fun _ => true) true n 26 cs = some x) (hlt : ∀ y ∈ x.2, y.block < W.heap.size) (hw : Light Try.prog 26 x.1) :
    ∃ (t : List (Int × Int) × Int) (A : Option Addr) (cap : Nat), cs = [.slice A t.1.length cap, .int .i64 t.2] ∧ ThLies W W.heap.size A t.1 ∧ t.1.length ≤ 1000000000000000 ∧ -9223372036854775808 ≤ t.2 ∧ t.2 ≤ 9223372036854775807 := by
  obtain ⟨xs, k, _, rfl, hcl, hxl, hff⟩ := DataW.trod_struct Try.underlying26 h
  have hc2 : Try.prog.cellsOf 26 = 2 := by kernel_rfl
  rw [hc2] at hcl
  obtain ⟨u0, u1, rfl⟩ : ∃ a b, cs = [a, b] := by
    match cs, hcl with
    | [a, b], _ => exact ⟨a, b, rfl⟩
  have hx2 : xs.length = 2 := hxl
  have g0 := hff 0 _ rfl
  have g1 := hff 1 _ rfl
  have hce0 : Try.prog.cellsOf 24 = 1 := by kernel_rfl
  have hce1 : Try.prog.cellsOf 3 = 1 := by kernel_rfl
  rw [List.getElem?_eq_getElem (by omega)] at g0 g1
  have g0 : DataW.trod enc Try.prog W 0 (fun _ => true) true k 24 [u0] = some xs[0] := g0
  have g1 : DataW.trod enc Try.prog W 0 (fun _ => true) true k 3 [u1] = some xs[1] := g1
  obtain ⟨A, ts, cap, rfl, l, b⟩ := trod_things g0 (fun y hy => hlt y (List.mem_flatMap.2 ⟨xs[0], List.getElem_mem _, hy⟩)) (hw.field Try.underlying26 (j := 0) rfl (by simp [hx2]))
  obtain ⟨z1, c1, _, w1⟩ := DataW.trod_int Try.underlying3 g1
  obtain rfl := (List.cons.inj c1).1
  exact ⟨(ts, z1), A, cap, rfl, l, b, bounds_of_i64 w1⟩
set_option maxRecDepth 100000 in
/-- A list of turns that comes in. -/
theorem open_turns {base : Nat} {v : Value} {d : DataW H} {p : List MemPlace} (hval : Value.okWide Try.prog W .any base 22 v) (h : DataW.Trod enc Try.prog W 0 (fun _ => true) true 22 v d p) (hlt : ∀ x ∈ p, x.block < W.heap.size) (hw : Light Try.prog 22 d) :
    ∃ (A : Option Addr) (turns : List (List (Int × Int) × Int)) (cap : Nat), v = .slice A turns.length cap ∧ TnLies W W.heap.size A turns ∧ turns.length ≤ 1000000000000000 ∧ ∀ t ∈ turns, t.1.length ≤ 1000000000000000 ∧ -9223372036854775808 ≤ t.2 ∧ t.2 ≤ 9223372036854775807 := by
  obtain ⟨a0, len0, cap0, rfl⟩ := okWide_slice Try.underlying22 hval
  obtain ⟨fuel, hf⟩ := h
  rcases open_slice Try.underlying22 hf with ⟨hcs, hx⟩ | ⟨a, len, cap, m, n', D, Pl, hcs, _, hl, hm, hmm, hx, hel⟩
  · simp [Value.cells] at hcs
    obtain ⟨rfl, rfl, rfl⟩ := hcs
    exact ⟨none, [], 0, rfl, fun i d h => by simp at h, by simp, by simp⟩
  · simp [Value.cells] at hcs
    obtain ⟨rfl, rfl, rfl⟩ := hcs
    simp only [Prod.mk.injEq] at hx
    obtain ⟨rfl, rfl⟩ := hx
    simp only [if_true] at hmm
    subst hmm
    have hce : Try.prog.cellsOf 26 = 2 := by kernel_rfl
    rw [hce] at hel
    have hq : ∀ i, i < len0 → ∃ t : List (Int × Int) × Int, (∃ Ai ci, W.cell? (a.add (i * 2)) = some (.slice Ai t.1.length ci) ∧ W.cell? ((a.add (i * 2)).add 1) = some (.int .i64 t.2) ∧ ThLies W W.heap.size Ai t.1) ∧ t.1.length ≤ 1000000000000000 ∧ -9223372036854775808 ≤ t.2 ∧ t.2 ≤ 9223372036854775807 := fun i hi' => by
      obtain ⟨cs', h1, h2⟩ := hel i (by omega)
      obtain ⟨_, h3, h4⟩ := World.cells?_some h1
      obtain ⟨t, Ai, ci, rfl, l, b, c⟩ := trod_turn h2 (fun y hy => hlt y (List.mem_append.2 (.inr (List.mem_flatMap.2 ⟨i, List.mem_range.2 (by omega), hy⟩)))) (hw.elem Try.underlying22 (List.mem_map.2 ⟨i, List.mem_range.2 hi', rfl⟩))
      have h5 := h4 0 (by omega)
      have h6 := h4 1 (by omega)
      exact ⟨t, ⟨Ai, ci, by simpa [Addr.add] using h5, by simpa using h6, l⟩, b, c⟩
    obtain ⟨C, hCs⟩ := choose_lt hq
    have hby := hw.size Try.underlying22
    rw [show Try.prog.bytesOf 26 = 32 by kernel_rfl] at hby
    simp only [reachBytes, List.length_map, List.length_range] at hby
    refine ⟨some a, (List.range len0).map C, m, by simp, ?_, by simp; omega, ?_⟩
    · intro i r hr
      have hli : i < len0 := by
        rcases Nat.lt_or_ge i len0 with h | h
        · exact h
        · rw [List.getElem?_eq_none (by simp; omega)] at hr; cases hr
      obtain rfl : C i = r := by simpa [List.getElem?_map, List.getElem?_range hli] using hr
      obtain ⟨⟨Ai, ci, h5, h6, l⟩, _⟩ := hCs i hli
      obtain ⟨b, off, spot⟩ := a
      have hspot : spot = none := by
        obtain ⟨⟨_, _, h7, _⟩, _⟩ := hCs 0 (by omega)
        simpa [Addr.add] using World.cell?_spot h7
      subst hspot
      rw [add_plain] at h5 h6
      rw [add_plain] at h6
      exact ⟨b, off, Ai, ci, rfl, hlt (.cell b off) (List.mem_append.2 (.inl (by rw [hce]; exact MemPlace.mem_row.2 ⟨0, by omega, by simp⟩))), h5, h6, l⟩
    · intro r hr
      obtain ⟨i, hi', rfl⟩ := List.mem_map.1 hr
      exact (hCs i (List.mem_range.1 hi')).2
end
end Go.Proofs.Ytbfhbekocgdceaa
