/-
  A state that comes in, opened. Conditions: none.
-/
import Derived.Test.YthmfbcfbcookiaaGreatDoorStB
import Derived.Test.YthmfbcfbcookiaaGreatDoorStMf
import Derived.Lib.SmallJoins
import Derived.ChangeArms
import Derived.ChangeSlices
namespace Go.Proofs.YthmfbcfbcookiaaGreatDoor
open Go.Joins Go.ChangeShapes Go.WideShapes Go.ChangeAt Go.RowKit Go.Deep
theorem weightsAll_mem {H : Type} {P : Program} {e : TypeId} : ∀ {l : List (DataW H)} {d : DataW H}, d ∈ l → ∀ n ∈ d.weights P e, n ∈ DataW.weightsAll P e l
  | d' :: r, d, hd, n, hn => by
    simp only [DataW.weightsAll, List.mem_append]
    rcases List.mem_cons.1 hd with rfl | h
    · exact Or.inl hn
    · exact Or.inr (weightsAll_mem h n hn)
/-- Every weight of a datum is within reach. -/
def Light {H : Type} (P : Program) (t : TypeId) (d : DataW H) : Prop := ∀ n ∈ d.weights P t, n ≤ reachBytes
section
variable {H : Type} {P : Program}
theorem Light.arg {ts : List TypeId} {ds : List (DataW H)} (h : (DataW.weightsEach P ts ds).all (· ≤ reachBytes) = true) {j : Nat} {t : TypeId} {d : DataW H} (ht : ts[j]? = some t) (hd : ds[j]? = some d) : Light P t d := fun n hn => by
  have := List.all_eq_true.1 h _ (DataW.weights_mem_each ht hd n hn)
  simpa using this
theorem Light.field {t : TypeId} {fs : Array Field} {parts : List (DataW H)} (hu : P.underlying t = some (.struct fs)) (h : Light P t (.agg parts)) {j : Nat} {f : Field} {d : DataW H} (hf : fs[j]? = some f) (hd : parts[j]? = some d) : Light P f.type d := fun n hn => by
  refine h n ?_
  unfold DataW.weights
  rw [hu]
  exact DataW.weights_mem_each (j := j) (t := f.type) (by simp [hf]) hd n hn
theorem Light.size {t e : TypeId} {elems spare : List (DataW H)} (hu : P.underlying t = some (.slice e)) (h : Light P t (.slice elems spare)) : elems.length * P.bytesOf e ≤ reachBytes := by
  have h1 := h ((elems.length + spare.length) * P.bytesOf e) (by unfold DataW.weights; rw [hu]; simp)
  exact Nat.le_trans (Nat.mul_le_mul_right _ (Nat.le_add_right _ _)) h1
theorem Light.elem {t e : TypeId} {elems spare : List (DataW H)} (hu : P.underlying t = some (.slice e)) (h : Light P t (.slice elems spare)) {d : DataW H} (hd : d ∈ elems) : Light P e d := fun n hn => by
  refine h n ?_
  unfold DataW.weights
  rw [hu]
  simp only [List.mem_cons, List.mem_append]
  exact .inr (.inl (weightsAll_mem hd n hn))
end
section
variable {H : Type} {enc : TypeId × Value → H} {P : Program} {W : World}
/-- A slice of structs, read out of one cell. -/
theorem trod_structs {t e : TypeId} {fs : Array Field} {v : Value} {x : DataW H × List MemPlace} {n : Nat} (ht : P.underlying t = some (.slice e)) (he : P.underlying e = some (.struct fs)) (hone : oneCellFields P fs = true) (hC : P.cellsOf e = fs.size)
    (h : DataW.trod enc P W 0 (fun _ => true) true n t [v] = some x) (hlt : ∀ y ∈ x.2, y.block < W.heap.size) (hw : Light P t x.1) :
    ∃ (A : Option Addr) (len cap : Nat) (V : Nat → Nat → Value), v = .slice A len cap ∧ Fielded W W.heap.size A fs.size len V ∧ len ≤ cap ∧ cap ≤ maxLen ∧ len * P.bytesOf e ≤ reachBytes ∧
      ∀ i, i < len → ∀ (j : Nat) (f : Field), fs[j]? = some f → ∃ n x, DataW.trod enc P W 0 (fun _ => true) true n f.type [V i j] = some x := by
  rcases open_slice ht h with ⟨hcs, rfl⟩ | ⟨a, len, cap, m, n', D, Pl, hcs, _, hl, hm, hmm, rfl, hel⟩
  · obtain rfl : v = .slice none 0 0 := by simpa using hcs
    exact ⟨none, 0, 0, fun _ _ => undef, rfl, fun i hi => absurd hi (Nat.not_lt_zero _), Nat.le_refl _, Nat.zero_le _, by simp, fun i hi => absurd hi (Nat.not_lt_zero _)⟩
  · obtain rfl : v = .slice (some a) len cap := by simpa using hcs
    simp only [if_true] at hmm
    subst hmm
    rw [hC] at hel
    have hq : ∀ i, i < len → ∃ cs' : List Value, cs'.length = fs.size ∧ (∀ j, j < fs.size → W.cell? ((a.add (i * fs.size)).add j) = cs'[j]?) ∧ DataW.trod enc P W 0 (fun _ => true) true n' e cs' = some (D i, Pl i) := fun i hi => by
      obtain ⟨cs', h1, h2⟩ := hel i (by omega)
      obtain ⟨_, h3, h4⟩ := World.cells?_some h1
      exact ⟨cs', h3, h4, h2⟩
    obtain ⟨C, hCs⟩ := choose_lt hq
    refine ⟨some a, len, m, fun i j => (C i).getD j undef, rfl, ?_, hl, hm, by simpa using hw.size ht, ?_⟩
    · intro i hi j hj
      obtain ⟨h3, h4, _⟩ := hCs i hi
      have h5 := h4 j hj
      rw [List.getElem?_eq_getElem (by omega)] at h5
      obtain ⟨b, off, spot⟩ := a
      have hspot : spot = none := by
        obtain ⟨h6, h7, _⟩ := hCs 0 (by omega)
        have h8 := h7 0 (by omega)
        rw [List.getElem?_eq_getElem (by omega)] at h8
        simpa [Addr.add] using World.cell?_spot h8
      subst hspot
      rw [add_plain, add_plain] at h5
      refine ⟨b, off, rfl, ?_, ?_⟩
      · have hn : 0 < m * fs.size := by
          have h7 : 0 < m := by omega
          have h8 : 0 < fs.size := by omega
          exact Nat.mul_pos h7 h8
        exact hlt (.cell b off) (List.mem_append.2 (.inl (by rw [hC]; exact MemPlace.mem_row.2 ⟨0, hn, by simp⟩)))
      · rw [h5]; simp [List.getD, List.getElem?_eq_getElem (show j < (C i).length by omega)]
    · intro i hi j f hf'
      obtain ⟨h3, _, h5⟩ := hCs i hi
      obtain ⟨xs, k, _, _, _, hxl, hff⟩ := DataW.trod_struct he h5
      have hlt' : j < fs.size := (Array.getElem?_eq_some_iff.1 hf').1
      obtain ⟨ho, hc1⟩ := hone_of hone j f hf'
      have g := hff j f hf'
      rw [ho, hc1, take1_drop (C i) j undef (by omega), List.getElem?_eq_getElem (by omega)] at g
      exact ⟨k, _, g⟩
/-- The same, element by element. -/
theorem Fielded.flies {α : Type} {f : α → List Value} {k B len : Nat} {A : Option Addr} {V : Nat → Nat → Value} {C : Nat → α} (h : Fielded W B A k len V) (hk : 0 < k) (hf : ∀ i, i < len → ∀ j, j < k → (f (C i))[j]? = some (V i j)) : FLies f k W B A ((List.range len).map C) := fun i c hi => by
  have hlt : i < len := by
    rcases Nat.lt_or_ge i len with h | h
    · exact h
    · rw [List.getElem?_eq_none (by simp; omega)] at hi; cases hi
  obtain rfl : C i = c := by simpa [List.getElem?_map, List.getElem?_range hlt] using hi
  obtain ⟨g, off, hA, hg, _⟩ := h i hlt 0 hk
  refine ⟨g, off, hA, hg, fun j hj => ?_⟩
  obtain ⟨g', off', hA', _, hc⟩ := h i hlt j hj
  rw [hA] at hA'
  simp only [Option.some.injEq, Addr.mk.injEq] at hA'
  obtain ⟨rfl, rfl, _⟩ := hA'
  rw [hc, hf i hlt j hj]
/-- A slice of numbers, read out of one cell. -/
theorem trod_list {t e : TypeId} {k : IntKind} {v : Value} {x : DataW H × List MemPlace} {n : Nat} (ht : P.underlying t = some (.slice e)) (he : P.underlying e = some (.int k)) (hc : P.cellsOf e = 1)
    (h : DataW.trod enc P W 0 (fun _ => true) true n t [v] = some x) (hlt : ∀ y ∈ x.2, y.block < W.heap.size) (hw : Light P t x.1) :
    ∃ (A : Option Addr) (zs : List Int) (cap : Nat), v = .slice A zs.length cap ∧ Lies W W.heap.size A (zs.map (Value.int k)) ∧ (∀ z ∈ zs, (Lit.int k z).wf = true) ∧ zs.length ≤ cap ∧ cap ≤ maxLen ∧ zs.length * P.bytesOf e ≤ reachBytes := by
  rcases open_ints ht he hc h with ⟨hcs, rfl⟩ | ⟨a, len, cap, zs, hcs, _, hl, hm, hz, rfl, hcell, hwz⟩
  · obtain rfl : v = .slice none 0 0 := by simpa using hcs
    exact ⟨none, [], 0, rfl, Lies.nil, by simp, Nat.le_refl _, Nat.zero_le _, by simp⟩
  · obtain rfl : v = .slice (some a) len cap := by simpa using hcs
    simp only [if_true] at hz
    have hlen : (zs.take len).length = len := by rw [List.length_take]; omega
    refine ⟨some a, zs.take len, cap, by rw [hlen], ?_, fun z hz' => hwz z (List.mem_of_mem_take hz'), by omega, hm, by simpa [lits] using hw.size ht⟩
    intro k' u hu
    have hk : k' < len := by
      rcases Nat.lt_or_ge k' len with h | h
      · exact h
      · rw [List.getElem?_eq_none (by simp; omega)] at hu; cases hu
    obtain ⟨b, off, spot⟩ := a
    have hcc := hcell k' (by omega)
    have hspot : spot = none := by simpa [Addr.add] using World.cell?_spot (hcell 0 (by omega))
    subst hspot
    rw [add_plain] at hcc
    refine ⟨b, off, rfl, hlt (.cell b off) (MemPlace.mem_row.2 ⟨0, by omega, by simp⟩), ?_⟩
    rw [hcc, ← hu]
    have h1 : k' < zs.length := by omega
    simp [hk, h1]
/-- A slice of slices of int, read out of one cell. -/
theorem trod_rows {t e c : TypeId} {v : Value} {x : DataW H × List MemPlace} {n : Nat} (ht : P.underlying t = some (.slice e)) (he : P.underlying e = some (.slice c)) (hi : P.underlying c = some (.int .i64)) (hc : P.cellsOf c = 1) (hce : P.cellsOf e = 1)
    (h : DataW.trod enc P W 0 (fun _ => true) true n t [v] = some x) (hlt : ∀ y ∈ x.2, y.block < W.heap.size) (hw : Light P t x.1) :
    ∃ (A : Option Addr) (rows : List (List Int)) (cap : Nat), v = .slice A rows.length cap ∧ RowsLie W W.heap.size A rows ∧ (∀ r ∈ rows, ∀ z ∈ r, (Lit.int .i64 z).wf = true) ∧ rows.length ≤ cap ∧ cap ≤ maxLen ∧ rows.length * P.bytesOf e ≤ reachBytes ∧ ∀ r ∈ rows, r.length * P.bytesOf c ≤ reachBytes := by
  rcases open_slice ht h with ⟨hcs, rfl⟩ | ⟨a, len, cap, m, n', D, Pl, hcs, _, hl, hm, hmm, rfl, hel⟩
  · obtain rfl : v = .slice none 0 0 := by simpa using hcs
    exact ⟨none, [], 0, rfl, RowsLie.nil, by simp, Nat.le_refl _, Nat.zero_le _, by simp, by simp⟩
  · obtain rfl : v = .slice (some a) len cap := by simpa using hcs
    simp only [if_true] at hmm
    subst hmm
    rw [hce] at hel
    simp only [Nat.mul_one] at hel
    have hq : ∀ i, i < len → ∃ r : List Int, (∃ Ai ci, W.cell? (a.add i) = some (.slice Ai r.length ci) ∧ Lies W W.heap.size Ai (r.map (Value.int .i64))) ∧ (∀ z ∈ r, (Lit.int .i64 z).wf = true) ∧ r.length * P.bytesOf c ≤ reachBytes := fun i hi' => by
      obtain ⟨cs', h1, h2⟩ := hel i (by omega)
      obtain ⟨_, h3, h4⟩ := World.cells?_some h1
      obtain ⟨u, rfl⟩ := List.length_eq_one_iff.1 h3
      obtain ⟨Ai, zs, ci, rfl, l, wz, _, _, by'⟩ := trod_list he hi hc h2 (fun y hy => hlt y (List.mem_append.2 (.inr (List.mem_flatMap.2 ⟨i, List.mem_range.2 (by omega), hy⟩)))) (hw.elem ht (List.mem_map.2 ⟨i, List.mem_range.2 hi', rfl⟩))
      have h5 := h4 0 (by omega)
      exact ⟨zs, ⟨Ai, ci, by simpa [Addr.add] using h5, l⟩, wz, by'⟩
    obtain ⟨C, hCs⟩ := choose_lt hq
    refine ⟨some a, (List.range len).map C, m, by simp, ?_, ?_, by simpa using hl, hm, by simpa using hw.size ht, ?_⟩
    · intro i r hr
      have hli : i < len := by
        rcases Nat.lt_or_ge i len with h | h
        · exact h
        · rw [List.getElem?_eq_none (by simp; omega)] at hr; cases hr
      obtain rfl : C i = r := by simpa [List.getElem?_map, List.getElem?_range hli] using hr
      obtain ⟨⟨Ai, ci, h5, l⟩, _⟩ := hCs i hli
      obtain ⟨b, off, spot⟩ := a
      have hspot : spot = none := by
        obtain ⟨⟨_, _, h6, _⟩, _⟩ := hCs 0 (by omega)
        simpa [Addr.add] using World.cell?_spot h6
      subst hspot
      rw [add_plain] at h5
      exact ⟨b, off, Ai, ci, rfl, hlt (.cell b off) (List.mem_append.2 (.inl (by rw [hce]; exact MemPlace.mem_row.2 ⟨0, by omega, by simp⟩))), h5, l⟩
    · intro r hr
      obtain ⟨i, hi', rfl⟩ := List.mem_map.1 hr
      exact (hCs i (List.mem_range.1 hi')).2.1
    · intro r hr
      obtain ⟨i, hi', rfl⟩ := List.mem_map.1 hr
      exact (hCs i (List.mem_range.1 hi')).2.2
theorem open_agg7 {r : Reach} {b0 base : Nat} {spare : Nat → Bool} {held : Bool} {t : TypeId} {f0 f1 f2 f3 f4 f5 f6 : Field} {v : Value} {d : DataW H} {p : List MemPlace} (hs : P.underlying t = some (.struct #[f0, f1, f2, f3, f4, f5, f6])) (hone : oneCellFields P #[f0, f1, f2, f3, f4, f5, f6] = true) (hC : P.cellsOf t = 7)
    (hv : Value.okWide P W r b0 t v) (h : DataW.Trod enc P W base spare held t v d p) :
    ∃ (v0 v1 v2 v3 v4 v5 v6 : Value) (y0 y1 y2 y3 y4 y5 y6 : DataW H × List MemPlace) (n : Nat), v = .agg #[v0, v1, v2, v3, v4, v5, v6] ∧ d = .agg [y0.1, y1.1, y2.1, y3.1, y4.1, y5.1, y6.1] ∧ p = y0.2 ++ (y1.2 ++ (y2.2 ++ (y3.2 ++ (y4.2 ++ (y5.2 ++ y6.2))))) ∧
      DataW.trod enc P W base spare held n f0.type [v0] = some y0 ∧ DataW.trod enc P W base spare held n f1.type [v1] = some y1 ∧ DataW.trod enc P W base spare held n f2.type [v2] = some y2 ∧ DataW.trod enc P W base spare held n f3.type [v3] = some y3 ∧ DataW.trod enc P W base spare held n f4.type [v4] = some y4 ∧ DataW.trod enc P W base spare held n f5.type [v5] = some y5 ∧ DataW.trod enc P W base spare held n f6.type [v6] = some y6 := by
  obtain ⟨cs, rfl, hsz⟩ := okWide_struct hs hv
  obtain ⟨l⟩ := cs
  match l, hsz.trans hC with
  | [c0, c1, c2, c3, c4, c5, c6], _ =>
    obtain ⟨fuel, hf⟩ := h
    obtain ⟨xs, n, _, hx, _, hlen, hg⟩ := DataW.trod_struct hs hf
    obtain ⟨o0, k0⟩ := hone_of hone 0 f0 rfl
    obtain ⟨o1, k1⟩ := hone_of hone 1 f1 rfl
    obtain ⟨o2, k2⟩ := hone_of hone 2 f2 rfl
    obtain ⟨o3, k3⟩ := hone_of hone 3 f3 rfl
    obtain ⟨o4, k4⟩ := hone_of hone 4 f4 rfl
    obtain ⟨o5, k5⟩ := hone_of hone 5 f5 rfl
    obtain ⟨o6, k6⟩ := hone_of hone 6 f6 rfl
    match xs, hlen with
    | [y0, y1, y2, y3, y4, y5, y6], _ =>
      simp only [Prod.mk.injEq] at hx
      exact ⟨c0, c1, c2, c3, c4, c5, c6, y0, y1, y2, y3, y4, y5, y6, n, rfl, by simpa using hx.1, by simpa using hx.2, by simpa [Value.cells, o0, k0] using hg 0 f0 rfl, by simpa [Value.cells, o1, k1] using hg 1 f1 rfl, by simpa [Value.cells, o2, k2] using hg 2 f2 rfl, by simpa [Value.cells, o3, k3] using hg 3 f3 rfl, by simpa [Value.cells, o4, k4] using hg 4 f4 rfl, by simpa [Value.cells, o5, k5] using hg 5 f5 rfl, by simpa [Value.cells, o6, k6] using hg 6 f6 rfl⟩
end
/-- The numbers of a state are such as its kinds hold. -/
structure StWf (s : St) : Prop where
  players : ∀ p ∈ s.players, (Lit.int .i32 p.life).wf = true ∧ (Lit.int .i32 p.energy).wf = true
  cards : ∀ c ∈ s.cards, (Lit.int .i64 c.kind).wf = true ∧ (Lit.int .i64 c.owner).wf = true ∧ (Lit.int .i32 c.power).wf = true ∧ (Lit.int .i32 c.health).wf = true ∧ (Lit.int .i32 c.damage).wf = true ∧ (Lit.int .i32 c.marks).wf = true
  zones : ∀ r ∈ s.zones, ∀ z ∈ r, (Lit.int .i64 z).wf = true
  turn : (Lit.int .i32 s.turn).wf = true
  whose : (Lit.int .i64 s.whose).wf = true
  fin : (Lit.int .i8 s.fin).wf = true
  winner : (Lit.int .i64 s.winner).wf = true
section
variable {H : Type} {enc : TypeId × Value → H} {W : World}
instance : Inhabited Pl := ⟨⟨0, 0, false⟩⟩
instance : Inhabited Cd := ⟨⟨0, 0, 0, 0, 0, 0⟩⟩
/-- A list of players, read out of one cell. -/
theorem trod_players {v : Value} {x : DataW H × List MemPlace} {n : Nat} (h : DataW.trod enc Tryz.prog W 0 (fun _ => true) true n 22 [v] = some x) (hlt : ∀ y ∈ x.2, y.block < W.heap.size) (hw : Light Tryz.prog 22 x.1) :
    ∃ (A : Option Addr) (xs : List Pl) (cap : Nat), v = .slice A xs.length cap ∧ PlLies W W.heap.size A xs ∧ (∀ p ∈ xs, (Lit.int .i32 p.life).wf = true ∧ (Lit.int .i32 p.energy).wf = true) ∧ xs.length ≤ cap ∧ xs.length ≤ 1000000000000000 := by
  obtain ⟨A, len, cap, V, rfl, hF, hl, _, hb, hV⟩ := trod_structs Tryz.underlying22 Tryz.underlying44 (by kernel_rfl) (by kernel_rfl) h hlt hw
  have hq : ∀ i, i < len → ∃ c : Pl, (∀ j, j < 3 → c.cells[j]? = some (V i j)) ∧ (Lit.int .i32 c.life).wf = true ∧ (Lit.int .i32 c.energy).wf = true := fun i hi => by
    obtain ⟨_, _, g0⟩ := hV i hi 0 _ rfl
    obtain ⟨_, _, g1⟩ := hV i hi 1 _ rfl
    obtain ⟨_, _, g2⟩ := hV i hi 2 _ rfl
    obtain ⟨z0, c0, _, w0⟩ := DataW.trod_int Tryz.underlying21 g0
    obtain ⟨z1, c1, _, w1⟩ := DataW.trod_int Tryz.underlying21 g1
    obtain ⟨z2, c2, _⟩ := DataW.trod_bool Tryz.underlying4 g2
    refine ⟨⟨z0, z1, z2⟩, fun j hj => ?_, w0, w1⟩
    match j, hj with
    | 0, _ => simpa [Pl.cells] using (List.cons.inj c0).1.symm
    | 1, _ => simpa [Pl.cells] using (List.cons.inj c1).1.symm
    | 2, _ => simpa [Pl.cells] using (List.cons.inj c2).1.symm
  obtain ⟨C, hC⟩ := choose_lt hq
  refine ⟨A, (List.range len).map C, cap, by simp, Fielded.flies hF (by decide) fun i hi => (hC i hi).1, fun p hp => ?_, by simpa using hl, ?_⟩
  · obtain ⟨i, hi', rfl⟩ := List.mem_map.1 hp
    exact (hC i (List.mem_range.1 hi')).2
  · rw [show Tryz.prog.bytesOf 44 = 12 by kernel_rfl] at hb
    simp only [reachBytes] at hb
    simp; omega
/-- A list of cards, read out of one cell. -/
theorem trod_cards {v : Value} {x : DataW H × List MemPlace} {n : Nat} (h : DataW.trod enc Tryz.prog W 0 (fun _ => true) true n 23 [v] = some x) (hlt : ∀ y ∈ x.2, y.block < W.heap.size) (hw : Light Tryz.prog 23 x.1) :
    ∃ (A : Option Addr) (xs : List Cd) (cap : Nat), v = .slice A xs.length cap ∧ CdLies W W.heap.size A xs ∧ (∀ c ∈ xs, (Lit.int .i64 c.kind).wf = true ∧ (Lit.int .i64 c.owner).wf = true ∧ (Lit.int .i32 c.power).wf = true ∧ (Lit.int .i32 c.health).wf = true ∧ (Lit.int .i32 c.damage).wf = true ∧ (Lit.int .i32 c.marks).wf = true) ∧ xs.length ≤ cap ∧ xs.length ≤ 1000000000000000 := by
  obtain ⟨A, len, cap, V, rfl, hF, hl, _, hb, hV⟩ := trod_structs Tryz.underlying23 Tryz.underlying42 (by kernel_rfl) (by kernel_rfl) h hlt hw
  have hq : ∀ i, i < len → ∃ c : Cd, (∀ j, j < 6 → c.cells[j]? = some (V i j)) ∧ (Lit.int .i64 c.kind).wf = true ∧ (Lit.int .i64 c.owner).wf = true ∧ (Lit.int .i32 c.power).wf = true ∧ (Lit.int .i32 c.health).wf = true ∧ (Lit.int .i32 c.damage).wf = true ∧ (Lit.int .i32 c.marks).wf = true := fun i hi => by
    obtain ⟨_, _, g0⟩ := hV i hi 0 _ rfl
    obtain ⟨_, _, g1⟩ := hV i hi 1 _ rfl
    obtain ⟨_, _, g2⟩ := hV i hi 2 _ rfl
    obtain ⟨_, _, g3⟩ := hV i hi 3 _ rfl
    obtain ⟨_, _, g4⟩ := hV i hi 4 _ rfl
    obtain ⟨_, _, g5⟩ := hV i hi 5 _ rfl
    obtain ⟨z0, c0, _, w0⟩ := DataW.trod_int Tryz.underlying3 g0
    obtain ⟨z1, c1, _, w1⟩ := DataW.trod_int Tryz.underlying3 g1
    obtain ⟨z2, c2, _, w2⟩ := DataW.trod_int Tryz.underlying21 g2
    obtain ⟨z3, c3, _, w3⟩ := DataW.trod_int Tryz.underlying21 g3
    obtain ⟨z4, c4, _, w4⟩ := DataW.trod_int Tryz.underlying21 g4
    obtain ⟨z5, c5, _, w5⟩ := DataW.trod_int Tryz.underlying21 g5
    refine ⟨⟨z0, z1, z2, z3, z4, z5⟩, fun j hj => ?_, w0, w1, w2, w3, w4, w5⟩
    match j, hj with
    | 0, _ => simpa [Cd.cells] using (List.cons.inj c0).1.symm
    | 1, _ => simpa [Cd.cells] using (List.cons.inj c1).1.symm
    | 2, _ => simpa [Cd.cells] using (List.cons.inj c2).1.symm
    | 3, _ => simpa [Cd.cells] using (List.cons.inj c3).1.symm
    | 4, _ => simpa [Cd.cells] using (List.cons.inj c4).1.symm
    | 5, _ => simpa [Cd.cells] using (List.cons.inj c5).1.symm
  obtain ⟨C, hC⟩ := choose_lt hq
  refine ⟨A, (List.range len).map C, cap, by simp, Fielded.flies hF (by decide) fun i hi => (hC i hi).1, fun p hp => ?_, by simpa using hl, ?_⟩
  · obtain ⟨i, hi', rfl⟩ := List.mem_map.1 hp
    exact (hC i (List.mem_range.1 hi')).2
  · rw [show Tryz.prog.bytesOf 42 = 32 by kernel_rfl] at hb
    simp only [reachBytes] at hb
    simp; omega
set_option maxRecDepth 100000 in
/-- A state that comes in. -/
theorem open_state {base : Nat} {v : Value} {d : DataW H} {p : List MemPlace} (hval : Value.okWide Tryz.prog W .any base 27 v) (h : DataW.Trod enc Tryz.prog W 0 (fun _ => true) true 27 v d p) (hlt : ∀ x ∈ p, x.block < W.heap.size) (hw : Light Tryz.prog 27 d) :
    ∃ (s : St) (Ap Ac Az : Option Addr) (cp cc cz : Nat), v = stV s Ap Ac Az cp cc cz ∧ StIn W W.heap.size s Ap Ac Az ∧ StBig s ∧ StWf s := by
  obtain ⟨v0, v1, v2, v3, v4, v5, v6, y0, y1, y2, y3, y4, y5, y6, n, rfl, rfl, rfl, h0, h1, h2, h3, h4, h5, h6⟩ := open_agg7 Tryz.underlying27 (by kernel_rfl) (by kernel_rfl) hval h
  obtain ⟨Ap, pl, cp, rfl, l0, f0, _, b0⟩ := trod_players h0 (fun x hx => hlt x (by simp [hx])) (hw.field Tryz.underlying27 (j := 0) rfl rfl)
  obtain ⟨Ac, cd, cc, rfl, l1, f1, _, b1⟩ := trod_cards h1 (fun x hx => hlt x (by simp [hx])) (hw.field Tryz.underlying27 (j := 1) rfl rfl)
  obtain ⟨Az, zs, cz, rfl, l2, f2, _, _, b2, b3⟩ := trod_rows Tryz.underlying24 Tryz.underlying90 Tryz.underlying3 (by kernel_rfl) (by kernel_rfl) h2 (fun x hx => hlt x (by simp [hx])) (hw.field Tryz.underlying27 (j := 2) rfl rfl)
  obtain ⟨z3, c3, _, w3⟩ := DataW.trod_int Tryz.underlying21 h3
  obtain ⟨z4, c4, _, w4⟩ := DataW.trod_int Tryz.underlying3 h4
  obtain ⟨z5, c5, _, w5⟩ := DataW.trod_int Tryz.underlying25 h5
  obtain ⟨z6, c6, _, w6⟩ := DataW.trod_int Tryz.underlying3 h6
  obtain rfl := (List.cons.inj c3).1
  obtain rfl := (List.cons.inj c4).1
  obtain rfl := (List.cons.inj c5).1
  obtain rfl := (List.cons.inj c6).1
  rw [show Tryz.prog.bytesOf 90 = 24 by kernel_rfl] at b2
  rw [show Tryz.prog.bytesOf 3 = 8 by kernel_rfl] at b3
  simp only [reachBytes] at b2 b3
  exact ⟨⟨pl, cd, zs, z3, z4, z5, z6⟩, Ap, Ac, Az, cp, cc, cz, rfl, ⟨l0, l1, l2⟩, ⟨b0, b1, show zs.length ≤ _ by omega, fun r hr => by have := b3 r hr; omega⟩, ⟨f0, f1, f2, w3, w4, w5, w6⟩⟩
end
end Go.Proofs.YthmfbcfbcookiaaGreatDoor
