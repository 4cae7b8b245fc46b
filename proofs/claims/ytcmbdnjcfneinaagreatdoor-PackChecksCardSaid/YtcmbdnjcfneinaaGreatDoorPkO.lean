/-
  Lists that come in, opened one within another: what lies where, and what it weighs. Conditions: none.
-/
import Derived.Test.YtcmbdnjcfneinaaGreatDoorStMf
import Derived.Lib.SmallJoins
import Derived.ChangeArms
import Derived.ChangeSlices
import Derived.Test.YtcmbdnjcfneinaaGreatDoorSzW
namespace Go.Proofs.YtcmbdnjcfneinaaGreatDoor
open Go.Joins Go.ChangeShapes Go.WideShapes Go.ChangeAt Go.RowKit Go.Deep
theorem weightsAll_mem {H : Type} {P : Program} {e : TypeId} : ∀ {l : List (DataW H)} {d : DataW H}, d ∈ l → ∀ n ∈ d.weights P e, n ∈ DataW.weightsAll P e l
  | d' :: r, d, hd, n, hn => by
    simp only [DataW.weightsAll, List.mem_append]
    rcases List.mem_cons.1 hd with rfl | h
    · exact Or.inl hn
    · exact Or.inr (weightsAll_mem h n hn)
/-- Every weight of a datum is within reach. -/
def Light {H : Type} (P : Program) (t : TypeId) (d : DataW H) : Prop := ∀ n ∈ d.weights P t, n ≤ reachBytes
section
variable {H : Type} {P : Program}
theorem Light.arg {ts : List TypeId} {ds : List (DataW H)} (h : (DataW.weightsEach P ts ds).all (· ≤ reachBytes) = true) {j : Nat} {t : TypeId} {d : DataW H} (ht : ts[j]? = some t) (hd : ds[j]? = some d) : Light P t d := fun n hn => by
  have := List.all_eq_true.1 h _ (DataW.weights_mem_each ht hd n hn)
  simpa using this
theorem Light.field {t : TypeId} {fs : Array Field} {parts : List (DataW H)} (hu : P.underlying t = some (.struct fs)) (h : Light P t (.agg parts)) {j : Nat} {f : Field} {d : DataW H} (hf : fs[j]? = some f) (hd : parts[j]? = some d) : Light P f.type d := fun n hn => by
  refine h n ?_
  unfold DataW.weights
  rw [hu]
  exact DataW.weights_mem_each (j := j) (t := f.type) (by simp [hf]) hd n hn
theorem Light.size {t e : TypeId} {elems spare : List (DataW H)} (hu : P.underlying t = some (.slice e)) (h : Light P t (.slice elems spare)) : elems.length * P.bytesOf e ≤ reachBytes := by
  have h1 := h ((elems.length + spare.length) * P.bytesOf e) (by unfold DataW.weights; rw [hu]; simp)
  exact Nat.le_trans (Nat.mul_le_mul_right _ (Nat.le_add_right _ _)) h1
theorem Light.elem {t e : TypeId} {elems spare : List (DataW H)} (hu : P.underlying t = some (.slice e)) (h : Light P t (.slice elems spare)) {d : DataW H} (hd : d ∈ elems) : Light P e d := fun n hn => by
  refine h n ?_
  unfold DataW.weights
  rw [hu]
  simp only [List.mem_cons, List.mem_append]
  exact .inr (.inl (weightsAll_mem hd n hn))
end
section
variable {H : Type} {enc : TypeId × Value → H} {P : Program} {W : World}
/-- A slice of structs, read out of one cell: each field opens again, within reach. -/
theorem trod_deep {t e : TypeId} {fs : Array Field} {v : Value} {x : DataW H × List MemPlace} {n : Nat} (ht : P.underlying t = some (.slice e)) (he : P.underlying e = some (.struct fs)) (hone : oneCellFields P fs = true) (hC : P.cellsOf e = fs.size)
    (h : DataW.trod enc P W 0 (fun _ => true) true n t [v] = some x) (hlt : ∀ y ∈ x.2, y.block < W.heap.size) (hw : Light P t x.1) :
    ∃ (A : Option Addr) (len cap : Nat) (V : Nat → Nat → Value), v = .slice A len cap ∧ Fielded W W.heap.size A fs.size len V ∧ len ≤ cap ∧ cap ≤ maxLen ∧ len * P.bytesOf e ≤ reachBytes ∧
      ∀ i, i < len → ∀ (j : Nat) (f : Field), fs[j]? = some f → ∃ n x, DataW.trod enc P W 0 (fun _ => true) true n f.type [V i j] = some x ∧ (∀ y ∈ x.2, y.block < W.heap.size) ∧ Light P f.type x.1 := by
  rcases open_slice ht h with ⟨hcs, rfl⟩ | ⟨a, len, cap, m, n', D, Pl, hcs, _, hl, hm, hmm, rfl, hel⟩
  · obtain rfl : v = .slice none 0 0 := by simpa using hcs
    exact ⟨none, 0, 0, fun _ _ => undef, rfl, fun i hi => absurd hi (Nat.not_lt_zero _), Nat.le_refl _, Nat.zero_le _, by simp, fun i hi => absurd hi (Nat.not_lt_zero _)⟩
  · obtain rfl : v = .slice (some a) len cap := by simpa using hcs
    simp only [if_true] at hmm
    subst hmm
    rw [hC] at hel
    have hq : ∀ i, i < len → ∃ cs' : List Value, cs'.length = fs.size ∧ (∀ j, j < fs.size → W.cell? ((a.add (i * fs.size)).add j) = cs'[j]?) ∧ DataW.trod enc P W 0 (fun _ => true) true n' e cs' = some (D i, Pl i) := fun i hi => by
      obtain ⟨cs', h1, h2⟩ := hel i (by omega)
      obtain ⟨_, h3, h4⟩ := World.cells?_some h1
      exact ⟨cs', h3, h4, h2⟩
    obtain ⟨C, hCs⟩ := choose_lt hq
    refine ⟨some a, len, m, fun i j => (C i).getD j undef, rfl, ?_, hl, hm, by simpa using hw.size ht, ?_⟩
    · intro i hi j hj
      obtain ⟨h3, h4, _⟩ := hCs i hi
      have h5 := h4 j hj
      rw [List.getElem?_eq_getElem (by omega)] at h5
      obtain ⟨b, off, spot⟩ := a
      have hspot : spot = none := by
        obtain ⟨h6, h7, _⟩ := hCs 0 (by omega)
        have h8 := h7 0 (by omega)
        rw [List.getElem?_eq_getElem (by omega)] at h8
        simpa [Addr.add] using World.cell?_spot h8
      subst hspot
      rw [add_plain, add_plain] at h5
      refine ⟨b, off, rfl, ?_, ?_⟩
      · have hn : 0 < m * fs.size := by
          have h7 : 0 < m := by omega
          have h8 : 0 < fs.size := by omega
          exact Nat.mul_pos h7 h8
        exact hlt (.cell b off) (List.mem_append.2 (.inl (by rw [hC]; exact MemPlace.mem_row.2 ⟨0, hn, by simp⟩)))
      · rw [h5]; simp [List.getD, List.getElem?_eq_getElem (show j < (C i).length by omega)]
    · intro i hi j f hf'
      obtain ⟨h3, _, h5⟩ := hCs i hi
      have hle : Light P e (D i) := hw.elem ht (List.mem_map.2 ⟨i, List.mem_range.2 hi, rfl⟩)
      have hpl : ∀ y ∈ Pl i, y.block < W.heap.size := fun y hy => hlt y (List.mem_append.2 (.inr (List.mem_flatMap.2 ⟨i, List.mem_range.2 (by omega), hy⟩)))
      obtain ⟨xs, k, _, hx, _, hxl, hff⟩ := DataW.trod_struct he h5
      have hlt' : j < fs.size := (Array.getElem?_eq_some_iff.1 hf').1
      obtain ⟨ho, hc1⟩ := hone_of hone j f hf'
      have g := hff j f hf'
      rw [ho, hc1, take1_drop (C i) j undef (by omega), List.getElem?_eq_getElem (by omega)] at g
      have hD : D i = .agg (xs.map (·.1)) := congrArg Prod.fst hx
      have hP : Pl i = xs.flatMap (·.2) := congrArg Prod.snd hx
      rw [hD] at hle
      refine ⟨k, _, g, fun y hy => hpl y (by rw [hP]; exact List.mem_flatMap.2 ⟨_, List.getElem_mem _, hy⟩), ?_⟩
      exact hle.field he hf' (by simp [List.getElem?_eq_getElem (show j < xs.length by omega)])
/-- A slice of numbers, read out of one cell. -/
theorem trod_list {t e : TypeId} {k : IntKind} {v : Value} {x : DataW H × List MemPlace} {n : Nat} (ht : P.underlying t = some (.slice e)) (he : P.underlying e = some (.int k)) (hc : P.cellsOf e = 1)
    (h : DataW.trod enc P W 0 (fun _ => true) true n t [v] = some x) (hlt : ∀ y ∈ x.2, y.block < W.heap.size) (hw : Light P t x.1) :
    ∃ (A : Option Addr) (zs : List Int) (cap : Nat), v = .slice A zs.length cap ∧ Lies W W.heap.size A (zs.map (Value.int k)) ∧ (∀ z ∈ zs, (Lit.int k z).wf = true) ∧ zs.length ≤ cap ∧ cap ≤ maxLen ∧ zs.length * P.bytesOf e ≤ reachBytes := by
  rcases open_ints ht he hc h with ⟨hcs, rfl⟩ | ⟨a, len, cap, zs, hcs, _, hl, hm, hz, rfl, hcell, hwz⟩
  · obtain rfl : v = .slice none 0 0 := by simpa using hcs
    exact ⟨none, [], 0, rfl, Lies.nil, by simp, Nat.le_refl _, Nat.zero_le _, by simp⟩
  · obtain rfl : v = .slice (some a) len cap := by simpa using hcs
    simp only [if_true] at hz
    have hlen : (zs.take len).length = len := by rw [List.length_take]; omega
    refine ⟨some a, zs.take len, cap, by rw [hlen], ?_, fun z hz' => hwz z (List.mem_of_mem_take hz'), by omega, hm, by simpa [lits] using hw.size ht⟩
    intro k' u hu
    have hk : k' < len := by
      rcases Nat.lt_or_ge k' len with h | h
      · exact h
      · rw [List.getElem?_eq_none (by simp; omega)] at hu; cases hu
    obtain ⟨b, off, spot⟩ := a
    have hcc := hcell k' (by omega)
    have hspot : spot = none := by simpa [Addr.add] using World.cell?_spot (hcell 0 (by omega))
    subst hspot
    rw [add_plain] at hcc
    refine ⟨b, off, rfl, hlt (.cell b off) (MemPlace.mem_row.2 ⟨0, by omega, by simp⟩), ?_⟩
    rw [hcc, ← hu]
    have h1 : k' < zs.length := by omega
    simp [hk, h1]
/-- A slice of strings, read out of one cell. -/
theorem trod_texts {t e : TypeId} {v : Value} {x : DataW H × List MemPlace} {n : Nat} (ht : P.underlying t = some (.slice e)) (he : P.underlying e = some .string) (hce : P.cellsOf e = 1)
    (h : DataW.trod enc P W 0 (fun _ => true) true n t [v] = some x) (hlt : ∀ y ∈ x.2, y.block < W.heap.size) (hw : Light P t x.1) :
    ∃ (A : Option Addr) (ss : List ByteArray) (cap : Nat), v = .slice A ss.length cap ∧ Lies W W.heap.size A (ss.map Value.string) ∧ (∀ s ∈ ss, s.data.toList.length ≤ reachBytes) ∧ ss.length * P.bytesOf e ≤ reachBytes := by
  rcases open_slice ht h with ⟨hcs, rfl⟩ | ⟨a, len, cap, m, n', D, Pl, hcs, _, hl, hm, hmm, rfl, hel⟩
  · obtain rfl : v = .slice none 0 0 := by simpa using hcs
    exact ⟨none, [], 0, rfl, Lies.nil, by simp, by simp⟩
  · obtain rfl : v = .slice (some a) len cap := by simpa using hcs
    simp only [if_true] at hmm
    subst hmm
    rw [hce] at hel
    simp only [Nat.mul_one] at hel
    have hq : ∀ i, i < len → ∃ s : ByteArray, W.cell? (a.add i) = some (.string s) ∧ s.data.toList.length ≤ reachBytes := fun i hi' => by
      obtain ⟨cs', h1, h2⟩ := hel i (by omega)
      obtain ⟨_, h3, h4⟩ := World.cells?_some h1
      obtain ⟨u, rfl⟩ := List.length_eq_one_iff.1 h3
      obtain ⟨s, hs, hx, _⟩ := DataW.trod_string he h2
      have hle : Light P e (D i) := hw.elem ht (List.mem_map.2 ⟨i, List.mem_range.2 hi', rfl⟩)
      have hD : D i = .lit (.string s.data.toList) := congrArg Prod.fst hx
      rw [hD] at hle
      have h5 := h4 0 (by omega)
      have hu : u = .string s := by simpa using hs
      subst hu
      exact ⟨s, by simpa [Addr.add] using h5, hle _ (by unfold DataW.weights; simp)⟩
    obtain ⟨C, hCs⟩ := choose_lt hq
    refine ⟨some a, (List.range len).map C, m, by simp, ?_, ?_, by simpa using hw.size ht⟩
    · intro i r hr
      have hli : i < len := by
        rcases Nat.lt_or_ge i len with h | h
        · exact h
        · rw [List.getElem?_eq_none (by simp; omega)] at hr; cases hr
      obtain rfl : Value.string (C i) = r := by simpa [List.getElem?_map, List.getElem?_range hli] using hr
      obtain ⟨h5, _⟩ := hCs i hli
      obtain ⟨b, off, spot⟩ := a
      have hspot : spot = none := by
        obtain ⟨h6, _⟩ := hCs 0 (by omega)
        simpa [Addr.add] using World.cell?_spot h6
      subst hspot
      rw [add_plain] at h5
      exact ⟨b, off + 0, rfl, hlt (.cell b off) (List.mem_append.2 (.inl (by rw [hce]; exact MemPlace.mem_row.2 ⟨0, by omega, by simp⟩))), by simpa using h5⟩
    · intro s hs
      obtain ⟨i, hi', rfl⟩ := List.mem_map.1 hs
      exact (hCs i (List.mem_range.1 hi')).2
theorem open_agg4 {r : Reach} {b0 base : Nat} {spare : Nat → Bool} {held : Bool} {t : TypeId} {f0 f1 f2 f3 : Field} {v : Value} {d : DataW H} {p : List MemPlace} (hs : P.underlying t = some (.struct #[f0, f1, f2, f3])) (hone : oneCellFields P #[f0, f1, f2, f3] = true) (hC : P.cellsOf t = 4)
    (hv : Value.okWide P W r b0 t v) (h : DataW.Trod enc P W base spare held t v d p) :
    ∃ (v0 v1 v2 v3 : Value) (y0 y1 y2 y3 : DataW H × List MemPlace) (n : Nat), v = .agg #[v0, v1, v2, v3] ∧ d = .agg [y0.1, y1.1, y2.1, y3.1] ∧ p = y0.2 ++ (y1.2 ++ (y2.2 ++ y3.2)) ∧
      DataW.trod enc P W base spare held n f0.type [v0] = some y0 ∧ DataW.trod enc P W base spare held n f1.type [v1] = some y1 ∧ DataW.trod enc P W base spare held n f2.type [v2] = some y2 ∧ DataW.trod enc P W base spare held n f3.type [v3] = some y3 := by
  obtain ⟨cs, rfl, hsz⟩ := okWide_struct hs hv
  obtain ⟨l⟩ := cs
  match l, hsz.trans hC with
  | [c0, c1, c2, c3], _ =>
    obtain ⟨fuel, hf⟩ := h
    obtain ⟨xs, n, _, hx, _, hlen, hg⟩ := DataW.trod_struct hs hf
    obtain ⟨o0, k0⟩ := hone_of hone 0 f0 rfl
    obtain ⟨o1, k1⟩ := hone_of hone 1 f1 rfl
    obtain ⟨o2, k2⟩ := hone_of hone 2 f2 rfl
    obtain ⟨o3, k3⟩ := hone_of hone 3 f3 rfl
    match xs, hlen with
    | [y0, y1, y2, y3], _ =>
      simp only [Prod.mk.injEq] at hx
      exact ⟨c0, c1, c2, c3, y0, y1, y2, y3, n, rfl, by simpa using hx.1, by simpa using hx.2, by simpa [Value.cells, o0, k0] using hg 0 f0 rfl, by simpa [Value.cells, o1, k1] using hg 1 f1 rfl, by simpa [Value.cells, o2, k2] using hg 2 f2 rfl, by simpa [Value.cells, o3, k3] using hg 3 f3 rfl⟩
end
end Go.Proofs.YtcmbdnjcfneinaaGreatDoor
/-
  A pack that comes in, opened. Conditions: none.
-/
namespace Go.Proofs.YtcmbdnjcfneinaaGreatDoor
open Go.Joins Go.ChangeShapes Go.WideShapes Go.ChangeAt Go.RowKit Go.Deep
theorem bounds8_of {z : Int} (hz : (Lit.int .i8 z).wf = true) : -128 ≤ z ∧ z ≤ 127 := by
  simpa [Lit.wf, IntKind.min, IntKind.max, IntKind.signed, IntKind.bits] using hz
def octS (s : ByteArray) : List Oct := s.data.toList.map UInt8.toBitVec
theorem octS_length (s : ByteArray) : (octS s).length = s.data.toList.length := by simp [octS]
theorem strB_octS (s : ByteArray) : strB (octS s) = s := by
  unfold strB octS
  rw [List.map_map]
  have h : (UInt8.ofBitVec ∘ UInt8.toBitVec) = id := rfl
  rw [h, List.map_id]
instance : Inhabited Eff := ⟨⟨0, [], 0, []⟩⟩
instance : Inhabited Knd := ⟨⟨0, 0, 0, 0, [], []⟩⟩
/-- What is known of an effect's cells. -/
def EfCells (W : World) (V : Nat → Value) (e : Eff) : Prop := (∃ As cs Ac cc, V 0 = .int .i64 e.on ∧ V 1 = .slice As e.slots.length cs ∧ V 2 = .slice Ac e.code.length cc ∧ V 3 = .int .i64 e.bound ∧ Lies W W.heap.size As (e.slots.map (Value.int .i8)) ∧ Lies W W.heap.size Ac (bytesV e.code)) ∧ EffBig e ∧ ∀ x ∈ e.slots, -128 ≤ x ∧ x ≤ 127
def KdCells (W : World) (V : Nat → Value) (k : Knd) : Prop := (∃ At ct Ae ce, V 0 = .int .i64 k.name ∧ V 1 = .int .i64 k.cost ∧ V 2 = .int .i64 k.power ∧ V 3 = .int .i64 k.health ∧ V 4 = .slice At k.tags.length ct ∧ V 5 = .slice Ae k.effs.length ce ∧ Lies W W.heap.size At (k.tags.map (Value.int .i64)) ∧ EfLies W W.heap.size Ae k.effs) ∧ KndBig k ∧ ∀ e ∈ k.effs, ∀ x ∈ e.slots, -128 ≤ x ∧ x ≤ 127
section
variable {H : Type} {enc : TypeId × Value → H} {W : World}
theorem range_get {α : Type} {C : Nat → α} {len i : Nat} {a : α} (h : ((List.range len).map C)[i]? = some a) : i < len ∧ C i = a := by
  have hlt : i < len := by
    rcases Nat.lt_or_ge i len with h' | h'
    · exact h'
    · rw [List.getElem?_eq_none (by simp; omega)] at h; cases h
  exact ⟨hlt, by simpa [List.getElem?_map, List.getElem?_range hlt] using h⟩
/-- Bytes, read out of one cell. -/
theorem trod_bytes {v : Value} {x : DataW H × List MemPlace} {n : Nat} (h : DataW.trod enc Tryz.prog W 0 (fun _ => true) true n 32 [v] = some x) (hlt : ∀ y ∈ x.2, y.block < W.heap.size) (hw : Light Tryz.prog 32 x.1) :
    ∃ (A : Option Addr) (b : List Oct) (cap : Nat), v = .slice A b.length cap ∧ Lies W W.heap.size A (bytesV b) ∧ b.length ≤ 140737488355328 := by
  obtain ⟨A, zs, cap, rfl, l, wz, _, _, hb⟩ := trod_list Tryz.underlying32 Tryz.underlying5 (by kernel_rfl) h hlt hw
  obtain ⟨b, hb1, hz⟩ := bytes_of zs wz
  rw [hz] at l
  rw [show Tryz.prog.bytesOf 5 = 1 by kernel_rfl] at hb
  simp only [reachBytes] at hb
  exact ⟨A, b, cap, by rw [hb1], l, by omega⟩
/-- A list of effects, read out of one cell. -/
theorem trod_effs {v : Value} {x : DataW H × List MemPlace} {n : Nat} (h : DataW.trod enc Tryz.prog W 0 (fun _ => true) true n 38 [v] = some x) (hlt : ∀ y ∈ x.2, y.block < W.heap.size) (hw : Light Tryz.prog 38 x.1) :
    ∃ (A : Option Addr) (es : List Eff) (cap : Nat), v = .slice A es.length cap ∧ EfLies W W.heap.size A es ∧ (∀ e ∈ es, EffBig e ∧ ∀ x ∈ e.slots, -128 ≤ x ∧ x ≤ 127) ∧ es.length ≤ 140737488355328 := by
  obtain ⟨A, len, cap, V, rfl, hF, hl, _, hb, hV⟩ := trod_deep Tryz.underlying38 Tryz.underlying43 (by kernel_rfl) (by kernel_rfl) h hlt hw
  have hq : ∀ i, i < len → ∃ e : Eff, EfCells W (V i) e := fun i hi => by
    obtain ⟨_, _, g0, _, _⟩ := hV i hi 0 _ rfl
    obtain ⟨_, _, g1, p1, l1⟩ := hV i hi 1 _ rfl
    obtain ⟨_, _, g2, p2, l2⟩ := hV i hi 2 _ rfl
    obtain ⟨_, _, g3, _, _⟩ := hV i hi 3 _ rfl
    obtain ⟨z0, c0, _, w0⟩ := DataW.trod_int Tryz.underlying3 g0
    obtain ⟨As, zs, cs, c1, l1', w1, _, _, b1⟩ := trod_list Tryz.underlying41 Tryz.underlying80 (by kernel_rfl) g1 p1 l1
    obtain ⟨Ac, code, cc, c2, l2', b2⟩ := trod_bytes g2 p2 l2
    obtain ⟨z3, c3, _, w3⟩ := DataW.trod_int Tryz.underlying2 g3
    rw [show Tryz.prog.bytesOf 80 = 1 by kernel_rfl] at b1
    simp only [reachBytes] at b1
    exact ⟨⟨z0, zs, z3, code⟩, ⟨As, cs, Ac, cc, (List.cons.inj c0).1, c1, c2, (List.cons.inj c3).1, l1', l2'⟩, ⟨show zs.length ≤ _ by omega, b2⟩, fun x hx => bounds8_of (w1 x hx)⟩
  obtain ⟨C, hC⟩ := choose_lt hq
  refine ⟨A, (List.range len).map C, cap, by simp, fun i e he => ?_, fun p hp => ?_, ?_⟩
  · obtain ⟨hi, rfl⟩ := range_get he
    obtain ⟨⟨As, cs, Ac, cc, e0, e1, e2, e3, l1, l2⟩, _, _⟩ := hC i hi
    obtain ⟨g, off, rfl, hg, h0⟩ := hF i hi 0 (by decide)
    have hj : ∀ j, j < 4 → W.cell? ⟨g, off + i * 4 + j, none⟩ = some (V i j) := fun j hj => by
      obtain ⟨g', off', hA', _, hc⟩ := hF i hi j hj
      simp only [Option.some.injEq, Addr.mk.injEq] at hA'
      obtain ⟨rfl, rfl, _⟩ := hA'
      exact hc
    exact ⟨g, off, As, cs, Ac, cc, rfl, hg, (hj 0 (by decide)).trans (by rw [e0]), (hj 1 (by decide)).trans (by rw [e1]), (hj 2 (by decide)).trans (by rw [e2]), (hj 3 (by decide)).trans (by rw [e3]), l1, l2⟩
  · obtain ⟨i, hi', rfl⟩ := List.mem_map.1 hp
    exact (hC i (List.mem_range.1 hi')).2
  · rw [show Tryz.prog.bytesOf 43 = 64 by kernel_rfl] at hb
    simp only [reachBytes] at hb
    simp; omega
/-- A list of kinds, read out of one cell. -/
theorem trod_kinds {v : Value} {x : DataW H × List MemPlace} {n : Nat} (h : DataW.trod enc Tryz.prog W 0 (fun _ => true) true n 24 [v] = some x) (hlt : ∀ y ∈ x.2, y.block < W.heap.size) (hw : Light Tryz.prog 24 x.1) :
    ∃ (A : Option Addr) (ks : List Knd) (cap : Nat), v = .slice A ks.length cap ∧ KdLies W W.heap.size A ks ∧ (∀ k ∈ ks, KndBig k ∧ ∀ e ∈ k.effs, ∀ x ∈ e.slots, -128 ≤ x ∧ x ≤ 127) ∧ ks.length ≤ 140737488355328 := by
  obtain ⟨A, len, cap, V, rfl, hF, hl, _, hb, hV⟩ := trod_deep Tryz.underlying24 Tryz.underlying40 (by kernel_rfl) (by kernel_rfl) h hlt hw
  have hq : ∀ i, i < len → ∃ k : Knd, KdCells W (V i) k := fun i hi => by
    obtain ⟨_, _, g0, _, _⟩ := hV i hi 0 _ rfl
    obtain ⟨_, _, g1, _, _⟩ := hV i hi 1 _ rfl
    obtain ⟨_, _, g2, _, _⟩ := hV i hi 2 _ rfl
    obtain ⟨_, _, g3, _, _⟩ := hV i hi 3 _ rfl
    obtain ⟨_, _, g4, p4, l4⟩ := hV i hi 4 _ rfl
    obtain ⟨_, _, g5, p5, l5⟩ := hV i hi 5 _ rfl
    obtain ⟨z0, c0, _, _⟩ := DataW.trod_int Tryz.underlying3 g0
    obtain ⟨z1, c1, _, _⟩ := DataW.trod_int Tryz.underlying2 g1
    obtain ⟨z2, c2, _, _⟩ := DataW.trod_int Tryz.underlying2 g2
    obtain ⟨z3, c3, _, _⟩ := DataW.trod_int Tryz.underlying2 g3
    obtain ⟨At, ts, ct, c4, l4', _, _, _, b4⟩ := trod_list Tryz.underlying37 Tryz.underlying3 (by kernel_rfl) g4 p4 l4
    obtain ⟨Ae, es, ce, c5, l5', f5, b5⟩ := trod_effs g5 p5 l5
    rw [show Tryz.prog.bytesOf 3 = 8 by kernel_rfl] at b4
    simp only [reachBytes] at b4
    exact ⟨⟨z0, z1, z2, z3, ts, es⟩, ⟨At, ct, Ae, ce, (List.cons.inj c0).1, (List.cons.inj c1).1, (List.cons.inj c2).1, (List.cons.inj c3).1, c4, c5, l4', l5'⟩, ⟨show ts.length ≤ _ by omega, b5, fun e he => (f5 e he).1⟩, fun e he => (f5 e he).2⟩
  obtain ⟨C, hC⟩ := choose_lt hq
  refine ⟨A, (List.range len).map C, cap, by simp, fun i e he => ?_, fun p hp => ?_, ?_⟩
  · obtain ⟨hi, rfl⟩ := range_get he
    obtain ⟨⟨At, ct, Ae, ce, e0, e1, e2, e3, e4, e5, l1, l2⟩, _, _⟩ := hC i hi
    obtain ⟨g, off, rfl, hg, h0⟩ := hF i hi 0 (by decide)
    have hj : ∀ j, j < 6 → W.cell? ⟨g, off + i * 6 + j, none⟩ = some (V i j) := fun j hj => by
      obtain ⟨g', off', hA', _, hc⟩ := hF i hi j hj
      simp only [Option.some.injEq, Addr.mk.injEq] at hA'
      obtain ⟨rfl, rfl, _⟩ := hA'
      exact hc
    exact ⟨g, off, At, ct, Ae, ce, rfl, hg, (hj 0 (by decide)).trans (by rw [e0]), (hj 1 (by decide)).trans (by rw [e1]), (hj 2 (by decide)).trans (by rw [e2]), (hj 3 (by decide)).trans (by rw [e3]), (hj 4 (by decide)).trans (by rw [e4]), (hj 5 (by decide)).trans (by rw [e5]), l1, l2⟩
  · obtain ⟨i, hi', rfl⟩ := List.mem_map.1 hp
    exact (hC i (List.mem_range.1 hi')).2
  · rw [show Tryz.prog.bytesOf 40 = 80 by kernel_rfl] at hb
    simp only [reachBytes] at hb
    simp; omega
set_option maxRecDepth 100000 in
/-- A pack that comes in. -/
theorem open_pack {base : Nat} {v : Value} {d : DataW H} {p : List MemPlace} (hval : Value.okWide Tryz.prog W .any base 26 v) (h : DataW.Trod enc Tryz.prog W 0 (fun _ => true) true 26 v d p) (hlt : ∀ x ∈ p, x.block < W.heap.size) (hw : Light Tryz.prog 26 d) :
    ∃ (q : Pk) (Ai At Ak : Option Addr) (ci ct ck : Nat), v = .agg (pkC q Ai At Ak ci ct ck) ∧ PkIn W W.heap.size q Ai At Ak ∧ PkBig q := by
  obtain ⟨v0, v1, v2, v3, y0, y1, y2, y3, n, rfl, rfl, rfl, h0, h1, h2, h3⟩ := open_agg4 Tryz.underlying26 (by kernel_rfl) (by kernel_rfl) hval h
  obtain ⟨z0, c0, _, _⟩ := DataW.trod_int Tryz.underlying3 h0
  obtain ⟨Ai, is, ci, rfl, l1, w1, _, _, b1⟩ := trod_list Tryz.underlying22 Tryz.underlying2 (by kernel_rfl) h1 (fun x hx => hlt x (by simp [hx])) (hw.field Tryz.underlying26 (j := 1) rfl rfl)
  obtain ⟨At, ss, ct, rfl, l2, w2, b2⟩ := trod_texts Tryz.underlying23 Tryz.underlying9 (by kernel_rfl) h2 (fun x hx => hlt x (by simp [hx])) (hw.field Tryz.underlying26 (j := 2) rfl rfl)
  obtain ⟨Ak, ks, ck, rfl, l3, w3, b3⟩ := trod_kinds h3 (fun x hx => hlt x (by simp [hx])) (hw.field Tryz.underlying26 (j := 3) rfl rfl)
  obtain rfl := (List.cons.inj c0).1
  rw [show Tryz.prog.bytesOf 2 = 8 by kernel_rfl] at b1
  rw [show Tryz.prog.bytesOf 9 = 16 by kernel_rfl] at b2
  simp only [reachBytes] at b1 b2 w2
  have ht : textsV (ss.map octS) = ss.map Value.string := by
    unfold textsV
    rw [List.map_map]
    exact List.map_congr_left fun s _ => by show Value.string (strB (octS s)) = _; rw [strB_octS]
  refine ⟨⟨z0, is, ss.map octS, ks⟩, Ai, At, Ak, ci, ct, ck, by unfold pkC; simp only [List.length_map], ⟨l1, by rw [ht]; exact l2, l3⟩, ⟨show is.length ≤ _ by omega, by simp only [List.length_map]; omega, fun t htm => ?_, b3, fun k hk => (w3 k hk).1, fun x hx => bounds_of_i64 (w1 x hx), fun k hk => (w3 k hk).2⟩⟩
  obtain ⟨s, hs, rfl⟩ := List.mem_map.1 htm
  rw [octS_length]
  have := w2 s hs
  omega
end
end Go.Proofs.YtcmbdnjcfneinaaGreatDoor
