/-
  From a law's walk to its given statement: the arguments opened, what stands behind the call. Conditions: none.
-/
import Derived.Test.YtcmbdnjcfneinaaGreatDoorRows
import Derived.Test.YtcmbdnjcfneinaaGreatDoorMemM
import Derived.ProofKit
import Derived.OpenShut
import Derived.SizedLaws
import Derived.Test.YtcmbdnjcfneinaaGreatDoorBytes
import Derived.Test.YtcmbdnjcfneinaaGreatDoorSuM
import Derived.Deep.Fields
import Derived.Deep.Slices
namespace Go.Proofs.YtcmbdnjcfneinaaGreatDoor
open Go.ChangeShapes Go.WideShapes Go.ChangeAt Go.RowKit

theorem law_own : ownKnob Tryz.prog.godebug = none := by kernel_rfl
theorem law_laid : laidOutB Tryz.prog = true := by kernel_rfl

section
variable {H : Type} {enc : TypeId × Value → H} {P : Program} {W W' : World}
/-- The arguments read behind the call as they did before. -/
theorem belowTrodAll (hl : laidOutB P = true) (hb : Below W.heap.size W W') : ∀ (ts : List TypeId) (vs : List Value) (ds : List (DataW H)) (ps : List MemPlace), ts.all (fun t => P.readableRec t && decide (t < P.types.size)) = true →
    DataW.TrodAll enc P W 0 (fun _ => true) true ts vs ds ps → (∀ x ∈ ps, x.block < W.heap.size) → DataW.TrodAll enc P W' 0 (fun b => decide (b < W.heap.size)) true ts vs ds ps
  | [], vs, ds, ps, _, h, _ => by
    obtain ⟨rfl, rfl, rfl⟩ := trodAll_nil h
    exact trodAll_mk0
  | t :: ts, vs, ds, ps, hr, h, hlt => by
    obtain ⟨v, vs', d, ds', p, q, rfl, rfl, rfl, h0, h1⟩ := trodAll_cons h
    simp only [List.all_cons, Bool.and_eq_true, decide_eq_true_eq] at hr
    exact trodAll_cons_mk (Below.trod hl hr.1.1 hr.1.2 h0 hb fun x hx => hlt x (List.mem_append.2 (.inl hx)))
      (belowTrodAll hl hb ts vs' ds' q hr.2 h1 fun x hx => hlt x (List.mem_append.2 (.inr hx)))

theorem post_law {fn : Func} {s : ChangeSpec} {args : Array Value} {ds gs : List (DataW H)} {before : List MemPlace} {tb : TypeId} (hl : laidOutB P = true)
    (hr : fn.params.toList.all (fun t => P.readableRec t && decide (t < P.types.size)) = true) (hrt : fn.resultTypes = #[tb]) (hbool : P.underlying tb = some .bool) (hvars : s.vars = [])
    (hW : DataW.Whole enc P fn.params.toList s.vars false W args.toList ds gs before) (hfn : s.fn H ds = { results := [.lit (.bool true)], args := ds }) (hb : Below W.heap.size W W') :
    s.post enc P fn false true false false W args (.bool true) W' := by
  have hW0 := hW
  obtain ⟨p, q, hA, hV, hps, hfz, hnd⟩ := hW
  rw [hvars] at hV
  obtain ⟨rfl, rfl⟩ := trodVars_none hV
  have hlt : ∀ x ∈ p, x.block < W.heap.size := fun x hx => hW0.lt x (by rw [hps]; simp [hx])
  have e : s.fn H (ds ++ []) = { results := [.lit (.bool true)], args := ds } := by rw [List.append_nil]; exact hfn
  refine ⟨ds, [], before, [], p, [], hW0, ?_, ?_, ?_, hb.frame _, fun h => by cases h⟩
  · rw [e, hrt]
    exact trodAll_cons_mk (shut_bool hbool true) trodAll_mk0
  · rw [e]
    exact belowTrodAll hl hb _ _ _ _ hr hA hlt
  · rw [e, hvars]
    rfl

/-- A list of integers that comes in: as the slice value reads. -/
theorem open_list {base : Nat} {t e : TypeId} {k : IntKind} {v : Value} {d : DataW H} {p : List MemPlace} (ht : P.underlying t = some (.slice e)) (he : P.underlying e = some (.int k)) (hc : P.cellsOf e = 1)
    (hval : Value.okWide P W .any base t v) (h : DataW.Trod enc P W 0 (fun _ => true) true t v d p) (hlt : ∀ x ∈ p, x.block < W.heap.size) :
    ∃ (A : Option Addr) (zs : List Int) (cap : Nat), v = .slice A zs.length cap ∧ Lies W W.heap.size A (zs.map (Value.int k)) ∧ (∀ z ∈ zs, (Lit.int k z).wf = true) ∧ zs.length ≤ cap ∧ cap ≤ maxLen ∧
      (zs.length = 0 ∨ ∃ elems spare, d = .slice elems spare ∧ elems.length = zs.length) := by
  obtain ⟨a0, len, cap, rfl⟩ := okWide_slice ht hval
  obtain ⟨fuel, hf⟩ := h
  rcases open_ints ht he hc hf with ⟨hcs, hx⟩ | ⟨a, len', cap', zs, hcs, _, hl, hm, hz, hx, hcell, hwz⟩
  · simp [Value.cells] at hcs
    obtain ⟨rfl, rfl, rfl⟩ := hcs
    exact ⟨none, [], 0, rfl, Lies.nil, by simp, Nat.le_refl _, Nat.zero_le _, .inl rfl⟩
  · simp [Value.cells] at hcs
    obtain ⟨rfl, rfl, rfl⟩ := hcs
    simp only [Prod.mk.injEq] at hx
    obtain ⟨rfl, rfl⟩ := hx
    simp only [if_true] at hz
    have hlen : (zs.take len).length = len := by rw [List.length_take]; omega
    refine ⟨some a, zs.take len, cap, by rw [hlen], ?_, fun z hz' => hwz z (List.mem_of_mem_take hz'), by omega, hm, .inr ⟨_, _, rfl, by simp [lits]⟩⟩
    intro k' u hu
    have hk : k' < len := by
      rcases Nat.lt_or_ge k' len with h | h
      · exact h
      · rw [List.getElem?_eq_none (by simp; omega)] at hu; cases hu
    obtain ⟨b, off, spot⟩ := a
    have hcc := hcell k' (by omega)
    have hspot : spot = none := by simpa [Addr.add] using World.cell?_spot (hcell 0 (by omega))
    subst hspot
    rw [add_plain] at hcc
    refine ⟨b, off, rfl, hlt (.cell b off) (MemPlace.mem_row.2 ⟨0, by omega, by simp⟩), ?_⟩
    rw [hcc, ← hu]
    have h1 : k' < zs.length := by omega
    simp [hk, h1]
/-- What a list that comes in may weigh. -/
theorem list_reach {ts : List TypeId} {ds : List (DataW H)} (h : (DataW.weightsEach P ts ds).all (· ≤ reachBytes) = true) {j n bytes : Nat} {t e : TypeId} {d : DataW H} (ht : ts[j]? = some t) (hd : ds[j]? = some d)
    (hu : P.underlying t = some (.slice e)) (hby : P.bytesOf e = bytes) (hn : n = 0 ∨ ∃ elems spare, d = .slice elems spare ∧ elems.length = n) : n * bytes ≤ 140737488351232 := by
  rcases hn with rfl | ⟨elems, spare, rfl, rfl⟩
  · omega
  · have := sized_slice h ht hd hu
    rw [hby] at this
    simp only [reachBytes] at this
    have h2 : elems.length * bytes ≤ (elems.length + spare.length) * bytes := Nat.mul_le_mul_right _ (Nat.le_add_right _ _)
    omega
end
end Go.Proofs.YtcmbdnjcfneinaaGreatDoor
/-
  What bytes and words of 32 bits open to. Conditions: none.
-/
namespace Go.Proofs.YtcmbdnjcfneinaaGreatDoor
open Go.RowKit
theorem bytes_of (zs : List Int) (hz : ∀ z ∈ zs, (Lit.int .u8 z).wf = true) : ∃ b : List Byte, b.length = zs.length ∧ zs.map (Value.int .u8) = bytesV b := by
  refine ⟨zs.map (fun z => BitVec.ofNat 8 z.toNat), by simp, ?_⟩
  unfold bytesV
  rw [List.map_map]
  apply List.map_congr_left
  intro z h
  have h1 := hz z h
  simp [Lit.wf, IntKind.min, IntKind.max, IntKind.signed, IntKind.bits] at h1
  simp only [Function.comp, byteV, BitVec.toNat_ofNat]
  congr 1
  omega
theorem word_of {z : Int} (hz : (Lit.int .u32 z).wf = true) : ∃ s : Crc.W, z = wn s := by
  simp [Lit.wf, IntKind.min, IntKind.max, IntKind.signed, IntKind.bits] at hz
  refine ⟨BitVec.ofNat 32 z.toNat, ?_⟩
  unfold wn
  rw [BitVec.toNat_ofNat]
  omega
theorem byte_of {z : Int} (hz : (Lit.int .u8 z).wf = true) : ∃ c : Byte, z = (c.toNat : Int) := by
  simp [Lit.wf, IntKind.min, IntKind.max, IntKind.signed, IntKind.bits] at hz
  refine ⟨BitVec.ofNat 8 z.toNat, ?_⟩
  rw [BitVec.toNat_ofNat]
  omega
theorem bounds_of_i64 {z : Int} (hz : (Lit.int .i64 z).wf = true) : -9223372036854775808 ≤ z ∧ z ≤ 9223372036854775807 := by
  simpa [Lit.wf, IntKind.min, IntKind.max, IntKind.signed, IntKind.bits] using hz
theorem bytes_u8 : Tryz.prog.bytesOf 5 = 1 := by kernel_rfl
theorem cells_u8 : Tryz.prog.cellsOf 5 = 1 := by kernel_rfl
end Go.Proofs.YtcmbdnjcfneinaaGreatDoor
/-
  A list of structs that comes in, opened. Conditions: each field is one cell.
-/
namespace Go.Proofs.YtcmbdnjcfneinaaGreatDoor
open Go.ChangeShapes Go.WideShapes Go.ChangeAt Go.RowKit Go.Deep
section
variable {H : Type} {enc : TypeId × Value → H} {P : Program} {W : World}
/-- The cells of a list of structs: field j of element i. -/
def Fielded (W : World) (B : Nat) (A : Option Addr) (n len : Nat) (V : Nat → Nat → Value) : Prop :=
  ∀ i, i < len → ∀ j, j < n → ∃ g off, A = some ⟨g, off, none⟩ ∧ g < B ∧ W.cell? ⟨g, off + i * n + j, none⟩ = some (V i j)
theorem open_structs {base : Nat} {t e : TypeId} {fs : Array Field} {v : Value} {d : DataW H} {p : List MemPlace} (ht : P.underlying t = some (.slice e)) (he : P.underlying e = some (.struct fs)) (hone : oneCellFields P fs = true) (hC : P.cellsOf e = fs.size)
    (hval : Value.okWide P W .any base t v) (h : DataW.Trod enc P W 0 (fun _ => true) true t v d p) (hlt : ∀ x ∈ p, x.block < W.heap.size) :
    ∃ (A : Option Addr) (len cap : Nat) (V : Nat → Nat → Value), v = .slice A len cap ∧ Fielded W W.heap.size A fs.size len V ∧ len ≤ cap ∧ cap ≤ maxLen ∧ (len = 0 ∨ ∃ elems spare, d = .slice elems spare ∧ elems.length = len) ∧
      ∀ i, i < len → ∀ (j : Nat) (f : Field), fs[j]? = some f → ∃ n x, DataW.trod enc P W 0 (fun _ => true) true n f.type [V i j] = some x := by
  obtain ⟨a0, len0, cap0, rfl⟩ := okWide_slice ht hval
  obtain ⟨fuel, hf⟩ := h
  rcases open_slice ht hf with ⟨hcs, hx⟩ | ⟨a, len, cap, m, n, D, Pl, hcs, _, hl, hm, hmm, hx, hel⟩
  · simp [Value.cells] at hcs
    obtain ⟨rfl, rfl, rfl⟩ := hcs
    exact ⟨none, 0, 0, fun _ _ => undef, rfl, fun i hi => absurd hi (Nat.not_lt_zero _), Nat.le_refl _, Nat.zero_le _, .inl rfl, fun i hi => absurd hi (Nat.not_lt_zero _)⟩
  · simp [Value.cells] at hcs
    obtain ⟨rfl, rfl, rfl⟩ := hcs
    simp only [Prod.mk.injEq] at hx
    obtain ⟨rfl, rfl⟩ := hx
    simp only [if_true] at hmm
    subst hmm
    rw [hC] at hel
    have hq : ∀ i, i < len0 → ∃ cs' : List Value, cs'.length = fs.size ∧ (∀ j, j < fs.size → W.cell? ((a.add (i * fs.size)).add j) = cs'[j]?) ∧ DataW.trod enc P W 0 (fun _ => true) true n e cs' = some (D i, Pl i) := fun i hi => by
      obtain ⟨cs', h1, h2⟩ := hel i (by omega)
      obtain ⟨_, h3, h4⟩ := World.cells?_some h1
      exact ⟨cs', h3, h4, h2⟩
    obtain ⟨C, hCs⟩ := choose_lt hq
    refine ⟨some a, len0, m, fun i j => (C i).getD j undef, rfl, ?_, hl, hm, .inr ⟨_, _, rfl, by simp⟩, ?_⟩
    · intro i hi j hj
      obtain ⟨h3, h4, _⟩ := hCs i hi
      have h5 := h4 j hj
      rw [List.getElem?_eq_getElem (by omega)] at h5
      obtain ⟨b, off, spot⟩ := a
      have hspot : spot = none := by
        obtain ⟨h6, h7, _⟩ := hCs 0 (by omega)
        have h8 := h7 0 (by omega)
        rw [List.getElem?_eq_getElem (by omega)] at h8
        simpa [Addr.add] using World.cell?_spot h8
      subst hspot
      rw [add_plain, add_plain] at h5
      refine ⟨b, off, rfl, ?_, ?_⟩
      · have hn : 0 < m * fs.size := by
          have h7 : 0 < m := by omega
          have h8 : 0 < fs.size := by omega
          exact Nat.mul_pos h7 h8
        exact hlt (.cell b off) (List.mem_append.2 (.inl (by rw [hC]; exact MemPlace.mem_row.2 ⟨0, hn, by simp⟩)))
      · rw [h5]; simp [List.getD, List.getElem?_eq_getElem (show j < (C i).length by omega)]
    · intro i hi j f hf'
      obtain ⟨h3, _, h5⟩ := hCs i hi
      obtain ⟨xs, k, _, _, _, hxl, hff⟩ := DataW.trod_struct he h5
      have hlt' : j < fs.size := (Array.getElem?_eq_some_iff.1 hf').1
      obtain ⟨ho, hc1⟩ := hone_of hone j f hf'
      have g := hff j f hf'
      rw [ho, hc1, take1_drop (C i) j undef (by omega), List.getElem?_eq_getElem (by omega)] at g
      exact ⟨k, _, g⟩
end
end Go.Proofs.YtcmbdnjcfneinaaGreatDoor
