/-
  From a law's walk to its given statement: the arguments opened, what stands behind the call. Conditions: none.
-/
import Derived.Test.YtcmbdnjcfneinaaGreatDoorRows
import Derived.Test.YtcmbdnjcfneinaaGreatDoorMemM
import Derived.ProofKit
import Derived.OpenShut
import Derived.SizedLaws
import Derived.Test.YtcmbdnjcfneinaaGreatDoorBytes
import Derived.Test.YtcmbdnjcfneinaaGreatDoorSuM
import Derived.Deep.Fields
import Derived.Deep.Slices
namespace Go.Proofs.YtcmbdnjcfneinaaGreatDoor
open Go.ChangeShapes Go.WideShapes Go.ChangeAt Go.RowKit

theorem law_own : ownKnob Tryz.prog.godebug = none := by kernel_rfl
theorem law_laid : laidOutB Tryz.prog = true := by kernel_rfl

section
variable {H : Type} {enc : TypeId × Value → H} {P : Program} {W W' : World}
/-- The arguments read behind the call as they did before. -/
theorem belowTrodAll (hl : laidOutB P = true) (hb : Below W.heap.size W W') : ∀ (ts : List TypeId) (vs : List Value) (ds : List (DataW H)) (ps : List MemPlace), ts.all (fun t => P.readableRec t && decide (t < P.types.size)) = true →
    DataW.TrodAll enc P W 0 (fun _ => true) true ts vs ds ps → (∀ x ∈ ps, x.block < W.heap.size) → DataW.TrodAll enc P W' 0 (fun b => decide (b < W.heap.size)) true ts vs ds ps
  | [], vs, ds, ps, _, h, _ => by
    obtain ⟨rfl, rfl, rfl⟩ := trodAll_nil h
    exact trodAll_mk0
  | t :: ts, vs, ds, ps, hr, h, hlt => by
    obtain ⟨v, vs', d, ds', p, q, rfl, rfl, rfl, h0, h1⟩ := trodAll_cons h
    simp only [List.all_cons, Bool.and_eq_true, decide_eq_true_eq] at hr
    exact trodAll_cons_mk (Below.trod hl hr.1.1 hr.1.2 h0 hb fun x hx => hlt x (List.mem_append.2 (.inl hx)))
      (belowTrodAll hl hb ts vs' ds' q hr.2 h1 fun x hx => hlt x (List.mem_append.2 (.inr hx)))

theorem post_law {fn : Func} {s : ChangeSpec} {args : Array Value} {ds gs : List (DataW H)} {before : List MemPlace} {tb : TypeId} (hl : laidOutB P = true)
    (hr : fn.params.toList.all (fun t => P.readableRec t && decide (t < P.types.size)) = true) (hrt : fn.resultTypes = #[tb]) (hbool : P.underlying tb = some .bool) (hvars : s.vars = [])
    (hW : DataW.Whole enc P fn.params.toList s.vars false W args.toList ds gs before) (hfn : s.fn H ds = { results := [.lit (.bool true)], args := ds }) (hb : Below W.heap.size W W') :
    s.post enc P fn false true false false W args (.bool true) W' := by
  have hW0 := hW
  obtain ⟨p, q, hA, hV, hps, hfz, hnd⟩ := hW
  rw [hvars] at hV
  obtain ⟨rfl, rfl⟩ := trodVars_none hV
  have hlt : ∀ x ∈ p, x.block < W.heap.size := fun x hx => hW0.lt x (by rw [hps]; simp [hx])
  have e : s.fn H (ds ++ []) = { results := [.lit (.bool true)], args := ds } := by rw [List.append_nil]; exact hfn
  refine ⟨ds, [], before, [], p, [], hW0, ?_, ?_, ?_, hb.frame _, fun h => by cases h⟩
  · rw [e, hrt]
    exact trodAll_cons_mk (shut_bool hbool true) trodAll_mk0
  · rw [e]
    exact belowTrodAll hl hb _ _ _ _ hr hA hlt
  · rw [e, hvars]
    rfl

/-- A list of integers that comes in: as the slice value reads. -/
theorem open_list {base : Nat} {t e : TypeId} {k : IntKind} {v : Value} {d : DataW H} {p : List MemPlace} (ht : P.underlying t = some (.slice e)) (he : P.underlying e = some (.int k)) (hc : P.cellsOf e = 1)
    (hval : Value.okWide P W .any base t v) (h : DataW.Trod enc P W 0 (fun _ => true) true t v d p) (hlt : ∀ x ∈ p, x.block < W.heap.size) :
    ∃ (A : Option Addr) (zs : List Int) (cap : Nat), v = .slice A zs.length cap ∧ Lies W W.heap.size A (zs.map (Value.int k)) ∧ (∀ z ∈ zs, (Lit.int k z).wf = true) ∧ zs.length ≤ cap ∧ cap ≤ maxLen ∧
      (zs.length = 0 ∨ ∃ elems spare, d = .slice elems spare ∧ elems.length = zs.length) := by
  obtain ⟨a0, len, cap, rfl⟩ := okWide_slice ht hval
  obtain ⟨fuel, hf⟩ := h
  rcases open_ints ht he hc hf with ⟨hcs, hx⟩ | ⟨a, len', cap', zs, hcs, _, hl, hm, hz, hx, hcell, hwz⟩
  · simp [Value.cells] at hcs
    obtain ⟨rfl, rfl, rfl⟩ := hcs
    exact ⟨none, [], 0, rfl, Lies.nil, by simp, Nat.le_refl _, Nat.zero_le _, .inl rfl⟩
  · simp [Value.cells] at hcs
    obtain ⟨rfl, rfl, rfl⟩ := hcs
    simp only [Prod.mk.injEq] at hx
    obtain ⟨rfl, rfl⟩ := hx
    simp only [if_true] at hz
    have hlen : (zs.take len).length = len := by rw [List.length_take]; omega
    refine ⟨some a, zs.take len, cap, by rw [hlen], ?_, fun z hz' => hwz z (List.mem_of_mem_take hz'), by omega, hm, .inr ⟨_, _, rfl, by simp [lits]⟩⟩
    intro k' u hu
    have hk : k' < len := by
      rcases Nat.lt_or_ge k' len with h | h
      · exact h
      · rw [List.getElem?_eq_none (by simp; omega)] at hu; cases hu
    obtain ⟨b, off, spot⟩ := a
    have hcc := hcell k' (by omega)
    have hspot : spot = none := by simpa [Addr.add] using World.cell?_spot (hcell 0 (by omega))
    subst hspot
    rw [add_plain] at hcc
    refine ⟨b, off, rfl, hlt (.cell b off) (MemPlace.mem_row.2 ⟨0, by omega, by simp⟩), ?_⟩
    rw [hcc, ← hu]
    have h1 : k' < zs.length := by omega
    simp [hk, h1]
/-- What a list that comes in may weigh. -/
theorem list_reach {ts : List TypeId} {ds : List (DataW H)} (h : (DataW.weightsEach P ts ds).all (· ≤ reachBytes) = true) {j n bytes : Nat} {t e : TypeId} {d : DataW H} (ht : ts[j]? = some t) (hd : ds[j]? = some d)
    (hu : P.underlying t = some (.slice e)) (hby : P.bytesOf e = bytes) (hn : n = 0 ∨ ∃ elems spare, d = .slice elems spare ∧ elems.length = n) : n * bytes ≤ 140737488351232 := by
  rcases hn with rfl | ⟨elems, spare, rfl, rfl⟩
  · omega
  · have := sized_slice h ht hd hu
    rw [hby] at this
    simp only [reachBytes] at this
    have h2 : elems.length * bytes ≤ (elems.length + spare.length) * bytes := Nat.mul_le_mul_right _ (Nat.le_add_right _ _)
    omega
end
end Go.Proofs.YtcmbdnjcfneinaaGreatDoor
/-
  What bytes and words of 32 bits open to. Conditions: none.
-/
namespace Go.Proofs.YtcmbdnjcfneinaaGreatDoor
open Go.RowKit
theorem bytes_of (zs : List Int) (hz : ∀ z ∈ zs, (Lit.int .u8 z).wf = true) : ∃ b : List Byte, b.length = zs.length ∧ zs.map (Value.int .u8) = bytesV b := by
  refine ⟨zs.map (fun z => BitVec.ofNat 8 z.toNat), by simp, ?_⟩
  unfold bytesV
  rw [List.map_map]
  apply List.map_congr_left
  intro z h
  have h1 := hz z h
  simp [Lit.wf, IntKind.min, IntKind.max, IntKind.signed, IntKind.bits] at h1
  simp only [Function.comp, byteV, BitVec.toNat_ofNat]
  congr 1
  omega
theorem bytes_u8 : Tryz.prog.bytesOf 5 = 1 := by kernel_rfl
theorem cells_u8 : Tryz.prog.cellsOf 5 = 1 := by kernel_rfl
end Go.Proofs.YtcmbdnjcfneinaaGreatDoor
/-
  A list of structs that comes in, opened. Conditions: each field is one cell.
-/
namespace Go.Proofs.YtcmbdnjcfneinaaGreatDoor
open Go.ChangeShapes Go.WideShapes Go.ChangeAt Go.RowKit Go.Deep
section
variable {H : Type} {enc : TypeId × Value → H} {P : Program} {W : World}
end
end Go.Proofs.YtcmbdnjcfneinaaGreatDoor
