/-
  SumsCrcs is proved as given: for every list of bytes and every sum the law returns true, and its arguments read behind the call as before. Conditions: none beyond the row's own.
-/
import Derived.Test.YtcdolkifahlakaaCrcs
import Derived.Test.YtcdolkifahlakaaLaw
namespace Go.Proofs.Ytcdolkifahlakaa.crcs
open Go.ChangeShapes Go.WideShapes Go.ChangeAt Go.RowKit

/-- Bytes as numbers, as bytes. -/
theorem bytes_of (zs : List Int) (hz : ∀ z ∈ zs, (Lit.int .u8 z).wf = true) : ∃ b : List Byte, b.length = zs.length ∧ zs.map (Value.int .u8) = bytesV b := by
  refine ⟨zs.map (fun z => BitVec.ofNat 8 z.toNat), by simp, ?_⟩
  unfold bytesV
  rw [List.map_map]
  apply List.map_congr_left
  intro z h
  have h1 := hz z h
  simp [Lit.wf, IntKind.min, IntKind.max, IntKind.signed, IntKind.bits] at h1
  simp only [Function.comp, byteV, BitVec.toNat_ofNat]
  congr 1
  omega
theorem word_of {z : Int} (hz : (Lit.int .u32 z).wf = true) : ∃ s : Crc.W, z = wn s := by
  simp [Lit.wf, IntKind.min, IntKind.max, IntKind.signed, IntKind.bits] at hz
  refine ⟨BitVec.ofNat 32 z.toNat, ?_⟩
  unfold wn
  rw [BitVec.toNat_ofNat]
  omega
theorem bytes_u8 : Try.prog.bytesOf 5 = 1 := by kernel_rfl
theorem cells_u8 : Try.prog.cellsOf 5 = 1 := by kernel_rfl

set_option maxRecDepth 100000 in
theorem lifted (os : Os) (started : os.Started) (H : Type) (enc : TypeId × Value → H) :
    ReturnsInHanded {} Try.checked os 3 .any (Rows.sumsCrcsSpec.pre6 enc Try.prog Try.f3 Rows.sumsCrcsRow.domain false) (Rows.sumsCrcsSpec.post enc Try.prog Try.f3 false true false false) := by
  refine returnsInHanded_of_change_sized (C := Try.checked) law_own started (by kernel_rfl) Try.func3
    (ChangeSpec.witness6 (enc := enc) (C := Try.checked) false ⟨#[], #[.slice none 0 0, .int .u32 0], []⟩ 8 (by kernel_rfl) (by kernel_rfl) (by kernel_rfl) (by kernel_rfl)) ?_
  intro W base args ds gs before hval0 hW _ hsz0 _
  have hsz : (DataW.weightsEach Try.prog (Try.f3.params.toList ++ Rows.sumsCrcsSpec.plain.varTypes Try.prog) (ds ++ gs)).all (· ≤ reachBytes) = true := hsz0
  clear hsz0
  have hval : ∀ (j : Nat) t v, Try.f3.params[j]? = some t → args[j]? = some v → Value.okWide Try.prog W .any base t v := hval0
  have hW' := hW
  obtain ⟨p, q, hA0, hV, rfl, _, _⟩ := hW
  have hA : DataW.TrodAll enc Try.prog W 0 (fun _ => true) true Try.f3.params.toList args.toList ds p := hA0
  have hlt : ∀ x ∈ p, x.block < W.heap.size := fun x hx => hW'.lt x (by simp [hx])
  rw [Try.params3] at hA hval hsz
  obtain ⟨rfl, rfl⟩ := trodVars_none hV
  obtain ⟨v0, v1, d0, d1, p0, p1, rfl, rfl, rfl, h0, h1⟩ := trodAll_two hA
  obtain ⟨m, rfl, rfl, rfl, wm⟩ := open_int Try.underlying23 (hval 1 23 v1 rfl rfl) h1
  obtain ⟨A, zs, cap, rfl, hl, hwz, _, _, hlen⟩ := open_list Try.underlying22 Try.underlying5 cells_u8 (hval 0 22 v0 rfl rfl) h0 (fun x hx => hlt x (by simp [hx]))
  have hreach := list_reach hsz (j := 0) rfl rfl Try.underlying22 bytes_u8 hlen
  obtain ⟨b, hb, hz⟩ := bytes_of zs hwz
  rw [hz] at hl
  rw [← hb] at hreach hW' ⊢
  obtain ⟨s, rfl⟩ := word_of wm
  refine (sumsCrcs_any b s A cap W hl (by omega)).mono fun e W' ⟨he, hbel⟩ => ?_
  exact ⟨_, he, post_law law_laid (by kernel_rfl) (by kernel_rfl) Try.underlying4 rfl hW' rfl hbel⟩

theorem proved : Rows.SumsCrcsSaid :=
  OpenClaim.holds_of_wide 3 Try.f3 rfl rfl rfl rfl rfl rfl rfl ⟨rfl, rfl, rfl, rfl, rfl⟩ rfl rfl rfl rfl rfl (by kernel_rfl) Try.func3 (by kernel_rfl)
    (of_decide_eq_true (by kernel_rfl)) (by unfold Func.isWrapper; first | (rw [if_pos (by decide +kernel)]; kernel_rfl) | (rw [if_neg (by decide +kernel)]; exact ⟨rfl, rfl⟩))
    (fun os started H enc _ => lifted os started H enc)
end Go.Proofs.Ytcdolkifahlakaa.crcs
