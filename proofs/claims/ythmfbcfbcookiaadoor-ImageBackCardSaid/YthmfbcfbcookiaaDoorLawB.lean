/-
  What bytes and words of 32 bits open to. Conditions: none.
-/
import Derived.Test.YthmfbcfbcookiaaDoorBytes
import Derived.Test.YthmfbcfbcookiaaDoorSumsA
import Derived.Test.YthmfbcfbcookiaaDoorLaw
namespace Go.Proofs.YthmfbcfbcookiaaDoor
open Go.RowKit
theorem bytes_of (zs : List Int) (hz : ∀ z ∈ zs, (Lit.int .u8 z).wf = true) : ∃ b : List Byte, b.length = zs.length ∧ zs.map (Value.int .u8) = bytesV b := by
  refine ⟨zs.map (fun z => BitVec.ofNat 8 z.toNat), by simp, ?_⟩
  unfold bytesV
  rw [List.map_map]
  apply List.map_congr_left
  intro z h
  have h1 := hz z h
  simp [Lit.wf, IntKind.min, IntKind.max, IntKind.signed, IntKind.bits] at h1
  simp only [Function.comp, byteV, BitVec.toNat_ofNat]
  congr 1
  omega
theorem word_of {z : Int} (hz : (Lit.int .u32 z).wf = true) : ∃ s : Crc.W, z = wn s := by
  simp [Lit.wf, IntKind.min, IntKind.max, IntKind.signed, IntKind.bits] at hz
  refine ⟨BitVec.ofNat 32 z.toNat, ?_⟩
  unfold wn
  rw [BitVec.toNat_ofNat]
  omega
theorem byte_of {z : Int} (hz : (Lit.int .u8 z).wf = true) : ∃ c : Byte, z = (c.toNat : Int) := by
  simp [Lit.wf, IntKind.min, IntKind.max, IntKind.signed, IntKind.bits] at hz
  refine ⟨BitVec.ofNat 8 z.toNat, ?_⟩
  rw [BitVec.toNat_ofNat]
  omega
theorem bounds_of_i64 {z : Int} (hz : (Lit.int .i64 z).wf = true) : -9223372036854775808 ≤ z ∧ z ≤ 9223372036854775807 := by
  simpa [Lit.wf, IntKind.min, IntKind.max, IntKind.signed, IntKind.bits] using hz
theorem bytes_u8 : Tryd.prog.bytesOf 5 = 1 := by kernel_rfl
theorem cells_u8 : Tryd.prog.cellsOf 5 = 1 := by kernel_rfl
end Go.Proofs.YthmfbcfbcookiaaDoor
