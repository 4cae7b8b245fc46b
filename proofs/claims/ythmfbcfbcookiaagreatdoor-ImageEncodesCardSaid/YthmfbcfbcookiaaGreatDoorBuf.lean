/-
  bytes.Buffer: WriteString, Write, Bytes, and bytes.Clone: what they do, in this program's numbers. Conditions: lengths within 2 ^ 47.
-/
import Derived.Test.YthmfbcfbcookiaaGreatDoorBytes
import Derived.Test.YthmfbcfbcookiaaGreatDoorKeep
import Derived.Test.YthmfbcfbcookiaaGreatDoorLay
import Derived.Shelf.Bytes.WriteAny
import Derived.Shelf.Bytes.Bytes
import Derived.Shelf.Bytes.WriteString
import Derived.Shelf.Bytes.SlClone
import Derived.Lib.BufferOld
namespace Go.Proofs.YthmfbcfbcookiaaGreatDoor
open Go.RowKit
/-- The block b is a buffer that holds the bytes l; all its memory lies from b on. -/
abbrev BufAt (b : Nat) (l : List Byte) (w : World) : Prop := Lib.IsBuffer 80 5 b b (bytesV l) w
theorem bytesV_one (l : List Byte) : ∀ v ∈ bytesV l, v.oneCell' = true := fun v hv => by
  obtain ⟨c, _, rfl⟩ := List.mem_map.1 hv
  rfl
theorem bufFresh (w : World) : BufAt w.heap.size [] (w.alloc (.cells #[.slice none 0 0, .int .i64 0, .int .i8 0] 80)) := Lib.fresh_isBuffer _ _ w
theorem bufWriteString_any (b : Nat) (l m : List Byte) (s : ByteArray) (w : World) (h : BufAt b l w) (hs : Lib.byteCells s.data.toList = bytesV m) (hlim : l.length + s.size ≤ 140737488355328) :
    Calls Tryz.prog 24 #[.pointer (some ⟨b, 0, none⟩), .string s] w fun e w' => e = .returned (.tuple #[.int .i64 s.size, .nilIface]) ∧ BufAt b (l ++ m) w' ∧ Below b w w' := by
  refine (Any.Buffer_WriteString Tryz.layNm178 b b (bytesV l) s w h (Nat.le_of_lt h.lt) (bytesV_one l) (by rw [bytesV_length]; exact hlim)).mono ?_
  rintro e w' ⟨he, hb, hk⟩
  refine ⟨he, ?_, hk⟩
  rw [hs] at hb
  unfold BufAt
  rw [bytesV_append]
  exact hb
theorem bufWrite_any (b g off cap : Nat) (l m : List Byte) (w : World) (h : BufAt b l w) (hg : g ≠ b) (hm : ∀ j v, (bytesV m)[j]? = some v → w.cell? ⟨g, off + j, none⟩ = some v) (hlim : l.length + m.length ≤ 140737488355328) :
    Calls Tryz.prog 27 #[.pointer (some ⟨b, 0, none⟩), .slice (some ⟨g, off, none⟩) m.length cap] w fun e w' => e = .returned (.tuple #[.int .i64 m.length, .nilIface]) ∧ BufAt b (l ++ m) w' ∧ Below b w w' ∧ Lib.OthersKept 5 (some b) w w' := by
  refine (Any.Buffer_Write_any Tryz.layNm180 b b (bytesV l) (bytesV m) ⟨g, off, none⟩ m.length cap w h (Nat.le_of_lt h.lt) (bytesV_one l) (bytesV_length m) hg (fun j v hj => ?_) (bytesV_one m) (by rw [bytesV_length]; exact hlim)).mono ?_
  · rw [Lib.addr_add]
    exact hm j v hj
  · rintro e w' ⟨he, hb, hk, ho⟩
    refine ⟨he, ?_, hk, ho⟩
    unfold BufAt
    rw [bytesV_append]
    exact hb
theorem bufBytes_any (b : Nat) (l : List Byte) (w : World) (h : BufAt b l w) :
    Calls Tryz.prog 29 #[.pointer (some ⟨b, 0, none⟩)] w fun e w' => ∃ v, e = .returned v ∧ w'.ownsRow b 5 1 v l.length (bytesV l) ∧ ∃ n, w' = w.drewN n := by
  refine (Any.Buffer_Bytes Tryz.layNm183 b b (bytesV l) w h).mono ?_
  rintro e w' ⟨v, he, ho, hn⟩
  rw [bytesV_length] at ho
  exact ⟨v, he, ho, hn⟩
theorem bytesClone_any (g off cap : Nat) (l : List Byte) (w : World) (hm : ∀ j v, (bytesV l)[j]? = some v → w.cell? ⟨g, off + j, none⟩ = some v) (hlim : l.length ≤ 140737488355328) :
    Calls Tryz.prog 28 #[.slice (some ⟨g, off, none⟩) l.length cap] w fun e w' => ∃ v', e = .returned v' ∧ w'.ownsRow w.heap.size 5 1 v' l.length (bytesV l) ∧ v' ≠ .slice none 0 0 ∧ Below w.heap.size w w' := by
  have e : (l.map fun c => (c.toNat : Int)).map (Value.int .u8) = bytesV l := by rw [List.map_map]; rfl
  have h := Any.bytes_Clone_at Tryz.laySlk4 ⟨g, off, none⟩ l.length cap (l.map fun c => (c.toNat : Int)) w (by simp) hlim (fun i hi => by
    rw [Lib.addr_add]
    refine hm i _ ?_
    rw [bytesV_get l i hi]
    simp [List.getD, List.getElem?_eq_getElem hi])
  rw [e] at h
  exact h
/-- What stays behind a write. -/
theorem kept_whole {b g : Nat} {t : TypeId} {cs : Array Value} {w w' : World} (h : Lib.OthersKept 5 (some b) w w') (hg : g ≠ b) (ht : t ≠ 5) (hw : Whole w g t cs) : Whole w' g t cs :=
  h g _ hw (fun e => hg (by injection e)) (fun _ _ e => ht (by injection e))
theorem bufPast {b : Nat} {l : List Byte} {w w' : World} (h : BufAt b l w) (hk : Keeps (fun _ => False) w w') : BufAt b l w' := Lib.IsBuffer.old h (hk.below (Nat.le_refl _) (fun _ e => e.elim))
end Go.Proofs.YthmfbcfbcookiaaGreatDoor
