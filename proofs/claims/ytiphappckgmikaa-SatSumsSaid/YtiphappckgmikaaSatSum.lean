/-
  The document's sum of a list: the walk. Conditions: none.
-/
import Derived.Test.YtiphappckgmikaaSatW
import Derived.Test.YtiphappckgmikaaLater
import Derived.Test.YtiphappckgmikaaAppend
namespace Go.Proofs.Ytiphappckgmikaa
open Go.RowKit
set_option maxHeartbeats 1000000 in
theorem refSum_any (l : List Int) (lo hi : Int) (he : Ends lo hi) (A : Option Addr) (cap : Nat) (w : World) (hl : Lies w w.heap.size A (l.map (Value.int .i64))) (hz : ∀ z ∈ l, lo ≤ z ∧ z ≤ hi) (hm : l.length ≤ 9223372036854775807) :
    Calls Try.prog 37 #[.slice A l.length cap, .agg #[.int .i64 lo, .int .i64 hi]] w fun e w' => e = .returned (.int .i64 (sumF lo hi l)) ∧ Below w.heap.size w w' := by
  have HE := Lib.hid he
  have hb0 : lo ≤ 0 ∧ 0 ≤ hi := by obtain ⟨rfl, h1, h2⟩ := he; omega
  clear he
  go_enter Try.func37, Try.ntmps37
  go_wp2_with fail
  have HW := Lib.hid (Whole.made w 24 #[.int .i64 lo, .int .i64 hi])
  have HL : Hid (∀ w', Below w.heap.size w w' → Lies w' w'.heap.size A (l.map (Value.int .i64))) := Lib.hid fun w' hb => hl.past hb
  clear hl
  go_loopw [5, 6] (fun vn vi wr => ∃ k : Nat, k ≤ l.length ∧ vi = .int .i64 k ∧ vn = .int .i64 (sumF lo hi (l.take k)) ∧ Hid (Whole wr w.heap.size 24 #[.int .i64 lo, .int .i64 hi]) ∧ Hid (Below w.heap.size w wr)) (fun _ vi _ => l.length - (intOf vi).toNat)
  case atStart => exact ⟨0, by omega, rfl, rfl, HW, Lib.hid ((Below.refl _ _).alloc (Nat.le_refl _) _)⟩
  case round =>
    clear HW
    obtain ⟨k, hk, rfl, rfl, HW, HB⟩ := hrel
    by_cases hlt : k < l.length
    · obtain ⟨g, off, rfl, hg, hc0⟩ := HL.out wr HB.out k (.int .i64 l[k]) (by simp [hlt])
      have hx := hz l[k] (List.getElem_mem hlt)
      have hs : Hid (sumF lo hi (l.take (k + 1)) = cl lo hi (sumF lo hi (l.take k) + l[k])) := Lib.hid (by rw [take_snoc' l k hlt, sumF_snoc])
      have hb := sumF_bd (lo := lo) (hi := hi) (l.take k) hb0.1 hb0.2
      generalize sumF lo hi (l.take k) = n at *
      generalize l[k] = x at *
      have hc : ∀ r : Later wr, r.w.cell? ⟨g, off + k, none⟩ = some (.int .i64 x) := fun r => (r.below.cell (p := ⟨g, off + k, none⟩) hg).trans hc0
      have hE : ∀ w', (∃ r : Later wr, w' = r.w) → Whole w' w.heap.size 24 #[.int .i64 lo, .int .i64 hi] := by rintro w' ⟨r, rfl⟩; exact HW.out.past r.below
      have HR := Lib.hid (fun w' => refAdd_any n x lo hi HE.out hb hx w')
      clear hc0
      go_wp2_with fail
      haveI := later_some wr
      refine region_later (by kernel_rfl) (by kernel_rfl) ?_
      repeat (first
        | (refine quiet_load_whole (by rfl) 24 _ rfl w.heap.size rfl 24 #[.int .i64 lo, .int .i64 hi] _ hE Try.underlying24 rfl info_ends ?_)
        | (quiet_step (exact later_calls (HR.out _))))
      refine wpQuiet_nil ?_
      rintro w' ⟨r, rfl⟩
      have HB5 := Lib.hid (belowThen' HB.out r.below)
      have HE6 := Lib.hid (HW.out.past r.below)
      clear HB HW hE hc
      generalize r.w = w5 at *
      go_wp2_with fail
      go_roundw
      case rel => exact ⟨k + 1, by omega, by go_num, by rw [hs.out], HE6, HB5⟩
      case measure => simp [intOf]; omega
    · have he : Hid (l.take k = l) := Lib.hid (List.take_of_length_le (by omega))
      rw [he.out]
      go_wp2_with fail
      go_ret
      exact ⟨rfl, HB.out⟩
end Go.Proofs.Ytiphappckgmikaa
