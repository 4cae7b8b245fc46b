/-
  Do the marks stand behind a list of numbers: the walk. Conditions: a length within 10 ^ 9.
-/
import Derived.Test.YtgbikcliembkcaaDoorWd
namespace Go.Proofs.YtgbikcliembkcaaDoor
open Go.RowKit
set_option maxHeartbeats 1000000 in
theorem spareInts_any (g n : Nat) (cs : Array Value) (w : World) (hW : Whole w g 3 cs) (hl : n ≤ 1000000000) (hm : ∀ i, n ≤ i → i < n + 64 → cs[i]? = some (.int .i64 (1048576 * 9 + (i : Int) + 1))) :
    Calls Tryd.prog 71 #[.slice (some ⟨g, 0, none⟩) n (n + 64)] w fun e w' => e = .returned (.bool true) ∧ ∃ d, w' = w.drewN d := by
  have HW := Lib.hid hW; have HM := Lib.hid hm
  clear hW hm
  go_enter Tryd.func71, Tryd.ntmps71
  go_wp2_with fail
  go_loopw [4] (fun vi wr => ∃ i d : Nat, n ≤ i ∧ i ≤ n + 64 ∧ vi = .int .i64 i ∧ wr = w.drewN d) (fun vi _ => n + 64 - (intOf vi).toNat)
  case atStart => exact ⟨n, 0, by omega, by omega, rfl, rfl⟩
  case round =>
    obtain ⟨i, d, hn, hi, rfl, rfl⟩ := hrel
    by_cases hlt : i < n + 64
    · have hc : (w.drewN d).cell? ⟨g, i, none⟩ = some (.int .i64 (1048576 * 9 + (i : Int) + 1)) := (HW.out.cellAt i).trans (HM.out i hn hlt)
      have he : ((1048576 * 9 + (i : Int) + 1) == (1048576 * 9 + (i : Int) + 1)) = true := by simp
      go_wp2_with fail
      refine (num_any 9 i _ (by omega) (by omega)).mono ?_
      rintro e w1 ⟨rfl, rfl⟩
      go_wp2_with fail
      go_roundw
      case rel => exact ⟨i + 1, d, by omega, by omega, by go_num, rfl⟩
      case measure => simp [intOf]; omega
    · obtain rfl : i = n + 64 := by omega
      go_wp2_with fail
      go_ret
      exact ⟨rfl, d, rfl⟩
end Go.Proofs.YtgbikcliembkcaaDoor
