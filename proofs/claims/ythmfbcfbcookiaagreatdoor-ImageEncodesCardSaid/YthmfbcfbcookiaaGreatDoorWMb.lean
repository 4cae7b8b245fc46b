/-
  Do the marks stand behind a list of cards: the walk. Conditions: a length within 10 ^ 9.
-/
import Derived.Test.YthmfbcfbcookiaaGreatDoorWMd
import Derived.Deep.QuietTactic
import Derived.BigQuiet
namespace Go.Proofs.YthmfbcfbcookiaaGreatDoor
open Go.RowKit
set_option maxHeartbeats 1000000 in
theorem spareCards_any (g : Nat) (xs : List Cd) (w : World) (hW : Whole w g 42 (flat Cd.cells (wideCd xs)).toArray) (hl : xs.length ≤ 1000000000) :
    Calls Tryz.prog 38 #[.slice (some ⟨g, 0, none⟩) xs.length (xs.length + 64)] w fun e w' => e = .returned (.bool true) ∧ Keeps (fun _ => False) w w' := by
  have hgw := hW.inside
  have HL : Hid (CdLies w (g + 1) (some ⟨g, 0, none⟩) (wideCd xs)) := Lib.hid (FLies.whole (f := Cd.cells) (k := 6) (fun _ => rfl) hW (fun _ _ h => h) (Nat.lt_succ_self g))
  have HX : Hid (∀ i, ¬ i < xs.length → i < xs.length + 64 → (wideCd xs)[i]? = some ⟨1048576 * 9 + (i : Int) + 1, 0, 0, 0, 0, 0⟩) := Lib.hid (wideCd_high xs)
  clear hW
  generalize wideCd xs = ys at *
  generalize xs.length = n at *
  go_enter Tryz.func38, Tryz.ntmps38
  go_wp2_with fail
  go_loopw [4] (fun vi wr => ∃ i : Nat, n ≤ i ∧ i ≤ n + 64 ∧ vi = .int .i64 i ∧ Hid (Keeps (fun _ => False) w wr)) (fun vi _ => n + 64 - (intOf vi).toNat)
  case atStart => exact ⟨n, by omega, by omega, rfl, Lib.hid (Keeps.refl _ w)⟩
  case round =>
    obtain ⟨i, hn, hi, rfl, HK⟩ := hrel
    by_cases hlt : i < n + 64
    · obtain ⟨g', off', hA, _, k0, k1, k2, k3, k4, k5⟩ := CdLies.cells (FLies.keeps HL.out HK.out (fun _ _ h => h) (by omega)) i _ (HX.out i (by omega) hlt)
      simp only [Option.some.injEq, Addr.mk.injEq, and_true] at hA
      obtain ⟨rfl, rfl⟩ := hA
      simp only [Nat.zero_add] at k0 k1 k2 k3 k4 k5
      go_wp2_with fail
      go_quiet (first | (go_at_call 65; refine Calls.quiet_of_same (num_same 9 i _ (by omega) (by omega))))
      go_wp2_with fail
      go_roundw
      case rel => exact ⟨i + 1, by omega, by omega, by go_num, Lib.hid ((HK.out.alloc _).drewN _)⟩
      case measure => simp [intOf]; omega
    · obtain rfl : i = n + 64 := by omega
      go_wp2_with fail
      go_ret
      exact ⟨rfl, HK.out⟩
end Go.Proofs.YthmfbcfbcookiaaGreatDoor
/-
  Do the marks stand behind a list of players: the walk. Conditions: a length within 10 ^ 9.
-/
namespace Go.Proofs.YthmfbcfbcookiaaGreatDoor
open Go.RowKit
set_option maxHeartbeats 1000000 in
theorem sparePlayers_any (g : Nat) (xs : List Pl) (w : World) (hW : Whole w g 44 (flat Pl.cells (widePl xs)).toArray) (hl : xs.length ≤ 1000000000) :
    Calls Tryz.prog 37 #[.slice (some ⟨g, 0, none⟩) xs.length (xs.length + 64)] w fun e w' => e = .returned (.bool true) ∧ Keeps (fun _ => False) w w' := by
  have hgw := hW.inside
  have HL : Hid (PlLies w (g + 1) (some ⟨g, 0, none⟩) (widePl xs)) := Lib.hid (FLies.whole (f := Pl.cells) (k := 3) (fun _ => rfl) hW (fun _ _ h => h) (Nat.lt_succ_self g))
  have HX : Hid (∀ i, ¬ i < xs.length → i < xs.length + 64 → (widePl xs)[i]? = some ⟨1048576 * 9 + (i : Int) + 1, 0, false⟩) := Lib.hid (widePl_high xs)
  clear hW
  generalize widePl xs = ys at *
  generalize xs.length = n at *
  go_enter Tryz.func37, Tryz.ntmps37
  go_wp2_with fail
  go_loopw [4] (fun vi wr => ∃ i : Nat, n ≤ i ∧ i ≤ n + 64 ∧ vi = .int .i64 i ∧ Hid (Keeps (fun _ => False) w wr)) (fun vi _ => n + 64 - (intOf vi).toNat)
  case atStart => exact ⟨n, by omega, by omega, rfl, Lib.hid (Keeps.refl _ w)⟩
  case round =>
    obtain ⟨i, hn, hi, rfl, HK⟩ := hrel
    by_cases hlt : i < n + 64
    · obtain ⟨g', off', hA, _, k0, k1, k2⟩ := PlLies.cells (FLies.keeps HL.out HK.out (fun _ _ h => h) (by omega)) i _ (HX.out i (by omega) hlt)
      simp only [Option.some.injEq, Addr.mk.injEq, and_true] at hA
      obtain ⟨rfl, rfl⟩ := hA
      simp only [Nat.zero_add] at k0 k1 k2
      go_wp2_with fail
      go_quiet (first | (go_at_call 65; refine Calls.quiet_of_same (num_same 9 i _ (by omega) (by omega))))
      go_wp2_with fail
      go_roundw
      case rel => exact ⟨i + 1, by omega, by omega, by go_num, Lib.hid ((HK.out.alloc _).drewN _)⟩
      case measure => simp [intOf]; omega
    · obtain rfl : i = n + 64 := by omega
      go_wp2_with fail
      go_ret
      exact ⟨rfl, HK.out⟩
end Go.Proofs.YthmfbcfbcookiaaGreatDoor
