/-
  rows.Stack of int that NewStack did not make: every method, walked. Conditions: none.
-/
import Derived.Test.YtbfhbekocgdceaaSmI
namespace Go.Proofs.Ytbfhbekocgdceaa
open Go.RowKit
set_option maxRecDepth 100000 in
theorem doI_plain (x : Int) (p : Nat) (w : World) (a3 : w.cell? ⟨p, 3, none⟩ = some (.bool false)) :
    Calls Try.prog 45 #[.pointer (some ⟨p, 0, none⟩), .int .i64 x] w fun e w' => e = .returned (.bool false) ∧ Keeps (fun _ => False) w w' := by
  have HN := fun w (h : w.cell? ⟨p, 3, none⟩ = some (.bool false)) => (show Calls Try.prog 73 #[.pointer (some ⟨p, 0, none⟩)] w fun e w' => e = .returned (.bool true) ∧ w' = w from noneI_any p false w h)
  go_enter Try.func45, Try.ntmps45
  go_wp2_with fail
  go_quiet (first | (go_at_call 73; refine Calls.quiet_of_same (HN _ a3)))
  go_wp2_with fail
  go_ret
  exact ⟨rfl, (Keeps.refl _ _).drewN _⟩
set_option maxRecDepth 100000 in
theorem undoI_plain (p : Nat) (w : World) (a3 : w.cell? ⟨p, 3, none⟩ = some (.bool false)) :
    Calls Try.prog 42 #[.pointer (some ⟨p, 0, none⟩)] w fun e w' => e = .returned (.tuple #[.int .i64 0, .bool false]) ∧ w' = w := by
  go_enter Try.func42, Try.ntmps42
  go_wp2_with (first | (go_at_call 73; refine (noneI_any p false _ a3).mono ?_; rintro e w' ⟨rfl, rfl⟩))
  go_ret2
  exact ⟨rfl, rfl⟩
set_option maxRecDepth 100000 in
theorem redoI_plain (p : Nat) (w : World) (a3 : w.cell? ⟨p, 3, none⟩ = some (.bool false)) :
    Calls Try.prog 43 #[.pointer (some ⟨p, 0, none⟩)] w fun e w' => e = .returned (.tuple #[.int .i64 0, .bool false]) ∧ Keeps (fun _ => False) w w' := by
  have HN := fun w (h : w.cell? ⟨p, 3, none⟩ = some (.bool false)) => (show Calls Try.prog 73 #[.pointer (some ⟨p, 0, none⟩)] w fun e w' => e = .returned (.bool true) ∧ w' = w from noneI_any p false w h)
  go_enter Try.func43, Try.ntmps43
  go_wp2_with fail
  go_quiet (first | (go_at_call 73; refine Calls.quiet_of_same (HN _ a3)))
  go_wp2_with fail
  go_ret2
  exact ⟨rfl, (Keeps.refl _ _).drewN _⟩
set_option maxRecDepth 100000 in
theorem lenI_plain (p : Nat) (w : World) (a3 : w.cell? ⟨p, 3, none⟩ = some (.bool false)) :
    Calls Try.prog 44 #[.pointer (some ⟨p, 0, none⟩)] w fun e w' => e = .returned (.tuple #[.int .i64 0, .int .i64 0]) ∧ w' = w := by
  go_enter Try.func44, Try.ntmps44
  go_wp2_with (first | (go_at_call 73; refine (noneI_any p false _ a3).mono ?_; rintro e w' ⟨rfl, rfl⟩))
  go_ret2
  exact ⟨rfl, rfl⟩
set_option maxRecDepth 100000 in
theorem doneI_plain (p : Nat) (w : World) (a3 : w.cell? ⟨p, 3, none⟩ = some (.bool false)) :
    Calls Try.prog 41 #[.pointer (some ⟨p, 0, none⟩)] w fun e w' => e = .returned (.slice none 0 0) ∧ w' = w := by
  go_enter Try.func41, Try.ntmps41
  go_wp2_with (first | (go_at_call 73; refine (noneI_any p false _ a3).mono ?_; rintro e w' ⟨rfl, rfl⟩))
  go_ret
  exact ⟨rfl, rfl⟩
end Go.Proofs.Ytbfhbekocgdceaa
