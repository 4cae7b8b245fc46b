/-
  Which numbers, which cards may be: the walks of the program's and of the document's. Conditions: none.
-/
import Derived.Test.YthmfbcfbcookiaaGreatDoorWMh
namespace Go.Proofs.YthmfbcfbcookiaaGreatDoor
open Go.RowKit
theorem stat_any (x : Int) (w : World) : Calls Tryz.prog 67 #[.int .i32 x] w fun e w' => e = .returned (.bool (statB x)) ∧ w' = w := by
  by_cases h1 : -1000000000 ≤ x
  · by_cases h2 : x ≤ 1000000000
    · go_enter Tryz.func67, Tryz.ntmps67
      go_wp2_with fail
      go_ret
      exact ⟨by simp [statB, h1, h2], rfl⟩
    · go_enter Tryz.func67, Tryz.ntmps67
      go_wp2_with fail
      go_ret
      exact ⟨by simp [statB, h1, h2], rfl⟩
  · go_enter Tryz.func67, Tryz.ntmps67
    go_wp2_with fail
    go_ret
    exact ⟨by simp [statB]; omega, rfl⟩
theorem refStat_any (x : Int) (w : World) : Calls Tryz.prog 97 #[.int .i32 x] w fun e w' => e = .returned (.bool (statB x)) ∧ w' = w := by
  by_cases h1 : -1000000000 ≤ x
  · by_cases h2 : x ≤ 1000000000
    · go_enter Tryz.func97, Tryz.ntmps97
      go_wp2_with fail
      go_ret
      exact ⟨by simp [statB, h1, h2], rfl⟩
    · go_enter Tryz.func97, Tryz.ntmps97
      go_wp2_with fail
      go_ret
      exact ⟨by simp [statB, h1, h2], rfl⟩
  · go_enter Tryz.func97, Tryz.ntmps97
    go_wp2_with fail
    go_ret
    exact ⟨by simp [statB]; omega, rfl⟩
theorem from_any (x lo hi : Int) (w : World) : Calls Tryz.prog 96 #[.int .i64 x, .int .i64 lo, .int .i64 hi] w fun e w' => e = .returned (.bool (decide (lo ≤ x) && decide (x ≤ hi))) ∧ w' = w := by
  by_cases h1 : lo ≤ x
  · go_enter Tryz.func96, Tryz.ntmps96
    go_wp2_with fail
    go_ret
    exact ⟨by simp [h1], rfl⟩
  · go_enter Tryz.func96, Tryz.ntmps96
    go_wp2_with fail
    go_ret
    exact ⟨by simp; omega, rfl⟩
set_option maxHeartbeats 1000000 in
theorem card_any (c : Cd) (n : Nat) (w : World) : Calls Tryz.prog 68 #[.agg #[.int .i64 c.kind, .int .i64 c.owner, .int .i32 c.power, .int .i32 c.health, .int .i32 c.damage, .int .i32 c.marks], .int .i64 n] w fun e w' => e = .returned (.bool (cardB n c)) ∧ Keeps (fun _ => False) w w' := by
  by_cases h0 : 0 ≤ c.kind
  rotate_left
  · have hz : Hid (cardB n c = false) := Lib.hid (by rw [cardB, decide_eq_false h0]; simp)
    go_enter Tryz.func68, Tryz.ntmps68
    go_wp2_with fail
    go_ret
    exact ⟨by rw [hz.out]; rfl, (Keeps.refl _ w).alloc _⟩
  by_cases h1 : c.kind ≤ 255
  rotate_left
  · have hz : Hid (cardB n c = false) := Lib.hid (by rw [cardB, decide_eq_false h1]; simp)
    go_enter Tryz.func68, Tryz.ntmps68
    go_wp2_with fail
    go_ret
    exact ⟨by rw [hz.out]; rfl, (Keeps.refl _ w).alloc _⟩
  by_cases h2 : 0 ≤ c.owner
  rotate_left
  · have hz : Hid (cardB n c = false) := Lib.hid (by rw [cardB, decide_eq_false h2]; simp)
    go_enter Tryz.func68, Tryz.ntmps68
    go_wp2_with fail
    go_ret
    exact ⟨by rw [hz.out]; rfl, (Keeps.refl _ w).alloc _⟩
  by_cases h3 : c.owner < (n : Int)
  rotate_left
  · have hz : Hid (cardB n c = false) := Lib.hid (by rw [cardB, decide_eq_false h3]; simp)
    go_enter Tryz.func68, Tryz.ntmps68
    go_wp2_with fail
    go_ret
    exact ⟨by rw [hz.out]; rfl, (Keeps.refl _ w).alloc _⟩
  go_enter Tryz.func68, Tryz.ntmps68
  go_wp2_with fail
  refine (stat_any c.power _).mono ?_
  rintro e w0 ⟨rfl, rfl⟩
  cases hs0 : statB c.power
  · have hz : Hid (cardB n c = false) := Lib.hid (by simp [cardB, hs0])
    go_wp2_with fail
    go_ret
    exact ⟨by rw [hz.out]; rfl, (Keeps.refl _ w).alloc _⟩
  go_wp2_with fail
  refine (stat_any c.health _).mono ?_
  rintro e w1 ⟨rfl, rfl⟩
  cases hs1 : statB c.health
  · have hz : Hid (cardB n c = false) := Lib.hid (by simp [cardB, hs1])
    go_wp2_with fail
    go_ret
    exact ⟨by rw [hz.out]; rfl, (Keeps.refl _ w).alloc _⟩
  go_wp2_with fail
  refine (stat_any c.damage _).mono ?_
  rintro e w2 ⟨rfl, rfl⟩
  cases hs2 : statB c.damage
  · have hz : Hid (cardB n c = false) := Lib.hid (by simp [cardB, hs2])
    go_wp2_with fail
    go_ret
    exact ⟨by rw [hz.out]; rfl, (Keeps.refl _ w).alloc _⟩
  go_wp2_with fail
  refine (stat_any c.marks _).mono ?_
  rintro e w3 ⟨rfl, rfl⟩
  cases hs3 : statB c.marks
  · have hz : Hid (cardB n c = false) := Lib.hid (by simp [cardB, hs3])
    go_wp2_with fail
    go_ret
    exact ⟨by rw [hz.out]; rfl, (Keeps.refl _ w).alloc _⟩
  have hz : Hid (cardB n c = true) := Lib.hid (by simp [cardB, h0, h1, h2, h3, hs0, hs1, hs2, hs3])
  go_wp2_with fail
  go_ret
  exact ⟨by rw [hz.out]; rfl, (Keeps.refl _ w).alloc _⟩
set_option maxHeartbeats 1000000 in
theorem refCard_any (c : Cd) (n : Nat) (w : World) (hn : n ≤ 1000) : Calls Tryz.prog 98 #[.agg #[.int .i64 c.kind, .int .i64 c.owner, .int .i32 c.power, .int .i32 c.health, .int .i32 c.damage, .int .i32 c.marks], .int .i64 n] w fun e w' => e = .returned (.bool (cardB n c)) ∧ Keeps (fun _ => False) w w' := by
  go_enter Tryz.func98, Tryz.ntmps98
  go_wp2_with fail
  refine (from_any c.kind 0 255 _).mono ?_
  rintro e v0 ⟨rfl, rfl⟩
  cases hk : decide (0 ≤ c.kind) && decide (c.kind ≤ 255)
  · have hz : Hid (cardB n c = false) := Lib.hid (by rw [cardB, hk]; simp)
    go_wp2_with fail
    go_ret
    exact ⟨by rw [hz.out]; rfl, (Keeps.refl _ w).alloc _⟩
  go_wp2_with fail
  refine (from_any c.owner 0 ((n : Int) - 1) _).mono ?_
  rintro e v0 ⟨rfl, rfl⟩
  have ho : (decide (c.owner ≤ (n : Int) - 1)) = decide (c.owner < (n : Int)) := by congr 1; exact propext ⟨fun h => by omega, fun h => by omega⟩
  rw [ho]
  clear ho
  cases hw : decide (0 ≤ c.owner) && decide (c.owner < (n : Int))
  · have hz : Hid (cardB n c = false) := Lib.hid (by rw [cardB, hk, Bool.true_and, hw]; simp)
    go_wp2_with fail
    go_ret
    exact ⟨by rw [hz.out]; rfl, (Keeps.refl _ w).alloc _⟩
  go_wp2_with fail
  refine (refStat_any c.power _).mono ?_
  rintro e w0 ⟨rfl, rfl⟩
  cases hs0 : statB c.power
  · have hz : Hid (cardB n c = false) := Lib.hid (by simp [cardB, hs0])
    go_wp2_with fail
    go_ret
    exact ⟨by rw [hz.out]; rfl, (Keeps.refl _ w).alloc _⟩
  go_wp2_with fail
  refine (refStat_any c.health _).mono ?_
  rintro e w1 ⟨rfl, rfl⟩
  cases hs1 : statB c.health
  · have hz : Hid (cardB n c = false) := Lib.hid (by simp [cardB, hs1])
    go_wp2_with fail
    go_ret
    exact ⟨by rw [hz.out]; rfl, (Keeps.refl _ w).alloc _⟩
  go_wp2_with fail
  refine (refStat_any c.damage _).mono ?_
  rintro e w2 ⟨rfl, rfl⟩
  cases hs2 : statB c.damage
  · have hz : Hid (cardB n c = false) := Lib.hid (by simp [cardB, hs2])
    go_wp2_with fail
    go_ret
    exact ⟨by rw [hz.out]; rfl, (Keeps.refl _ w).alloc _⟩
  go_wp2_with fail
  refine (refStat_any c.marks _).mono ?_
  rintro e w3 ⟨rfl, rfl⟩
  cases hs3 : statB c.marks
  · have hz : Hid (cardB n c = false) := Lib.hid (by simp [cardB, hs3])
    go_wp2_with fail
    go_ret
    exact ⟨by rw [hz.out]; rfl, (Keeps.refl _ w).alloc _⟩
  have hz : Hid (cardB n c = true) := Lib.hid (by rw [cardB, hk, Bool.true_and, hw, hs0, hs1, hs2, hs3]; rfl)
  go_wp2_with fail
  go_ret
  exact ⟨by rw [hz.out]; rfl, (Keeps.refl _ w).alloc _⟩
end Go.Proofs.YthmfbcfbcookiaaGreatDoor
