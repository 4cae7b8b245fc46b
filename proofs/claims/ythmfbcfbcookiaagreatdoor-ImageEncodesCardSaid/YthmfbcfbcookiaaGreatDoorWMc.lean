/-
  Are two lists of cards the same: the walk. Conditions: a length within 10 ^ 9.
-/
import Derived.Test.YthmfbcfbcookiaaGreatDoorWMd
import Derived.Test.YthmfbcfbcookiaaGreatDoorEqInts
import Derived.Laws.StructEq
namespace Go.Proofs.YthmfbcfbcookiaaGreatDoor
open Go.RowKit
theorem ne_cd (c c' : Cd) (w : World) : (binOp .neq 42 (.agg #[.int .i64 c.kind, .int .i64 c.owner, .int .i32 c.power, .int .i32 c.health, .int .i32 c.damage, .int .i32 c.marks]) (.agg #[.int .i64 c'.kind, .int .i64 c'.owner, .int .i32 c'.power, .int .i32 c'.health, .int .i32 c'.damage, .int .i32 c'.marks])).run Tryz.prog w = .ok (.bool (!decide (c = c'))) w := by
  rw [run_neq_struct, run_equalIn_struct _ _ _ _ _ (by kernel_rfl) (by kernel_rfl)]
  have hu := Tryz.underlying42
  simp [Program.fieldsOf, hu, Op.eqFields, go_sem, Tryz.underlying3, Tryz.underlying21]
  clear hu
  by_cases h : c = c'
  · subst h; simp
  · rw [decide_eq_false h]
    repeat' split
    all_goals first
      | rfl
      | (refine absurd (?_ : c = c') h
         cases c; cases c'
         simp only [Cd.mk.injEq]
         exact ⟨by assumption, by assumption, by assumption, by assumption, by assumption, by assumption⟩)
set_option maxHeartbeats 1000000 in
theorem eqCards_any (x y : List Cd) (A A' : Option Addr) (B B' cap cap' : Nat) (w : World) (hx : CdLies w B A x) (hy : CdLies w B' A' y) (hm : x.length ≤ 1000000000) :
    Calls Tryz.prog 35 #[.slice A x.length cap, .slice A' y.length cap'] w fun e w' => e = .returned (.bool (decide (x = y))) ∧ ∃ n, w' = w.drewN n := by
  by_cases hlen : x.length = y.length
  · go_enter Tryz.func35, Tryz.ntmps35
    go_wp2
    go_loopw [5] (fun i wr => ∃ k d : Nat, k ≤ x.length ∧ i = .int .i64 k ∧ x.take k = y.take k ∧ wr = w.drewN d) (fun i _ => x.length - (intOf i).toNat)
    case atStart => exact ⟨0, 0, by omega, rfl, rfl, rfl⟩
    case round =>
      obtain ⟨k, d, hk, rfl, heq, rfl⟩ := hrel
      have HE := Lib.hid heq; clear heq
      by_cases hlt : k < x.length
      · have hlt' : k < y.length := by omega
        obtain ⟨g, off, rfl, _, k0, k1, k2, k3, k4, k5⟩ := CdLies.cells hx k x[k] (List.getElem?_eq_getElem hlt)
        obtain ⟨g', off', rfl, _, l0, l1, l2, l3, l4, l5⟩ := CdLies.cells hy k y[k] (List.getElem?_eq_getElem hlt')
        by_cases hxy : x[k] = y[k]
        · have hs : Hid (x.take (k + 1) = y.take (k + 1)) := Lib.hid (by rw [List.take_succ_eq_append_getElem hlt, List.take_succ_eq_append_getElem hlt', HE.out, hxy])
          have ht : (!decide (x[k] = y[k])) = false := by rw [decide_eq_true hxy]; rfl
          have hq := fun w => ne_cd x[k] y[k] w
          rw [ht] at hq
          clear hxy ht
          generalize x[k] = c at *
          generalize y[k] = c' at *
          go_wp2_with fail
          go_quiet (fail)
          go_wp2
          go_roundw
          case rel => exact ⟨k + 1, _, by omega, by go_num, hs.out, rfl⟩
          case measure => simp [intOf]; omega
        · have hne : x ≠ y := fun e => hxy (by subst e; rfl)
          have ht : (!decide (x[k] = y[k])) = true := by rw [decide_eq_false hxy]; rfl
          have hq := fun w => ne_cd x[k] y[k] w
          rw [ht] at hq
          clear hxy ht
          generalize x[k] = c at *
          generalize y[k] = c' at *
          go_wp2_with fail
          go_quiet (fail)
          go_wp2
          go_ret
          exact ⟨by simp [hne], _, World.drewN_drewN _ _ _⟩
      · obtain rfl : k = x.length := by omega
        have he : x = y := by have := HE.out; rw [List.take_length, hlen, List.take_length] at this; exact this
        have HF := Lib.hid he; clear he
        go_wp2
        go_ret
        exact ⟨by simp [HF.out], _, rfl⟩
  · have hne : x ≠ y := fun e => hlen (by rw [e])
    go_enter Tryz.func35, Tryz.ntmps35
    go_wp2
    go_ret
    exact ⟨by simp [hne], 0, rfl⟩
end Go.Proofs.YthmfbcfbcookiaaGreatDoor
/-
  Are two lists of players the same: the walk. Conditions: a length within 10 ^ 9.
-/
namespace Go.Proofs.YthmfbcfbcookiaaGreatDoor
open Go.RowKit
theorem ne_pl (c c' : Pl) (w : World) : (binOp .neq 44 (.agg #[.int .i32 c.life, .int .i32 c.energy, .bool c.out]) (.agg #[.int .i32 c'.life, .int .i32 c'.energy, .bool c'.out])).run Tryz.prog w = .ok (.bool (!decide (c = c'))) w := by
  rw [run_neq_struct, run_equalIn_struct _ _ _ _ _ (by kernel_rfl) (by kernel_rfl)]
  have hu := Tryz.underlying44
  simp [Program.fieldsOf, hu, Op.eqFields, go_sem, Tryz.underlying21, Tryz.underlying4]
  clear hu
  by_cases h : c = c'
  · subst h; simp
  · rw [decide_eq_false h]
    repeat' split
    all_goals first
      | rfl
      | (refine absurd (?_ : c = c') h
         cases c; cases c'
         simp only [Pl.mk.injEq]
         exact ⟨by assumption, by assumption, by assumption⟩)
set_option maxHeartbeats 1000000 in
theorem eqPlayers_any (x y : List Pl) (A A' : Option Addr) (B B' cap cap' : Nat) (w : World) (hx : PlLies w B A x) (hy : PlLies w B' A' y) (hm : x.length ≤ 1000000000) :
    Calls Tryz.prog 34 #[.slice A x.length cap, .slice A' y.length cap'] w fun e w' => e = .returned (.bool (decide (x = y))) ∧ ∃ n, w' = w.drewN n := by
  by_cases hlen : x.length = y.length
  · go_enter Tryz.func34, Tryz.ntmps34
    go_wp2
    go_loopw [5] (fun i wr => ∃ k d : Nat, k ≤ x.length ∧ i = .int .i64 k ∧ x.take k = y.take k ∧ wr = w.drewN d) (fun i _ => x.length - (intOf i).toNat)
    case atStart => exact ⟨0, 0, by omega, rfl, rfl, rfl⟩
    case round =>
      obtain ⟨k, d, hk, rfl, heq, rfl⟩ := hrel
      have HE := Lib.hid heq; clear heq
      by_cases hlt : k < x.length
      · have hlt' : k < y.length := by omega
        obtain ⟨g, off, rfl, _, k0, k1, k2⟩ := PlLies.cells hx k x[k] (List.getElem?_eq_getElem hlt)
        obtain ⟨g', off', rfl, _, l0, l1, l2⟩ := PlLies.cells hy k y[k] (List.getElem?_eq_getElem hlt')
        by_cases hxy : x[k] = y[k]
        · have hs : Hid (x.take (k + 1) = y.take (k + 1)) := Lib.hid (by rw [List.take_succ_eq_append_getElem hlt, List.take_succ_eq_append_getElem hlt', HE.out, hxy])
          have ht : (!decide (x[k] = y[k])) = false := by rw [decide_eq_true hxy]; rfl
          have hq := fun w => ne_pl x[k] y[k] w
          rw [ht] at hq
          clear hxy ht
          generalize x[k] = c at *
          generalize y[k] = c' at *
          go_wp2_with fail
          go_quiet (fail)
          go_wp2
          go_roundw
          case rel => exact ⟨k + 1, _, by omega, by go_num, hs.out, rfl⟩
          case measure => simp [intOf]; omega
        · have hne : x ≠ y := fun e => hxy (by subst e; rfl)
          have ht : (!decide (x[k] = y[k])) = true := by rw [decide_eq_false hxy]; rfl
          have hq := fun w => ne_pl x[k] y[k] w
          rw [ht] at hq
          clear hxy ht
          generalize x[k] = c at *
          generalize y[k] = c' at *
          go_wp2_with fail
          go_quiet (fail)
          go_wp2
          go_ret
          exact ⟨by simp [hne], _, World.drewN_drewN _ _ _⟩
      · obtain rfl : k = x.length := by omega
        have he : x = y := by have := HE.out; rw [List.take_length, hlen, List.take_length] at this; exact this
        have HF := Lib.hid he; clear he
        go_wp2
        go_ret
        exact ⟨by simp [HF.out], _, rfl⟩
  · have hne : x ≠ y := fun e => hlen (by rw [e])
    go_enter Tryz.func34, Tryz.ntmps34
    go_wp2
    go_ret
    exact ⟨by simp [hne], 0, rfl⟩
end Go.Proofs.YthmfbcfbcookiaaGreatDoor
