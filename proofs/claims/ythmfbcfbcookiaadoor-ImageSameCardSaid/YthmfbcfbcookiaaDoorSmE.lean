/-
  state.Same: the walks of slices.Equal, slices.EqualFunc and of Same. Conditions: lengths within 10 ^ 9.
-/
import Derived.Test.YthmfbcfbcookiaaDoorStX
namespace Go.Proofs.YthmfbcfbcookiaaDoor
open Go.RowKit
set_option maxHeartbeats 400000 in
theorem equalI_any (x y : List Int) (A A' : Option Addr) (B B' cap cap' : Nat) (w : World) (hx : Lies w B A (x.map (Value.int .i64))) (hy : Lies w B' A' (y.map (Value.int .i64))) (hm : x.length ≤ 9223372036854775807) :
    Calls Tryd.prog 39 #[.slice A x.length cap, .slice A' y.length cap'] w fun e w' => e = .returned (.bool (decide (x = y))) ∧ ∃ n, w' = w.drewN n := by
  by_cases hlen : x.length = y.length
  · go_enter Tryd.func39, Tryd.ntmps39
    go_wp2
    go_loopw [13] (fun i wr => ∃ k d : Nat, k ≤ x.length ∧ i = .int .i64 k ∧ x.take k = y.take k ∧ wr = w.drewN d) (fun i _ => x.length - (intOf i).toNat)
    case atStart => exact ⟨0, 0, by omega, rfl, rfl, rfl⟩
    case round =>
      obtain ⟨k, d, hk, rfl, heq, rfl⟩ := hrel
      have HE := Lib.hid heq; clear heq
      by_cases hlt : k < x.length
      · have hlt' : k < y.length := by omega
        obtain ⟨g, off, rfl, _, hc⟩ := hx k _ (map_get x k hlt)
        obtain ⟨g', off', rfl, _, hc'⟩ := hy k _ (map_get y k hlt')
        by_cases hxy : x[k] = y[k]
        · have hs : Hid (x.take (k + 1) = y.take (k + 1)) := Lib.hid (by rw [List.take_succ_eq_append_getElem hlt, List.take_succ_eq_append_getElem hlt', HE.out, hxy])
          have ht : ((x[k] : Int) != y[k]) = false := by rw [hxy]; simp
          have HL := Lib.hid hlen; clear hlen hxy
          go_wp2_with fail
          go_quiet (fail)
          go_wp2
          go_roundw
          case rel => exact ⟨k + 1, _, by omega, by go_num, hs.out, rfl⟩
          case measure => simp [intOf]; omega
        · have ht : ((x[k] : Int) != y[k]) = true := by
            rw [bne_iff_ne]; exact hxy
          have hne : x ≠ y := fun e => hxy (by subst e; rfl)
          go_wp2_with fail
          go_quiet (fail)
          go_wp2
          go_ret
          exact ⟨by simp [hne], _, World.drewN_drewN _ _ _⟩
      · obtain rfl : k = x.length := by omega
        have he : x = y := by have := HE.out; rw [List.take_length, hlen, List.take_length] at this; exact this
        have HF := Lib.hid he; clear he
        go_wp2
        go_ret
        exact ⟨by simp [HF.out], _, rfl⟩
  · have hne : x ≠ y := fun e => hlen (by rw [e])
    go_enter Tryd.func39, Tryd.ntmps39
    go_wp2
    go_ret
    exact ⟨by simp [hne], 0, rfl⟩
set_option maxHeartbeats 1000000 in
theorem equalR_any (x y : List (List Int)) (A A' : Option Addr) (B B' cap cap' : Nat) (w : World) (hx : RowsLie w B A x) (hy : RowsLie w B' A' y) (hm : x.length ≤ 1000000000) (hr : ∀ r ∈ x, r.length ≤ 1000000000) :
    Calls Tryd.prog 38 #[.slice A x.length cap, .slice A' y.length cap', .func (.func 39) #[] #[]] w fun e w' => e = .returned (.bool (decide (x = y))) ∧ ∃ n, w' = w.drewN n := by
  by_cases hlen : x.length = y.length
  · go_enter Tryd.func38, Tryd.ntmps38
    go_wp2
    go_loopw [17] (fun i wr => ∃ k d : Nat, k ≤ x.length ∧ i = .int .i64 k ∧ x.take k = y.take k ∧ wr = w.drewN d) (fun i _ => x.length - (intOf i).toNat)
    case atStart => exact ⟨0, 0, by omega, rfl, rfl, rfl⟩
    case round =>
      obtain ⟨k, d, hk, rfl, heq, rfl⟩ := hrel
      have HE := Lib.hid heq; clear heq
      by_cases hlt : k < x.length
      · have hlt' : k < y.length := by omega
        obtain ⟨g, off, Ai, ci, rfl, _, hc, hli⟩ := hx k x[k] (List.getElem?_eq_getElem hlt)
        obtain ⟨g', off', Ai', ci', rfl, _, hc', hli'⟩ := hy k y[k] (List.getElem?_eq_getElem hlt')
        have hrk := hr x[k] (List.getElem_mem hlt)
        have hs : Hid (x[k] = y[k] → x.take (k + 1) = y.take (k + 1)) := Lib.hid (fun e => by rw [List.take_succ_eq_append_getElem hlt, List.take_succ_eq_append_getElem hlt', HE.out, e])
        have hne : Hid (x[k] ≠ y[k] → x ≠ y) := Lib.hid (fun h e => h (by subst e; rfl))
        generalize x[k] = c at *
        generalize y[k] = c' at *
        go_wp2_with fail
        refine (equalI_any c c' _ _ B B' _ _ _ (hli.drewN d) (hli'.drewN d) (by omega)).mono ?_
        rintro e w1 ⟨rfl, n1, rfl⟩
        by_cases hcc : c = c'
        · simp only [decide_eq_true hcc]
          have hs' := Lib.hid (hs.out hcc)
          clear hs hne hcc
          go_wp2
          go_roundw
          case rel => exact ⟨k + 1, _, by omega, by go_num, hs'.out, rfl⟩
          case measure => simp [intOf]; omega
        · simp only [decide_eq_false hcc]
          have hne' := hne.out hcc
          clear hs hne hcc
          go_wp2
          go_ret
          exact ⟨by simp [hne'], _, rfl⟩
      · obtain rfl : k = x.length := by omega
        have he : x = y := by have := HE.out; rw [List.take_length, hlen, List.take_length] at this; exact this
        have HF := Lib.hid he; clear he
        go_wp2
        go_ret
        exact ⟨by simp [HF.out], _, rfl⟩
  · have hne : x ≠ y := fun e => hlen (by rw [e])
    go_enter Tryd.func38, Tryd.ntmps38
    go_wp2
    go_ret
    exact ⟨by simp [hne], 0, rfl⟩
end Go.Proofs.YthmfbcfbcookiaaDoor
