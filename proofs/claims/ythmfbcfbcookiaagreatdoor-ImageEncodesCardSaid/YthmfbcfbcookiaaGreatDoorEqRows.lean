/-
  Are two lists of lists of numbers the same; do the marks stand behind one: the walks. Conditions: lengths within 10 ^ 9.
-/
import Derived.Test.YthmfbcfbcookiaaGreatDoorRowW
import Derived.Test.YthmfbcfbcookiaaGreatDoorEqInts
namespace Go.Proofs.YthmfbcfbcookiaaGreatDoor
open Go.RowKit
theorem calls_joined {P : Program} {f : FuncId} {args : Array Value} {w : World} {d n : Nat} {v : Value} (h : Calls P f args (w.drewN (d + n)) fun e w' => e = .returned v ∧ ∃ m, w' = (w.drewN (d + n)).drewN m) :
    Calls P f args (w.drewN (d + n)) fun e w'' => e = .returned v ∧ ∃ m, w'' = w.drewN (d + m) :=
  h.mono fun _ _ ⟨he, m, hm⟩ => ⟨he, n + m, by rw [hm, World.drewN_drewN, Nat.add_assoc]⟩
theorem calls_joined_same {P : Program} {f : FuncId} {args : Array Value} {w : World} {d n : Nat} {v : Value} (h : Calls P f args (w.drewN (d + n)) fun e w' => e = .returned v ∧ w' = w.drewN (d + n)) :
    Calls P f args (w.drewN (d + n)) fun e w'' => e = .returned v ∧ ∃ m, w'' = w.drewN (d + m) :=
  h.mono fun _ _ ⟨he, hm⟩ => ⟨he, n, hm⟩
set_option maxHeartbeats 1000000 in
theorem eqRows_any (x y : List (List Int)) (A A' : Option Addr) (B B' cap cap' : Nat) (w : World) (hx : RowsLie w B A x) (hy : RowsLie w B' A' y) (hm : x.length ≤ 1000000000) (hr : ∀ r ∈ x, r.length ≤ 1000000000) :
    Calls Tryz.prog 36 #[.slice A x.length cap, .slice A' y.length cap'] w fun e w' => e = .returned (.bool (decide (x = y))) ∧ ∃ n, w' = w.drewN n := by
  by_cases hlen : x.length = y.length
  · go_enter Tryz.func36, Tryz.ntmps36
    go_wp2
    go_loopw [5] (fun i wr => ∃ k d : Nat, k ≤ x.length ∧ i = .int .i64 k ∧ x.take k = y.take k ∧ wr = w.drewN d) (fun i _ => x.length - (intOf i).toNat)
    case atStart => exact ⟨0, 0, by omega, rfl, rfl, rfl⟩
    case round =>
      obtain ⟨k, d, hk, rfl, heq, rfl⟩ := hrel
      have HE := Lib.hid heq; clear heq
      by_cases hlt : k < x.length
      · have hlt' : k < y.length := by omega
        obtain ⟨g, off, Ai, ci, rfl, _, hc, hli⟩ := hx k x[k] (List.getElem?_eq_getElem hlt)
        obtain ⟨g', off', Ai', ci', rfl, _, hc', hli'⟩ := hy k y[k] (List.getElem?_eq_getElem hlt')
        have hrk := hr x[k] (List.getElem_mem hlt)
        have hs : Hid (x[k] = y[k] → x.take (k + 1) = y.take (k + 1)) := Lib.hid (fun e => by rw [List.take_succ_eq_append_getElem hlt, List.take_succ_eq_append_getElem hlt', HE.out, e])
        have hne : Hid (x[k] ≠ y[k] → x ≠ y) := Lib.hid (fun h e => h (by subst e; rfl))
        generalize x[k] = c at *
        generalize y[k] = c' at *
        go_wp2_with fail
        go_quiet (first | (go_at_call 76; refine calls_joined (eqInts_any c c' _ _ B B' _ _ _ (hli.drewN _) (hli'.drewN _) (by omega))))
        by_cases hcc : c = c'
        · simp only [decide_eq_true hcc, Bool.not_true]
          have hs' := Lib.hid (hs.out hcc)
          clear hs hne hcc
          go_wp2
          go_roundw
          case rel => exact ⟨k + 1, _, by omega, by go_num, hs'.out, rfl⟩
          case measure => simp [intOf]; omega
        · simp only [decide_eq_false hcc, Bool.not_false]
          have hne' := hne.out hcc
          clear hs hne hcc
          go_wp2
          go_ret
          exact ⟨by simp [hne'], _, World.drewN_drewN _ _ _⟩
      · obtain rfl : k = x.length := by omega
        have he : x = y := by have := HE.out; rw [List.take_length, hlen, List.take_length] at this; exact this
        have HF := Lib.hid he; clear he
        go_wp2
        go_ret
        exact ⟨by simp [HF.out], _, rfl⟩
  · have hne : x ≠ y := fun e => hlen (by rw [e])
    go_enter Tryz.func36, Tryz.ntmps36
    go_wp2
    go_ret
    exact ⟨by simp [hne], 0, rfl⟩
set_option maxHeartbeats 1000000 in
theorem spareRows_any (g : Nat) (xs : List (List Int)) (cs : Array Value) (bs : Nat → Nat) (w : World) (hU : RowsUpto g (wideR xs) w cs bs (xs.length + 64)) (hl : xs.length ≤ 1000000000) (hr : ∀ r ∈ xs, r.length ≤ 1000000000) :
    Calls Tryz.prog 39 #[.slice (some ⟨g, 0, none⟩) xs.length (xs.length + 64)] w fun e w' => e = .returned (.bool true) ∧ ∃ d, w' = w.drewN d := by
  have HH : Hid (∀ i, ¬ i < xs.length → i < xs.length + 64 → w.cell? ⟨g, i, none⟩ = some (.slice (some ⟨bs i, 0, none⟩) 1 1) ∧ w.cell? ⟨bs i, 0, none⟩ = some (.int .i64 (1048576 * 9 + (i : Int) + 1))) := Lib.hid (fun i h1 h2 => by
    obtain ⟨e1, e2, _⟩ := hU.row i _ h2 (wideR_high xs i h1 h2)
    exact ⟨(hU.whole.cellAt i).trans e1, (e2.cellAt 0).trans rfl⟩)
  have HL : Hid (∀ i (h : i < xs.length), w.cell? ⟨g, i, none⟩ = some (.slice (some ⟨bs i, 0, none⟩) xs[i].length (xs[i].length + 64)) ∧ Whole w (bs i) 3 (ints (wideL xs[i])) ∧ xs[i].length ≤ 1000000000) := Lib.hid (fun i h => by
    obtain ⟨e1, e2, _⟩ := hU.row i _ (by omega) (wideR_low xs i xs[i] (List.getElem?_eq_getElem h))
    rw [wideL_length] at e1
    exact ⟨(hU.whole.cellAt i).trans e1, e2, hr _ (List.getElem_mem h)⟩)
  clear hU hr
  go_enter Tryz.func39, Tryz.ntmps39
  go_wp2_with fail
  go_loopw [4] (fun vi wr => ∃ i d : Nat, xs.length ≤ i ∧ i ≤ xs.length + 64 ∧ vi = .int .i64 i ∧ wr = w.drewN d) (fun vi _ => xs.length + 64 - (intOf vi).toNat)
  case atStart => exact ⟨xs.length, 0, by omega, by omega, rfl, rfl⟩
  case round =>
    obtain ⟨i, d, hn, hi, rfl, rfl⟩ := hrel
    by_cases hlt : i < xs.length + 64
    · obtain ⟨k0, k1⟩ := HH.out i (by omega) hlt
      go_wp2_with fail
      go_quiet (first | (go_at_call 65; refine calls_joined_same (num_same 9 i _ (by omega) (by omega))))
      go_wp2_with fail
      go_roundw
      case rel => exact ⟨i + 1, _, by omega, by omega, by go_num, rfl⟩
      case measure => simp [intOf]; omega
    · go_wp2_with fail
      go_loopw [6] (fun vi wr => ∃ i d : Nat, i ≤ xs.length ∧ vi = .int .i64 i ∧ wr = w.drewN d) (fun vi _ => xs.length - (intOf vi).toNat)
      case atStart => exact ⟨0, _, by omega, rfl, rfl⟩
      case round =>
        obtain ⟨i, d, hi, rfl, rfl⟩ := hrel
        by_cases hlt : i < xs.length
        · obtain ⟨k0, hw, hri⟩ := HL.out i hlt
          clear hn
          generalize xs[i] = x at *
          go_wp2_with fail
          refine (spareInts_any (bs i) x.length (ints (wideL x)) _ (hw.drewN _) hri (fun j h1 h2 => wideL_high x j (by omega) h2)).mono ?_
          rintro e w1 ⟨rfl, d1, rfl⟩
          go_wp2_with fail
          go_roundw
          case rel => exact ⟨i + 1, _, by omega, by go_num, rfl⟩
          case measure => simp [intOf]; omega
        · obtain rfl : i = xs.length := by omega
          go_wp2_with fail
          go_ret
          exact ⟨rfl, d, rfl⟩
end Go.Proofs.YthmfbcfbcookiaaGreatDoor
