/-
  Chapter 04: the plain functions on lists of numbers: the walks. Conditions: lengths within 10 ^ 9.
-/
import Derived.Test.YtbfhbekocgdceaaGcI
import Derived.Deep.OwnRows
import Derived.Deep.Onto
import Derived.WalkMore
namespace Go.Proofs.Ytbfhbekocgdceaa
open Go.RowKit
theorem map_get {k : IntKind} (l : List Int) (i : Nat) (h : i < l.length) : (l.map (Value.int k))[i]? = some (.int k (l[i])) := by simp [h]
set_option maxHeartbeats 400000 in
theorem rsame_any (x y : List Int) (A A' : Option Addr) (B B' cap cap' : Nat) (w : World) (hx : Lies w B A (x.map (Value.int .i64))) (hy : Lies w B' A' (y.map (Value.int .i64))) (hm : x.length ≤ 9223372036854775807) :
    Calls Try.prog 28 #[.slice A x.length cap, .slice A' y.length cap'] w fun e w' => e = .returned (.bool (decide (x = y))) ∧ ∃ n, w' = w.drewN n := by
  by_cases hlen : x.length = y.length
  · go_enter Try.func28, Try.ntmps28
    go_wp2
    go_loopw [5] (fun i wr => ∃ k d : Nat, k ≤ x.length ∧ i = .int .i64 k ∧ x.take k = y.take k ∧ wr = w.drewN d) (fun i _ => x.length - (intOf i).toNat)
    case atStart => exact ⟨0, 0, by omega, rfl, rfl, rfl⟩
    case round =>
      obtain ⟨k, d, hk, rfl, heq, rfl⟩ := hrel
      have HE := Lib.hid heq; clear heq
      by_cases hlt : k < x.length
      · have hlt' : k < y.length := by omega
        obtain ⟨g, off, rfl, _, hc⟩ := hx k _ (map_get x k hlt)
        obtain ⟨g', off', rfl, _, hc'⟩ := hy k _ (map_get y k hlt')
        by_cases hxy : x[k] = y[k]
        · have hs : Hid (x.take (k + 1) = y.take (k + 1)) := Lib.hid (by rw [List.take_succ_eq_append_getElem hlt, List.take_succ_eq_append_getElem hlt', HE.out, hxy])
          have ht : ((x[k] : Int) != y[k]) = false := by rw [hxy]; simp
          have HL := Lib.hid hlen; clear hlen hxy
          go_wp2_with fail
          go_quiet (fail)
          go_wp2
          go_roundw
          case rel => exact ⟨k + 1, _, by omega, by go_num, hs.out, rfl⟩
          case measure => simp [intOf]; omega
        · have ht : ((x[k] : Int) != y[k]) = true := by
            rw [bne_iff_ne]; exact hxy
          have hne : x ≠ y := fun e => hxy (by subst e; rfl)
          go_wp2_with fail
          go_quiet (fail)
          go_wp2
          go_ret
          exact ⟨by simp [hne], _, World.drewN_drewN _ _ _⟩
      · obtain rfl : k = x.length := by omega
        have he : x = y := by have := HE.out; rw [List.take_length, hlen, List.take_length] at this; exact this
        have HF := Lib.hid he; clear he
        go_wp2
        go_ret
        exact ⟨by simp [HF.out], _, rfl⟩
  · have hne : x ≠ y := fun e => hlen (by rw [e])
    go_enter Try.func28, Try.ntmps28
    go_wp2
    go_ret
    exact ⟨by simp [hne], 0, rfl⟩
/-- Where a number stands first. -/
def findZ (xs : List Int) (x : Int) : Int := match xs.findIdx? (· == x) with
  | some i => i
  | none => -1
theorem findZ_at {xs : List Int} {x : Int} {k : Nat} (hk : k < xs.length) (h : xs[k] = x) (hn : ∀ j (hj : j < k), xs[j]'(by omega) ≠ x) : findZ xs x = k := by
  unfold findZ
  have : xs.findIdx? (· == x) = some k := by
    rw [List.findIdx?_eq_some_iff_getElem]
    exact ⟨hk, by simp [h], fun j hj => by simp [hn j hj]⟩
  rw [this]
theorem findZ_none {xs : List Int} {x : Int} (hn : ∀ j (hj : j < xs.length), xs[j] ≠ x) : findZ xs x = -1 := by
  unfold findZ
  have : xs.findIdx? (· == x) = none := by
    rw [List.findIdx?_eq_none_iff]
    intro y hy
    obtain ⟨j, hj, rfl⟩ := List.mem_iff_getElem.1 hy
    simp [hn j hj]
  rw [this]
theorem rfind_any (xs : List Int) (x : Int) (A : Option Addr) (cap B : Nat) (w : World) (hx : Lies w B A (xs.map (Value.int .i64))) (hl : xs.length ≤ 1000000000) :
    Calls Try.prog 25 #[.slice A xs.length cap, .int .i64 x] w fun e w' => e = .returned (.int .i64 (findZ xs x)) ∧ w = w' := by
  have HX := Lib.hid hx; clear hx
  go_enter Try.func25, Try.ntmps25
  go_wp2_with fail
  go_loop [9] (fun v => ∃ k : Nat, k ≤ xs.length ∧ v = .int .i64 k ∧ Hid (∀ j (hj : j < k) (h : j < xs.length), xs[j] ≠ x)) (fun v => xs.length - (intOf v).toNat)
  case atStart => exact ⟨0, by omega, rfl, Lib.hid (fun _ h => absurd h (Nat.not_lt_zero _))⟩
  case round =>
    obtain ⟨k, hk, rfl, HN⟩ := hrel
    by_cases hlt : k < xs.length
    · obtain ⟨g, off, rfl, _, hc⟩ := HX.out k _ (map_get xs k hlt)
      by_cases he : xs[k] = x
      · have HF := Lib.hid (findZ_at hlt he (fun j hj => HN.out j hj (by omega)))
        subst he
        clear HN HX
        go_wp2_with fail
        go_ret
        exact ⟨by rw [HF.out]; rfl, rfl⟩
      · have ht : ((xs[k] : Int) == x) = false := by simpa using he
        have HN2 : Hid (∀ j (hj : j < k + 1) (h : j < xs.length), xs[j] ≠ x) := Lib.hid (fun j hj h => by
          by_cases e : j = k
          · subst e; exact he
          · exact HN.out j (by omega) h)
        clear HN he
        generalize xs[k] = y at *
        go_wp2_with fail
        go_round
        case rel => exact ⟨k + 1, by omega, by go_num, HN2⟩
        case measure => simp [intOf]; omega
    · obtain rfl : k = xs.length := by omega
      have HF := Lib.hid (findZ_none (fun j hj => HN.out j hj hj))
      clear HN HX
      go_wp2_with fail
      go_ret
      exact ⟨by rw [HF.out]; rfl, rfl⟩
theorem refFind_any (xs : List Int) (x : Int) (A : Option Addr) (cap B : Nat) (w : World) (hx : Lies w B A (xs.map (Value.int .i64))) (hl : xs.length ≤ 1000000000) :
    Calls Try.prog 29 #[.slice A xs.length cap, .int .i64 x] w fun e w' => e = .returned (.int .i64 (findZ xs x)) ∧ w = w' := by
  have HX := Lib.hid hx; clear hx
  go_enter Try.func29, Try.ntmps29
  go_wp2_with fail
  go_loop [5] (fun v => ∃ k : Nat, k ≤ xs.length ∧ v = .int .i64 k ∧ Hid (∀ j (hj : j < k) (h : j < xs.length), xs[j] ≠ x)) (fun v => xs.length - (intOf v).toNat)
  case atStart => exact ⟨0, by omega, rfl, Lib.hid (fun _ h => absurd h (Nat.not_lt_zero _))⟩
  case round =>
    obtain ⟨k, hk, rfl, HN⟩ := hrel
    by_cases hlt : k < xs.length
    · obtain ⟨g, off, rfl, _, hc⟩ := HX.out k _ (map_get xs k hlt)
      by_cases he : xs[k] = x
      · have HF := Lib.hid (findZ_at hlt he (fun j hj => HN.out j hj (by omega)))
        subst he
        clear HN HX
        go_wp2_with fail
        go_ret
        exact ⟨by rw [HF.out]; rfl, rfl⟩
      · have ht : ((xs[k] : Int) == x) = false := by simpa using he
        have HN2 : Hid (∀ j (hj : j < k + 1) (h : j < xs.length), xs[j] ≠ x) := Lib.hid (fun j hj h => by
          by_cases e : j = k
          · subst e; exact he
          · exact HN.out j (by omega) h)
        clear HN he
        generalize xs[k] = y at *
        go_wp2_with fail
        go_round
        case rel => exact ⟨k + 1, by omega, by go_num, HN2⟩
        case measure => simp [intOf]; omega
    · obtain rfl : k = xs.length := by omega
      have HF := Lib.hid (findZ_none (fun j hj => HN.out j hj hj))
      clear HN HX
      go_wp2_with fail
      go_ret
      exact ⟨by rw [HF.out]; rfl, rfl⟩
end Go.Proofs.Ytbfhbekocgdceaa
