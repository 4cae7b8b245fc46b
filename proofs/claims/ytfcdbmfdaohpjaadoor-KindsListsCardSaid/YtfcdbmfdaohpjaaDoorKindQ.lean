/-
  Kinds: what the document's signs cost; the document's events, zones and words: the walks. Conditions: none.
-/
import Derived.Test.YtfcdbmfdaohpjaaDoorKindR
namespace Go.Proofs.YtfcdbmfdaohpjaaDoor
open Go.RowKit
/-- What a sign costs. -/
def gasW (f : Nat) (n : Int) : Int := if f = 27 then 1 else eachV n
def manyB (q i : Nat) : Bool := (q == 0 && i == 10) || (q == 1 && i == 4) || (q == 2 && i == 8)
def costV (b : Bool) (n : Int) : Int := if b then eachV n else 1
theorem many_gas : ∀ q, q < 3 → ∀ i, i < (tbl q).length → manyB q i = !(((tbl q).getD i ⟨⟨#[]⟩, [], 0, 0⟩).gas == 27) := by decide +kernel
theorem cost_gas {q i : Nat} {a : Sg} (hq : q < 3) (hi : (tbl q)[i]? = some a) (n : Int) : costV (manyB q i) n = gasW a.gas n := by
  have h := many_gas q hq i (List.getElem?_eq_some_iff.1 hi).1
  rw [List.getD_eq_getElem?_getD, hi] at h
  unfold costV gasW
  rw [h]
  by_cases e : a.gas = 27
  · simp [e]
  · simp [e]
set_option maxHeartbeats 1000000 in
theorem cost_yes (q i : Nat) (n : Int) (h : (q = 0 ∧ i = 10) ∨ (q = 1 ∧ i = 4) ∨ (q = 2 ∧ i = 8)) (w : World) : Calls Tryd.prog 26 #[.int .i64 q, .int .i64 i, .int .i64 n] w fun e w' => e = .returned (.int .i64 (eachV n)) ∧ w = w' := by
  by_cases h1 : n ≤ 0
  · have HE : Hid (eachV n = 1) := Lib.hid (by unfold eachV; omega)
    rcases h with ⟨rfl, rfl⟩ | ⟨rfl, rfl⟩ | ⟨rfl, rfl⟩
    all_goals
      go_enter Tryd.func26, Tryd.ntmps26
      go_wp2_with fail
      go_ret
      exact ⟨ret_int HE.out.symm, rfl⟩
  · by_cases h2 : 4611686018427387904 ≤ n
    · have HE : Hid (eachV n = 4611686018427387904) := Lib.hid (by unfold eachV; omega)
      rcases h with ⟨rfl, rfl⟩ | ⟨rfl, rfl⟩ | ⟨rfl, rfl⟩
      all_goals
        go_enter Tryd.func26, Tryd.ntmps26
        go_wp2_with fail
        go_ret
        exact ⟨ret_int HE.out.symm, rfl⟩
    · have HE : Hid (eachV n = 1 + n) := Lib.hid (by unfold eachV; omega)
      rcases h with ⟨rfl, rfl⟩ | ⟨rfl, rfl⟩ | ⟨rfl, rfl⟩
      all_goals
        go_enter Tryd.func26, Tryd.ntmps26
        go_wp2_with fail
        go_ret
        exact ⟨ret_int HE.out.symm, rfl⟩
set_option maxHeartbeats 1000000 in
theorem cost_no (q i : Nat) (n : Int) (hq : q < 3) (h0 : q = 0 → ¬ i = 10) (h1 : q = 1 → ¬ i = 4) (h2 : q = 2 → ¬ i = 8) (w : World) : Calls Tryd.prog 26 #[.int .i64 q, .int .i64 i, .int .i64 n] w fun e w' => e = .returned (.int .i64 1) ∧ w = w' := by
  rcases three hq with rfl | rfl | rfl
  · have hi : ¬ ((i : Int) = 10) := by have := h0 rfl; omega
    clear h0 h1 h2 hq
    go_enter Tryd.func26, Tryd.ntmps26
    go_wp2_with fail
    go_ret
    exact ⟨rfl, rfl⟩
  · have hi : ¬ ((i : Int) = 4) := by have := h1 rfl; omega
    clear h0 h1 h2 hq
    go_enter Tryd.func26, Tryd.ntmps26
    go_wp2_with fail
    go_ret
    exact ⟨rfl, rfl⟩
  · have hi : ¬ ((i : Int) = 8) := by have := h2 rfl; omega
    clear h0 h1 h2 hq
    go_enter Tryd.func26, Tryd.ntmps26
    go_wp2_with fail
    go_ret
    exact ⟨rfl, rfl⟩
theorem cost_any (q i : Nat) (a : Sg) (n : Int) (hq : q < 3) (hi : (tbl q)[i]? = some a) (w : World) : Calls Tryd.prog 26 #[.int .i64 q, .int .i64 i, .int .i64 n] w fun e w' => e = .returned (.int .i64 (gasW a.gas n)) ∧ w = w' := by
  rw [← cost_gas hq hi]
  by_cases h : (q = 0 ∧ i = 10) ∨ (q = 1 ∧ i = 4) ∨ (q = 2 ∧ i = 8)
  · have e : manyB q i = true := by rcases h with ⟨rfl, rfl⟩ | ⟨rfl, rfl⟩ | ⟨rfl, rfl⟩ <;> rfl
    rw [e]; exact cost_yes q i n h w
  · have e : manyB q i = false := by
      rw [Bool.eq_false_iff]
      intro hm
      unfold manyB at hm
      simp only [Bool.or_eq_true, Bool.and_eq_true, beq_iff_eq] at hm
      exact h (by omega)
    rw [e]
    exact cost_no q i n hq (fun e h1 => h (.inl ⟨e, h1⟩)) (fun e h1 => h (.inr (.inl ⟨e, h1⟩))) (fun e h1 => h (.inr (.inr ⟨e, h1⟩))) w
theorem ret_two {a b : Int} {x y : Bool} (h : a = b) (h2 : x = y) : Ending.returned (.tuple #[Value.int .i64 a, .bool x]) = Ending.returned (.tuple #[Value.int .i64 b, .bool y]) := by rw [h, h2]
theorem place_any (ns : List ByteArray) (s : ByteArray) (A : Option Addr) (B cap : Nat) (w : World) (hl : Lies w B A (ns.map Value.string)) (hm : ns.length ≤ 9223372036854775807) :
    Calls Tryd.prog 54 #[.slice A ns.length cap, .string s] w fun e w' => e = .returned (.tuple #[.int .i64 (amongAt ns s), .bool (amongOk ns s)]) ∧ w = w' := by
  go_enter Tryd.func54, Tryd.ntmps54
  go_wp2_with fail
  go_loop [6] (fun vi => ∃ k : Nat, k ≤ ns.length ∧ vi = .int .i64 k ∧ Hid (∀ j, (hj : j < ns.length) → j < k → ns[j] ≠ s)) (fun vi => ns.length - (intOf vi).toNat)
  case atStart => exact ⟨0, by omega, rfl, Lib.hid (fun j _ hj => by omega)⟩
  case round =>
    obtain ⟨k, hk, rfl, HN⟩ := hrel
    by_cases hlt : k < ns.length
    · obtain ⟨g, off, rfl, _, hc⟩ := hl k _ (map_text ns k hlt)
      by_cases hs : ns[k] = s
      · have HR : Hid (placeOf ns s = some k) := Lib.hid (placeOf_take s ns k hlt (fun j hj => HN.out j (by omega) hj) hs)
        rw [hs] at hc
        clear hs
        go_wp2_with fail
        go_ret2
        exact ⟨ret_two (by unfold amongAt; rw [HR.out]; rfl) (by unfold amongOk; rw [HR.out]; rfl), rfl⟩
      · have HN' : Hid (∀ j, (hj : j < ns.length) → j < k + 1 → ns[j] ≠ s) := Lib.hid (fun j hj hjk => by
          by_cases e : j = k
          · subst e; exact hs
          · exact HN.out j hj (by omega))
        have hb := txt_ne hs
        clear HN hs
        generalize ns[k] = x at *
        go_wp2_with fail
        go_round
        case rel => exact ⟨k + 1, by omega, by go_num, HN'⟩
        case measure => simp [intOf]; omega
    · have HR : Hid (placeOf ns s = none) := Lib.hid (placeOf_none s ns (fun x hx => by
          obtain ⟨j, hj, rfl⟩ := List.getElem_of_mem hx
          exact HN.out j hj (by omega)))
      go_wp2_with fail
      go_ret2
      exact ⟨ret_two (by unfold amongAt; rw [HR.out]; rfl) (by unfold amongOk; rw [HR.out]; rfl), rfl⟩
theorem revents_any (s : ByteArray) (w : World) : Calls Tryd.prog 16 #[.string s] w fun e w' => e = .returned (.tuple #[.int .i64 (amongAt events s), .bool (amongOk events s)]) ∧ Below w.heap.size w w' := by
  go_enter Tryd.func16, Tryd.ntmps16
  go_wp2_with fail
  refine (place_any events s _ (w.heap.size + 1) 5 _ (Lies.row (t := 9) (fr := (0, 0)) (heap_alloc_new w _) (Nat.lt_succ_self _)) (by decide)).mono ?_
  rintro e w' ⟨rfl, rfl⟩
  go_wp2_with fail
  go_ret2
  exact ⟨rfl, (Below.refl _ _).alloc (Nat.le_refl _) _⟩
theorem rzones_any (s : ByteArray) (w : World) : Calls Tryd.prog 18 #[.string s] w fun e w' => e = .returned (.tuple #[.int .i64 (amongAt zones s), .bool (amongOk zones s)]) ∧ Below w.heap.size w w' := by
  go_enter Tryd.func18, Tryd.ntmps18
  go_wp2_with fail
  refine (place_any zones s _ (w.heap.size + 1) 4 _ (Lies.row (t := 9) (fr := (0, 0)) (heap_alloc_new w _) (Nat.lt_succ_self _)) (by decide)).mono ?_
  rintro e w' ⟨rfl, rfl⟩
  go_wp2_with fail
  go_ret2
  exact ⟨rfl, (Below.refl _ _).alloc (Nat.le_refl _) _⟩
end Go.Proofs.YtfcdbmfdaohpjaaDoor
