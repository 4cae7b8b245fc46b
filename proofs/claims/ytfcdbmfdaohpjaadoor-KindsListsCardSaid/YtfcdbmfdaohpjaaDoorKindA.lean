/-
  Kinds: what a sign costs; the place of a name in a list of texts. Conditions: none.
-/
import Derived.Test.YtfcdbmfdaohpjaaDoorMem
import Derived.Test.YtfcdbmfdaohpjaaDoorKeep
import Derived.Test.YtfcdbmfdaohpjaaDoorProg
import Derived.WalkLawsBesides
import Derived.Outline
import Derived.LoopN
namespace Go.Proofs.YtfcdbmfdaohpjaaDoor
open Go.RowKit
theorem ret_int {k : IntKind} {x y : Int} (h : x = y) : Ending.returned (Value.int k x) = Ending.returned (Value.int k y) := by rw [h]
theorem one_any (n : Int) (w : World) : Calls Tryd.prog 27 #[.int .i64 n] w fun e w' => e = .returned (.int .i64 1) ∧ w = w' := by
  go_enter Tryd.func27, Tryd.ntmps27
  go_wp2_with fail
  go_ret
  exact ⟨rfl, rfl⟩
def eachV (n : Int) : Int := 1 + min (max n 0) 4611686018427387903
theorem each_any (n : Int) (w : World) : Calls Tryd.prog 28 #[.int .i64 n] w fun e w' => e = .returned (.int .i64 (eachV n)) ∧ w = w' := by
  go_enter Tryd.func28, Tryd.ntmps28
  go_wp2_with fail
  all_goals
    go_ret
    exact ⟨ret_int (by unfold eachV; (repeat' (split at *)) <;> omega), rfl⟩
/-- The place of a text in a list of texts; -1: none. -/
def placeOf : List ByteArray → ByteArray → Option Nat
  | [], _ => none
  | x :: l, s => if x = s then some 0 else (placeOf l s).map (· + 1)
def idxV (ns : List ByteArray) (s : ByteArray) : Int := match placeOf ns s with | some i => i | none => -1
theorem placeOf_take (s : ByteArray) : ∀ (ns : List ByteArray) (k : Nat) (h : k < ns.length), (∀ j, (hj : j < k) → ns[j]'(by omega) ≠ s) → ns[k] = s → placeOf ns s = some k
  | x :: l, 0, _, _, e => by
    have e' : x = s := e
    rw [placeOf, if_pos e']
  | x :: l, k + 1, h, hn, e => by
    have h0 : ¬ x = s := hn 0 (by omega)
    rw [placeOf, if_neg h0, placeOf_take s l k (by simpa using h) (fun j hj => by simpa using hn (j + 1) (by omega)) (by simpa using e)]
    rfl
theorem placeOf_none (s : ByteArray) : ∀ (ns : List ByteArray), (∀ x ∈ ns, x ≠ s) → placeOf ns s = none
  | [], _ => rfl
  | x :: l, h => by
    rw [placeOf, if_neg (h x List.mem_cons_self), placeOf_none s l (fun y hy => h y (List.mem_cons_of_mem _ hy))]
    rfl
theorem txt_ne {a b : ByteArray} (h : a ≠ b) : (a.toList == b.toList) = false := by
  rw [beq_eq_false_iff_ne]
  intro e
  rw [ByteArray.toList_eq, ByteArray.toList_eq] at e
  exact h (ByteArray.ext (Array.toList_inj.1 e))
theorem map_text (ns : List ByteArray) (k : Nat) (h : k < ns.length) : (ns.map Value.string)[k]? = some (.string ns[k]) := by simp [h]
theorem index_any (ns : List ByteArray) (s : ByteArray) (A : Option Addr) (B cap : Nat) (w : World) (hl : Lies w B A (ns.map Value.string)) (hm : ns.length ≤ 9223372036854775807) :
    Calls Tryd.prog 59 #[.slice A ns.length cap, .string s] w fun e w' => e = .returned (.int .i64 (idxV ns s)) ∧ w = w' := by
  go_enter Tryd.func59, Tryd.ntmps59
  go_wp2_with fail
  go_loop [8] (fun vi => ∃ k : Nat, k ≤ ns.length ∧ vi = .int .i64 k ∧ Hid (∀ j, (hj : j < ns.length) → j < k → ns[j] ≠ s)) (fun vi => ns.length - (intOf vi).toNat)
  case atStart => exact ⟨0, by omega, rfl, Lib.hid (fun j _ hj => by omega)⟩
  case round =>
    obtain ⟨k, hk, rfl, HN⟩ := hrel
    by_cases hlt : k < ns.length
    · obtain ⟨g, off, rfl, _, hc⟩ := hl k _ (map_text ns k hlt)
      by_cases hs : ns[k] = s
      · have HR : Hid (idxV ns s = k) := Lib.hid (by unfold idxV; rw [placeOf_take s ns k hlt (fun j hj => HN.out j (by omega) hj) hs])
        rw [hs] at hc
        clear hs
        go_wp2_with fail
        go_ret
        exact ⟨ret_int HR.out.symm, rfl⟩
      · have HN' : Hid (∀ j, (hj : j < ns.length) → j < k + 1 → ns[j] ≠ s) := Lib.hid (fun j hj hjk => by
          by_cases e : j = k
          · subst e; exact hs
          · exact HN.out j hj (by omega))
        have hb := txt_ne (fun e : s = ns[k] => hs e.symm)
        clear HN hs
        generalize ns[k] = x at *
        go_wp2_with fail
        go_round
        case rel => exact ⟨k + 1, by omega, by go_num, HN'⟩
        case measure => simp [intOf]; omega
    · have HR : Hid (idxV ns s = -1) := Lib.hid (by
        unfold idxV
        rw [placeOf_none s ns (fun x hx => by
          obtain ⟨j, hj, rfl⟩ := List.getElem_of_mem hx
          exact HN.out j hj (by omega))])
      go_wp2_with fail
      go_ret
      exact ⟨ret_int HR.out.symm, rfl⟩
def amongOk (ns : List ByteArray) (s : ByteArray) : Bool := (placeOf ns s).isSome
def amongAt (ns : List ByteArray) (s : ByteArray) : Int := ((placeOf ns s).getD 0 : Nat)
theorem idx_among (ns : List ByteArray) (s : ByteArray) : (amongOk ns s = true ∧ idxV ns s = amongAt ns s ∧ 0 ≤ idxV ns s) ∨ (amongOk ns s = false ∧ amongAt ns s = 0 ∧ idxV ns s = -1) := by
  unfold amongOk amongAt idxV
  cases placeOf ns s with
  | none => right; exact ⟨rfl, rfl, rfl⟩
  | some i => left; exact ⟨rfl, rfl, Int.natCast_nonneg i⟩
theorem among_any (ns : List ByteArray) (s : ByteArray) (A : Option Addr) (B cap : Nat) (w : World) (hl : Lies w B A (ns.map Value.string)) (hm : ns.length ≤ 9223372036854775807) :
    Calls Tryd.prog 53 #[.string s, .slice A ns.length cap] w fun e w' => e = .returned (.tuple #[.int .i64 (amongAt ns s), .bool (amongOk ns s)]) ∧ w = w' := by
  have HI := Lib.hid (index_any ns s A B cap w hl hm); clear hl
  rcases idx_among ns s with ⟨h1, h2, h3⟩ | ⟨h1, h2, h3⟩
  · rw [h1, ← h2]
    clear h1 h2
    have HZ : ∃ z, Hid (idxV ns s = z) := ⟨_, Lib.hid rfl⟩
    obtain ⟨z, HZ⟩ := HZ
    rw [HZ.out] at HI h3 ⊢
    go_enter Tryd.func53, Tryd.ntmps53
    go_wp2_with fail
    refine HI.out.mono ?_
    rintro e w' ⟨rfl, rfl⟩
    go_wp2_with fail
    go_ret2
    exact ⟨rfl, rfl⟩
  · rw [h1, h2]
    rw [h3] at HI
    clear h1 h2 h3
    go_enter Tryd.func53, Tryd.ntmps53
    go_wp2_with fail
    refine HI.out.mono ?_
    rintro e w' ⟨rfl, rfl⟩
    go_wp2_with fail
    go_ret2
    exact ⟨rfl, rfl⟩
end Go.Proofs.YtfcdbmfdaohpjaaDoor
