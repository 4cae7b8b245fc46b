/-
  Kinds: events, zones, words; the names of the kinds. Conditions: none.
-/
import Derived.Test.YtfcdbmfdaohpjaaKindA
namespace Go.Proofs.Ytfcdbmfdaohpjaa
open Go.RowKit
def events : List ByteArray := [⟨#[112, 108, 97, 121]⟩, ⟨#[100, 105, 101]⟩, ⟨#[104, 105, 116]⟩, ⟨#[116, 117, 114, 110]⟩, ⟨#[100, 114, 97, 119]⟩]
def zones : List ByteArray := [⟨#[100, 101, 99, 107]⟩, ⟨#[104, 97, 110, 100]⟩, ⟨#[98, 111, 97, 114, 100]⟩, ⟨#[103, 114, 97, 118, 101]⟩]
def words : List ByteArray := [⟨#[99, 97, 114, 100]⟩, ⟨#[99, 111, 115, 116]⟩, ⟨#[112, 111, 119, 101, 114]⟩, ⟨#[104, 101, 97, 108, 116, 104]⟩, ⟨#[116, 97, 103]⟩, ⟨#[111, 110]⟩, ⟨#[119, 104, 101, 110]⟩, ⟨#[108, 101, 116]⟩, ⟨#[105, 102]⟩, ⟨#[101, 108, 115, 101]⟩, ⟨#[114, 101, 112, 101, 97, 116]⟩, ⟨#[97, 115]⟩, ⟨#[101, 97, 99, 104]⟩, ⟨#[105, 110]⟩, ⟨#[99, 104, 111, 111, 115, 101]⟩, ⟨#[115, 116, 111, 112]⟩, ⟨#[97, 98, 111, 114, 116]⟩, ⟨#[116, 114, 117, 101]⟩, ⟨#[102, 97, 108, 115, 101]⟩, ⟨#[115, 101, 108, 102]⟩, ⟨#[109, 101]⟩, ⟨#[100, 101, 99, 107]⟩, ⟨#[104, 97, 110, 100]⟩, ⟨#[98, 111, 97, 114, 100]⟩, ⟨#[103, 114, 97, 118, 101]⟩, ⟨#[112, 108, 97, 121]⟩, ⟨#[100, 105, 101]⟩, ⟨#[104, 105, 116]⟩, ⟨#[116, 117, 114, 110]⟩, ⟨#[100, 114, 97, 119]⟩]
def kindNames : List ByteArray := [⟨#[110, 111, 110, 101]⟩, ⟨#[105, 110, 116]⟩, ⟨#[98, 111, 111, 108]⟩, ⟨#[99, 97, 114, 100]⟩, ⟨#[112, 108, 97, 121, 101, 114]⟩, ⟨#[122, 111, 110, 101]⟩, ⟨#[108, 105, 115, 116]⟩]
theorem events_any (s : ByteArray) (w : World) : Calls Try.prog 6 #[.string s] w fun e w' => e = .returned (.tuple #[.int .i64 (amongAt events s), .bool (amongOk events s)]) ∧ Below w.heap.size w w' := by
  go_enter Try.func6, Try.ntmps6
  go_wp2_with fail
  refine (among_any events s _ (w.heap.size + 1) 5 _ (Lies.row (t := 9) (fr := (0, 0)) (heap_alloc_new w _) (Nat.lt_succ_self _)) (by decide)).mono ?_
  rintro e w' ⟨rfl, rfl⟩
  go_wp2_with fail
  go_ret2
  exact ⟨rfl, (Below.refl _ _).alloc (Nat.le_refl _) _⟩
theorem zones_any (s : ByteArray) (w : World) : Calls Try.prog 7 #[.string s] w fun e w' => e = .returned (.tuple #[.int .i64 (amongAt zones s), .bool (amongOk zones s)]) ∧ Below w.heap.size w w' := by
  go_enter Try.func7, Try.ntmps7
  go_wp2_with fail
  refine (among_any zones s _ (w.heap.size + 1) 4 _ (Lies.row (t := 9) (fr := (0, 0)) (heap_alloc_new w _) (Nat.lt_succ_self _)) (by decide)).mono ?_
  rintro e w' ⟨rfl, rfl⟩
  go_wp2_with fail
  go_ret2
  exact ⟨rfl, (Below.refl _ _).alloc (Nat.le_refl _) _⟩
theorem words_any (s : ByteArray) (w : World) : Calls Try.prog 10 #[.string s] w fun e w' => e = .returned (.bool (amongOk words s)) ∧ Below w.heap.size w w' := by
  go_enter Try.func10, Try.ntmps10
  go_wp2_with fail
  refine (among_any words s _ (w.heap.size + 1) 30 _ (Lies.row (t := 9) (fr := (0, 0)) (heap_alloc_new w _) (Nat.lt_succ_self _)) (by decide)).mono ?_
  rintro e w' ⟨rfl, rfl⟩
  go_wp2_with fail
  go_ret
  exact ⟨rfl, (Below.refl _ _).alloc (Nat.le_refl _) _⟩
def kindName (k : Int) : ByteArray := if k < 0 then ⟨#[]⟩ else kindNames.getD k.toNat ⟨#[]⟩
set_option maxHeartbeats 1000000 in
theorem kind_any (k : Int) (hk0 : k ≤ 127) (w : World) : Calls Try.prog 12 #[.int .i8 k] w fun e w' => e = .returned (.string (kindName k)) ∧ Below w.heap.size w w' := by
  by_cases h0 : k < 0
  · have hk : Hid (kindName k = ⟨#[]⟩) := Lib.hid (if_pos h0)
    go_enter Try.func12, Try.ntmps12
    go_wp2_with fail
    go_ret
    exact ⟨by rw [hk.out]; rfl, (Below.refl _ _).alloc (Nat.le_refl _) _⟩
  · by_cases h7 : 7 ≤ k
    · have hk : Hid (kindName k = ⟨#[]⟩) := Lib.hid (by
        unfold kindName
        rw [if_neg h0, List.getD_eq_getElem?_getD, List.getElem?_eq_none (by show 7 ≤ k.toNat; omega)]; rfl)
      go_enter Try.func12, Try.ntmps12
      go_wp2_with fail
      go_ret
      exact ⟨by rw [hk.out]; rfl, (Below.refl _ _).alloc (Nat.le_refl _) _⟩
    · rcases (by omega : k = 0 ∨ k = 1 ∨ k = 2 ∨ k = 3 ∨ k = 4 ∨ k = 5 ∨ k = 6) with rfl | rfl | rfl | rfl | rfl | rfl | rfl
      all_goals
        clear h0 h7
        go_enter Try.func12, Try.ntmps12
        go_wp2_with fail
        go_ret
        exact ⟨rfl, (Below.refl _ _).alloc (Nat.le_refl _) _⟩
set_option maxHeartbeats 1000000 in
theorem refKind_any (k : Int) (hk0 : k ≤ 127) (w : World) : Calls Try.prog 13 #[.int .i8 k] w fun e w' => e = .returned (.string (kindName k)) ∧ Below w.heap.size w w' := by
  by_cases h0 : k < 0
  · have hk : Hid (kindName k = ⟨#[]⟩) := Lib.hid (if_pos h0)
    go_enter Try.func13, Try.ntmps13
    go_wp2_with fail
    go_ret
    exact ⟨by rw [hk.out]; rfl, (Below.refl _ _).alloc (Nat.le_refl _) _⟩
  · by_cases h7 : 7 ≤ k
    · have hk : Hid (kindName k = ⟨#[]⟩) := Lib.hid (by
        unfold kindName
        rw [if_neg h0, List.getD_eq_getElem?_getD, List.getElem?_eq_none (by show 7 ≤ k.toNat; omega)]; rfl)
      go_enter Try.func13, Try.ntmps13
      go_wp2_with fail
      go_ret
      exact ⟨by rw [hk.out]; rfl, (Below.refl _ _).alloc (Nat.le_refl _) _⟩
    · rcases (by omega : k = 0 ∨ k = 1 ∨ k = 2 ∨ k = 3 ∨ k = 4 ∨ k = 5 ∨ k = 6) with rfl | rfl | rfl | rfl | rfl | rfl | rfl
      all_goals
        clear h0 h7
        go_enter Try.func13, Try.ntmps13
        go_wp2_with fail
        go_ret
        exact ⟨rfl, (Below.refl _ _).alloc (Nat.le_refl _) _⟩
end Go.Proofs.Ytfcdbmfdaohpjaa
