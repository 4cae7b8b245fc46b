/-
  Kinds: events, zones, words. Conditions: none.
-/
import Derived.Test.YtfcdbmfdaohpjaaDoorKindA
namespace Go.Proofs.YtfcdbmfdaohpjaaDoor
open Go.RowKit
def events : List ByteArray := [⟨#[112, 108, 97, 121]⟩, ⟨#[100, 105, 101]⟩, ⟨#[104, 105, 116]⟩, ⟨#[116, 117, 114, 110]⟩, ⟨#[100, 114, 97, 119]⟩]
def zones : List ByteArray := [⟨#[100, 101, 99, 107]⟩, ⟨#[104, 97, 110, 100]⟩, ⟨#[98, 111, 97, 114, 100]⟩, ⟨#[103, 114, 97, 118, 101]⟩]
def words : List ByteArray := [⟨#[99, 97, 114, 100]⟩, ⟨#[99, 111, 115, 116]⟩, ⟨#[112, 111, 119, 101, 114]⟩, ⟨#[104, 101, 97, 108, 116, 104]⟩, ⟨#[116, 97, 103]⟩, ⟨#[111, 110]⟩, ⟨#[119, 104, 101, 110]⟩, ⟨#[108, 101, 116]⟩, ⟨#[105, 102]⟩, ⟨#[101, 108, 115, 101]⟩, ⟨#[114, 101, 112, 101, 97, 116]⟩, ⟨#[97, 115]⟩, ⟨#[101, 97, 99, 104]⟩, ⟨#[105, 110]⟩, ⟨#[99, 104, 111, 111, 115, 101]⟩, ⟨#[115, 116, 111, 112]⟩, ⟨#[97, 98, 111, 114, 116]⟩, ⟨#[116, 114, 117, 101]⟩, ⟨#[102, 97, 108, 115, 101]⟩, ⟨#[115, 101, 108, 102]⟩, ⟨#[109, 101]⟩, ⟨#[100, 101, 99, 107]⟩, ⟨#[104, 97, 110, 100]⟩, ⟨#[98, 111, 97, 114, 100]⟩, ⟨#[103, 114, 97, 118, 101]⟩, ⟨#[112, 108, 97, 121]⟩, ⟨#[100, 105, 101]⟩, ⟨#[104, 105, 116]⟩, ⟨#[116, 117, 114, 110]⟩, ⟨#[100, 114, 97, 119]⟩]
theorem events_any (s : ByteArray) (w : World) : Calls Tryd.prog 15 #[.string s] w fun e w' => e = .returned (.tuple #[.int .i64 (amongAt events s), .bool (amongOk events s)]) ∧ Below w.heap.size w w' := by
  go_enter Tryd.func15, Tryd.ntmps15
  go_wp2_with fail
  refine (among_any events s _ (w.heap.size + 1) 5 _ (Lies.row (t := 9) (fr := (0, 0)) (heap_alloc_new w _) (Nat.lt_succ_self _)) (by decide)).mono ?_
  rintro e w' ⟨rfl, rfl⟩
  go_wp2_with fail
  go_ret2
  exact ⟨rfl, (Below.refl _ _).alloc (Nat.le_refl _) _⟩
theorem zones_any (s : ByteArray) (w : World) : Calls Tryd.prog 17 #[.string s] w fun e w' => e = .returned (.tuple #[.int .i64 (amongAt zones s), .bool (amongOk zones s)]) ∧ Below w.heap.size w w' := by
  go_enter Tryd.func17, Tryd.ntmps17
  go_wp2_with fail
  refine (among_any zones s _ (w.heap.size + 1) 4 _ (Lies.row (t := 9) (fr := (0, 0)) (heap_alloc_new w _) (Nat.lt_succ_self _)) (by decide)).mono ?_
  rintro e w' ⟨rfl, rfl⟩
  go_wp2_with fail
  go_ret2
  exact ⟨rfl, (Below.refl _ _).alloc (Nat.le_refl _) _⟩
theorem words_any (s : ByteArray) (w : World) : Calls Tryd.prog 19 #[.string s] w fun e w' => e = .returned (.bool (amongOk words s)) ∧ Below w.heap.size w w' := by
  go_enter Tryd.func19, Tryd.ntmps19
  go_wp2_with fail
  refine (among_any words s _ (w.heap.size + 1) 30 _ (Lies.row (t := 9) (fr := (0, 0)) (heap_alloc_new w _) (Nat.lt_succ_self _)) (by decide)).mono ?_
  rintro e w' ⟨rfl, rfl⟩
  go_wp2_with fail
  go_ret
  exact ⟨rfl, (Below.refl _ _).alloc (Nat.le_refl _) _⟩
end Go.Proofs.YtfcdbmfdaohpjaaDoor
