/-
  Kinds live: the walk of the law's test. Conditions: a text is no longer than Go's own limit.
-/
import Derived.Test.YtfcdbmfdaohpjaaDoorKindG
namespace Go.Proofs.YtfcdbmfdaohpjaaDoor
open Go.RowKit
def aCards : Sg := ⟨⟨#[99, 97, 114, 100, 115]⟩, [5], 6, 28⟩
def aShuffle : Sg := ⟨⟨#[115, 104, 117, 102, 102, 108, 101]⟩, [5], 0, 28⟩
theorem gas_not_nil (w : World) : (binOp .neq 53 (.func (.func 28) #[] #[]) .nilFunc).run Tryd.prog w = .ok (.bool true) w := by kernel_rfl
theorem each7 : eachV 7 = 8 := by decide
theorem word_draw : amongOk words ⟨#[100, 114, 97, 119]⟩ = true := by decide +kernel
set_option maxHeartbeats 1000000 in
theorem lives_any (w : World) : Calls Tryd.prog 12 #[] w fun e w' => e = .returned (.bool true) ∧ Below w.heap.size w w' := by
  have hq := gas_not_nil
  go_enter Tryd.func12, Tryd.ntmps12
  go_wp2_with fail
  refine (field_yes 10 aCards _ rfl).mono ?_
  rintro e w1 ⟨rfl, _, hb⟩
  have HB1 := Lib.hid hb; clear hb
  rw [show (aCards.cells (w.heap.size + 1 + 10)).toArray = #[.string ⟨#[99, 97, 114, 100, 115]⟩, .slice (some ⟨w.heap.size + 1 + 10, 0, none⟩) 1 1, .int .i8 6, .func (.func 28) #[] #[]] from rfl]
  go_wp2_with fail
  have HW := Lib.hid (Whole.made w1 55 #[.string ⟨#[99, 97, 114, 100, 115]⟩, .slice (some ⟨w.heap.size + 1 + 10, 0, none⟩) 1 1, .int .i8 6, .func (.func 28) #[] #[]])
  have HB2 := Lib.hid (HB1.out.alloc HB1.out.size (.cells #[.string ⟨#[99, 97, 114, 100, 115]⟩, .slice (some ⟨w.heap.size + 1 + 10, 0, none⟩) 1 1, .int .i8 6, .func (.func 28) #[] #[]] 55))
  clear HB1
  generalize w1.alloc (.cells #[.string ⟨#[99, 97, 114, 100, 115]⟩, .slice (some ⟨w.heap.size + 1 + 10, 0, none⟩) 1 1, .int .i8 6, .func (.func 28) #[] #[]] 55) = w2 at *
  generalize w1.heap.size = g1 at *
  refine (effect_yes 8 aShuffle _ rfl).mono ?_
  rintro e w3 ⟨rfl, _, hb⟩
  have HW3 := Lib.hid (HW.out.past hb); have HB3 := Lib.hid (belowThen' HB2.out hb)
  clear hb HW HB2
  rw [show (aShuffle.cells (w2.heap.size + 1 + 8)).toArray = #[.string ⟨#[115, 104, 117, 102, 102, 108, 101]⟩, .slice (some ⟨w2.heap.size + 1 + 8, 0, none⟩) 1 1, .int .i8 0, .func (.func 28) #[] #[]] from rfl]
  have c2 : w3.cell? ⟨g1, 2, none⟩ = some (.int .i8 6) := HW3.out.cellAt 2
  have c3 : w3.cell? ⟨g1, 3, none⟩ = some (.func (.func 28) #[] #[]) := HW3.out.cellAt 3
  have hin := HW3.out.inside
  go_wp2_with fail
  refine (each_any 7 _).mono ?_
  rintro e w4 ⟨rfl, rfl⟩
  rw [each7]
  go_wp2_with fail
  refine (words_any _ _).mono ?_
  rintro e w4 ⟨rfl, hb⟩
  rw [word_draw]
  have HB4 := Lib.hid (belowThen' (HB3.out.alloc HB3.out.size _) hb)
  clear hb HB3
  go_wp2_with fail
  refine (funcs_any _).mono ?_
  rintro e w5 ⟨rfl, _, hb⟩
  have HB5 := Lib.hid (belowThen' HB4.out hb)
  clear hb HB4
  go_wp2_with fail
  go_ret
  exact ⟨rfl, HB5.out⟩
end Go.Proofs.YtfcdbmfdaohpjaaDoor
