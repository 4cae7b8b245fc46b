/-
  Kinds: Field, Func, Effect: the walks. Conditions: the text is no longer than Go's own limit.
-/
import Derived.Test.YtfcdbmfdaohpjaaDoorKindF
namespace Go.Proofs.YtfcdbmfdaohpjaaDoor
open Go.RowKit
theorem distinct_of {l : List Sg} (h : ∀ i, i < l.length → ∀ j, j < l.length → ((l.getD i ⟨⟨#[]⟩, [], 0, 0⟩).name.data = (l.getD j ⟨⟨#[]⟩, [], 0, 0⟩).name.data → i = j)) : Distinct l := by
  intro i j a b hi hj e
  have hi' := (List.getElem?_eq_some_iff.1 hi).1
  have hj' := (List.getElem?_eq_some_iff.1 hj).1
  refine h i hi' j hj' ?_
  rw [List.getD_eq_getElem?_getD, List.getD_eq_getElem?_getD, hi, hj]
  exact congrArg ByteArray.data e
theorem sizes_of {l : List Sg} (h : l.all (fun s => decide (s.name.size ≤ 20)) = true) : ∀ x ∈ l, x.name.size ≤ maxLen := fun x hx => by
  have := List.all_eq_true.1 h x hx
  simp at this
  unfold maxLen
  omega
def SgZero : Array Value := #[.string ⟨#[]⟩, .slice none 0 0, .int .i8 0, .nilFunc]
theorem fields_distinct : Distinct fields := distinct_of (by decide +kernel)
theorem fields_sizes : ∀ x ∈ fields, x.name.size ≤ maxLen := sizes_of (by decide +kernel)
theorem fields_length : fields.length = 13 := by decide
set_option maxHeartbeats 1000000 in
theorem field_yes (i : Nat) (a : Sg) (w : World) (hi : fields[i]? = some a) :
    Calls Tryd.prog 50 #[.string a.name] w fun e w' => e = .returned (.tuple #[.int .i64 i, .agg (a.cells (w.heap.size + 1 + i)).toArray, .bool true]) ∧ Whole w' (w.heap.size + 1 + i) 52 a.kinds ∧ Below w.heap.size w w' := by
  go_enter Tryd.func50, Tryd.ntmps50
  go_wp2_with fail
  have HR := Lib.hid (Whole.made w 55 #[.string ⟨#[]⟩, .slice none 0 0, .int .i8 0, .nilFunc])
  refine (fields_any _).mono ?_
  rintro e w1 ⟨rfl, hsg, hb⟩
  rw [World.size_alloc] at hsg hb ⊢
  have hb1 : Below (w.alloc (.cells #[.string ⟨#[]⟩, .slice none 0 0, .int .i8 0, .nilFunc] 55)).heap.size (w.alloc (.cells #[.string ⟨#[]⟩, .slice none 0 0, .int .i8 0, .nilFunc] 55)) w1 := by rw [World.size_alloc]; exact hb
  have HR1 := Lib.hid (HR.out.past hb1)
  have HB1 := Lib.hid (belowThen' ((Below.refl _ w).alloc (Nat.le_refl _) _) hb1)
  have HS := Lib.hid hsg
  clear hb hb1 hsg HR
  go_wp2_with fail
  refine (find_yes_n 13 fields fields_length _ _ i a _ HS.out fields_distinct hi fields_sizes (by omega)).mono ?_
  rintro e w2 ⟨rfl, hb⟩
  have HK := Lib.hid ((HS.out.2 i a hi).past hb)
  have HR2 := Lib.hid (HR1.out.past hb)
  have HB2 := Lib.hid (belowThen' HB1.out hb)
  clear hb HR1 HB1 HS
  obtain ⟨d0, d1, d2, d3⟩ : w2.cell? ⟨w.heap.size, 0, none⟩ = some (.string ⟨#[]⟩) ∧ w2.cell? ⟨w.heap.size, 1, none⟩ = some (.slice none 0 0) ∧ w2.cell? ⟨w.heap.size, 2, none⟩ = some (.int .i8 0) ∧ w2.cell? ⟨w.heap.size, 3, none⟩ = some .nilFunc :=
    ⟨HR2.out.cellAt 0, HR2.out.cellAt 1, HR2.out.cellAt 2, HR2.out.cellAt 3⟩
  have f0 := HR2.out.free 0
  have f1 := HR2.out.free 1
  have f2 := HR2.out.free 2
  have f3 := HR2.out.free 3
  rw [show (a.cells (w.heap.size + 1 + i)).toArray = #[.string a.name, .slice (some ⟨w.heap.size + 1 + i, 0, none⟩) a.args.length a.args.length, .int .i8 a.tell, .func (.func a.gas) #[] #[]] from rfl]
  go_wp2_with fail
  have HW5 := Lib.hid ((((HR2.out.put 0 (.string a.name)).put 1 (.slice (some ⟨w.heap.size + 1 + i, 0, none⟩) a.args.length a.args.length)).put 2 (.int .i8 a.tell)).put 3 (.func (.func a.gas) #[] #[]))
  have HB4 := Lib.hid ((((HB2.out.setCell (p := ⟨w.heap.size, 0, none⟩) (Nat.le_refl _) (.string a.name)).setCell (p := ⟨w.heap.size, 1, none⟩) (Nat.le_refl _) (.slice (some ⟨w.heap.size + 1 + i, 0, none⟩) a.args.length a.args.length)).setCell (p := ⟨w.heap.size, 2, none⟩) (Nat.le_refl _) (.int .i8 a.tell)).setCell (p := ⟨w.heap.size, 3, none⟩) (Nat.le_refl _) (.func (.func a.gas) #[] #[]))
  have HK4 := Lib.hid ((((HK.out.putFar (p := ⟨w.heap.size, 0, none⟩) (by show w.heap.size + 1 + i ≠ w.heap.size; omega) (.string a.name)).putFar (p := ⟨w.heap.size, 1, none⟩) (by show w.heap.size + 1 + i ≠ w.heap.size; omega) (.slice (some ⟨w.heap.size + 1 + i, 0, none⟩) a.args.length a.args.length)).putFar (p := ⟨w.heap.size, 2, none⟩) (by show w.heap.size + 1 + i ≠ w.heap.size; omega) (.int .i8 a.tell)).putFar (p := ⟨w.heap.size, 3, none⟩) (by show w.heap.size + 1 + i ≠ w.heap.size; omega) (.func (.func a.gas) #[] #[]))
  clear HR2 HB2 HK d0 d1 d2 d3 f0 f1 f2 f3
  generalize (((w2.setCell ⟨w.heap.size, 0, none⟩ (.string a.name)).setCell ⟨w.heap.size, 1, none⟩ (.slice (some ⟨w.heap.size + 1 + i, 0, none⟩) a.args.length a.args.length)).setCell ⟨w.heap.size, 2, none⟩ (.int .i8 a.tell)).setCell ⟨w.heap.size, 3, none⟩ (.func (.func a.gas) #[] #[]) = W4 at *
  obtain ⟨d0, d1, d2, d3⟩ : W4.cell? ⟨w.heap.size, 0, none⟩ = some (.string a.name) ∧ W4.cell? ⟨w.heap.size, 1, none⟩ = some (.slice (some ⟨w.heap.size + 1 + i, 0, none⟩) a.args.length a.args.length) ∧ W4.cell? ⟨w.heap.size, 2, none⟩ = some (.int .i8 a.tell) ∧ W4.cell? ⟨w.heap.size, 3, none⟩ = some (.func (.func a.gas) #[] #[]) :=
    ⟨HW5.out.cellAt 0, HW5.out.cellAt 1, HW5.out.cellAt 2, HW5.out.cellAt 3⟩
  exact bodyPost_ret (v := .tuple #[.int .i64 i, .agg (a.cells (w.heap.size + 1 + i)).toArray, .bool true]) (by simp [results, Tryd.f50, go_sem, d0, d1, d2, d3, Sg.cells]) rfl ⟨rfl, HK4.out, HB4.out⟩
set_option maxHeartbeats 1000000 in
theorem field_no (x : ByteArray) (w : World) (hno : ∀ a ∈ fields, a.name ≠ x) (hx : x.size ≤ maxLen) :
    Calls Tryd.prog 50 #[.string x] w fun e w' => e = .returned (.tuple #[.int .i64 0, .agg SgZero, .bool false]) ∧ Below w.heap.size w w' := by
  go_enter Tryd.func50, Tryd.ntmps50
  go_wp2_with fail
  have HR := Lib.hid (Whole.made w 55 #[.string ⟨#[]⟩, .slice none 0 0, .int .i8 0, .nilFunc])
  refine (fields_any _).mono ?_
  rintro e w1 ⟨rfl, hsg, hb0⟩
  have hb := hb0
  rw [World.size_alloc] at hsg hb0 ⊢
  clear hb0
  have HR1 := Lib.hid (HR.out.past hb)
  have HB1 := Lib.hid (belowThen' ((Below.refl _ w).alloc (Nat.le_refl _) _) hb)
  have HS := Lib.hid hsg
  clear hb hsg HR
  go_wp2_with fail
  refine (find_no_n 13 fields fields_length _ _ x _ HS.out hno hx fields_sizes (by omega)).mono ?_
  rintro e w2 ⟨rfl, hb⟩
  have HR2 := Lib.hid (HR1.out.past hb)
  have HB2 := Lib.hid (belowThen' HB1.out hb)
  clear hb HR1 HB1 HS
  obtain ⟨d0, d1, d2, d3⟩ : w2.cell? ⟨w.heap.size, 0, none⟩ = some (.string ⟨#[]⟩) ∧ w2.cell? ⟨w.heap.size, 1, none⟩ = some (.slice none 0 0) ∧ w2.cell? ⟨w.heap.size, 2, none⟩ = some (.int .i8 0) ∧ w2.cell? ⟨w.heap.size, 3, none⟩ = some .nilFunc :=
    ⟨HR2.out.cellAt 0, HR2.out.cellAt 1, HR2.out.cellAt 2, HR2.out.cellAt 3⟩
  have f0 := HR2.out.free 0
  have f1 := HR2.out.free 1
  have f2 := HR2.out.free 2
  have f3 := HR2.out.free 3
  go_wp2_with fail
  have HW5 := Lib.hid ((((HR2.out.put 0 (.string ⟨#[]⟩)).put 1 (.slice none 0 0)).put 2 (.int .i8 0)).put 3 .nilFunc)
  have HB4 := Lib.hid ((((HB2.out.setCell (p := ⟨w.heap.size, 0, none⟩) (Nat.le_refl _) (.string ⟨#[]⟩)).setCell (p := ⟨w.heap.size, 1, none⟩) (Nat.le_refl _) (.slice none 0 0)).setCell (p := ⟨w.heap.size, 2, none⟩) (Nat.le_refl _) (.int .i8 0)).setCell (p := ⟨w.heap.size, 3, none⟩) (Nat.le_refl _) .nilFunc)
  clear HR2 HB2 d0 d1 d2 d3 f0 f1 f2 f3
  generalize (((w2.setCell ⟨w.heap.size, 0, none⟩ (.string ⟨#[]⟩)).setCell ⟨w.heap.size, 1, none⟩ (.slice none 0 0)).setCell ⟨w.heap.size, 2, none⟩ (.int .i8 0)).setCell ⟨w.heap.size, 3, none⟩ .nilFunc = W4 at *
  obtain ⟨d0, d1, d2, d3⟩ : W4.cell? ⟨w.heap.size, 0, none⟩ = some (.string ⟨#[]⟩) ∧ W4.cell? ⟨w.heap.size, 1, none⟩ = some (.slice none 0 0) ∧ W4.cell? ⟨w.heap.size, 2, none⟩ = some (.int .i8 0) ∧ W4.cell? ⟨w.heap.size, 3, none⟩ = some .nilFunc :=
    ⟨HW5.out.cellAt 0, HW5.out.cellAt 1, HW5.out.cellAt 2, HW5.out.cellAt 3⟩
  exact bodyPost_ret (v := .tuple #[.int .i64 0, .agg SgZero, .bool false]) (by simp [results, Tryd.f50, go_sem, d0, d1, d2, d3, SgZero]) rfl ⟨rfl, HB4.out⟩
theorem funcs_distinct : Distinct funcs := distinct_of (by decide +kernel)
theorem funcs_sizes : ∀ x ∈ funcs, x.name.size ≤ maxLen := sizes_of (by decide +kernel)
theorem funcs_length : funcs.length = 9 := by decide
set_option maxHeartbeats 1000000 in
theorem func_yes (i : Nat) (a : Sg) (w : World) (hi : funcs[i]? = some a) :
    Calls Tryd.prog 52 #[.string a.name] w fun e w' => e = .returned (.tuple #[.int .i64 i, .agg (a.cells (w.heap.size + 1 + i)).toArray, .bool true]) ∧ Whole w' (w.heap.size + 1 + i) 52 a.kinds ∧ Below w.heap.size w w' := by
  go_enter Tryd.func52, Tryd.ntmps52
  go_wp2_with fail
  have HR := Lib.hid (Whole.made w 55 #[.string ⟨#[]⟩, .slice none 0 0, .int .i8 0, .nilFunc])
  refine (funcs_any _).mono ?_
  rintro e w1 ⟨rfl, hsg, hb⟩
  rw [World.size_alloc] at hsg hb ⊢
  have hb1 : Below (w.alloc (.cells #[.string ⟨#[]⟩, .slice none 0 0, .int .i8 0, .nilFunc] 55)).heap.size (w.alloc (.cells #[.string ⟨#[]⟩, .slice none 0 0, .int .i8 0, .nilFunc] 55)) w1 := by rw [World.size_alloc]; exact hb
  have HR1 := Lib.hid (HR.out.past hb1)
  have HB1 := Lib.hid (belowThen' ((Below.refl _ w).alloc (Nat.le_refl _) _) hb1)
  have HS := Lib.hid hsg
  clear hb hb1 hsg HR
  go_wp2_with fail
  refine (find_yes_n 9 funcs funcs_length _ _ i a _ HS.out funcs_distinct hi funcs_sizes (by omega)).mono ?_
  rintro e w2 ⟨rfl, hb⟩
  have HK := Lib.hid ((HS.out.2 i a hi).past hb)
  have HR2 := Lib.hid (HR1.out.past hb)
  have HB2 := Lib.hid (belowThen' HB1.out hb)
  clear hb HR1 HB1 HS
  obtain ⟨d0, d1, d2, d3⟩ : w2.cell? ⟨w.heap.size, 0, none⟩ = some (.string ⟨#[]⟩) ∧ w2.cell? ⟨w.heap.size, 1, none⟩ = some (.slice none 0 0) ∧ w2.cell? ⟨w.heap.size, 2, none⟩ = some (.int .i8 0) ∧ w2.cell? ⟨w.heap.size, 3, none⟩ = some .nilFunc :=
    ⟨HR2.out.cellAt 0, HR2.out.cellAt 1, HR2.out.cellAt 2, HR2.out.cellAt 3⟩
  have f0 := HR2.out.free 0
  have f1 := HR2.out.free 1
  have f2 := HR2.out.free 2
  have f3 := HR2.out.free 3
  rw [show (a.cells (w.heap.size + 1 + i)).toArray = #[.string a.name, .slice (some ⟨w.heap.size + 1 + i, 0, none⟩) a.args.length a.args.length, .int .i8 a.tell, .func (.func a.gas) #[] #[]] from rfl]
  go_wp2_with fail
  have HW5 := Lib.hid ((((HR2.out.put 0 (.string a.name)).put 1 (.slice (some ⟨w.heap.size + 1 + i, 0, none⟩) a.args.length a.args.length)).put 2 (.int .i8 a.tell)).put 3 (.func (.func a.gas) #[] #[]))
  have HB4 := Lib.hid ((((HB2.out.setCell (p := ⟨w.heap.size, 0, none⟩) (Nat.le_refl _) (.string a.name)).setCell (p := ⟨w.heap.size, 1, none⟩) (Nat.le_refl _) (.slice (some ⟨w.heap.size + 1 + i, 0, none⟩) a.args.length a.args.length)).setCell (p := ⟨w.heap.size, 2, none⟩) (Nat.le_refl _) (.int .i8 a.tell)).setCell (p := ⟨w.heap.size, 3, none⟩) (Nat.le_refl _) (.func (.func a.gas) #[] #[]))
  have HK4 := Lib.hid ((((HK.out.putFar (p := ⟨w.heap.size, 0, none⟩) (by show w.heap.size + 1 + i ≠ w.heap.size; omega) (.string a.name)).putFar (p := ⟨w.heap.size, 1, none⟩) (by show w.heap.size + 1 + i ≠ w.heap.size; omega) (.slice (some ⟨w.heap.size + 1 + i, 0, none⟩) a.args.length a.args.length)).putFar (p := ⟨w.heap.size, 2, none⟩) (by show w.heap.size + 1 + i ≠ w.heap.size; omega) (.int .i8 a.tell)).putFar (p := ⟨w.heap.size, 3, none⟩) (by show w.heap.size + 1 + i ≠ w.heap.size; omega) (.func (.func a.gas) #[] #[]))
  clear HR2 HB2 HK d0 d1 d2 d3 f0 f1 f2 f3
  generalize (((w2.setCell ⟨w.heap.size, 0, none⟩ (.string a.name)).setCell ⟨w.heap.size, 1, none⟩ (.slice (some ⟨w.heap.size + 1 + i, 0, none⟩) a.args.length a.args.length)).setCell ⟨w.heap.size, 2, none⟩ (.int .i8 a.tell)).setCell ⟨w.heap.size, 3, none⟩ (.func (.func a.gas) #[] #[]) = W4 at *
  obtain ⟨d0, d1, d2, d3⟩ : W4.cell? ⟨w.heap.size, 0, none⟩ = some (.string a.name) ∧ W4.cell? ⟨w.heap.size, 1, none⟩ = some (.slice (some ⟨w.heap.size + 1 + i, 0, none⟩) a.args.length a.args.length) ∧ W4.cell? ⟨w.heap.size, 2, none⟩ = some (.int .i8 a.tell) ∧ W4.cell? ⟨w.heap.size, 3, none⟩ = some (.func (.func a.gas) #[] #[]) :=
    ⟨HW5.out.cellAt 0, HW5.out.cellAt 1, HW5.out.cellAt 2, HW5.out.cellAt 3⟩
  exact bodyPost_ret (v := .tuple #[.int .i64 i, .agg (a.cells (w.heap.size + 1 + i)).toArray, .bool true]) (by simp [results, Tryd.f52, go_sem, d0, d1, d2, d3, Sg.cells]) rfl ⟨rfl, HK4.out, HB4.out⟩
set_option maxHeartbeats 1000000 in
theorem func_no (x : ByteArray) (w : World) (hno : ∀ a ∈ funcs, a.name ≠ x) (hx : x.size ≤ maxLen) :
    Calls Tryd.prog 52 #[.string x] w fun e w' => e = .returned (.tuple #[.int .i64 0, .agg SgZero, .bool false]) ∧ Below w.heap.size w w' := by
  go_enter Tryd.func52, Tryd.ntmps52
  go_wp2_with fail
  have HR := Lib.hid (Whole.made w 55 #[.string ⟨#[]⟩, .slice none 0 0, .int .i8 0, .nilFunc])
  refine (funcs_any _).mono ?_
  rintro e w1 ⟨rfl, hsg, hb0⟩
  have hb := hb0
  rw [World.size_alloc] at hsg hb0 ⊢
  clear hb0
  have HR1 := Lib.hid (HR.out.past hb)
  have HB1 := Lib.hid (belowThen' ((Below.refl _ w).alloc (Nat.le_refl _) _) hb)
  have HS := Lib.hid hsg
  clear hb hsg HR
  go_wp2_with fail
  refine (find_no_n 9 funcs funcs_length _ _ x _ HS.out hno hx funcs_sizes (by omega)).mono ?_
  rintro e w2 ⟨rfl, hb⟩
  have HR2 := Lib.hid (HR1.out.past hb)
  have HB2 := Lib.hid (belowThen' HB1.out hb)
  clear hb HR1 HB1 HS
  obtain ⟨d0, d1, d2, d3⟩ : w2.cell? ⟨w.heap.size, 0, none⟩ = some (.string ⟨#[]⟩) ∧ w2.cell? ⟨w.heap.size, 1, none⟩ = some (.slice none 0 0) ∧ w2.cell? ⟨w.heap.size, 2, none⟩ = some (.int .i8 0) ∧ w2.cell? ⟨w.heap.size, 3, none⟩ = some .nilFunc :=
    ⟨HR2.out.cellAt 0, HR2.out.cellAt 1, HR2.out.cellAt 2, HR2.out.cellAt 3⟩
  have f0 := HR2.out.free 0
  have f1 := HR2.out.free 1
  have f2 := HR2.out.free 2
  have f3 := HR2.out.free 3
  go_wp2_with fail
  have HW5 := Lib.hid ((((HR2.out.put 0 (.string ⟨#[]⟩)).put 1 (.slice none 0 0)).put 2 (.int .i8 0)).put 3 .nilFunc)
  have HB4 := Lib.hid ((((HB2.out.setCell (p := ⟨w.heap.size, 0, none⟩) (Nat.le_refl _) (.string ⟨#[]⟩)).setCell (p := ⟨w.heap.size, 1, none⟩) (Nat.le_refl _) (.slice none 0 0)).setCell (p := ⟨w.heap.size, 2, none⟩) (Nat.le_refl _) (.int .i8 0)).setCell (p := ⟨w.heap.size, 3, none⟩) (Nat.le_refl _) .nilFunc)
  clear HR2 HB2 d0 d1 d2 d3 f0 f1 f2 f3
  generalize (((w2.setCell ⟨w.heap.size, 0, none⟩ (.string ⟨#[]⟩)).setCell ⟨w.heap.size, 1, none⟩ (.slice none 0 0)).setCell ⟨w.heap.size, 2, none⟩ (.int .i8 0)).setCell ⟨w.heap.size, 3, none⟩ .nilFunc = W4 at *
  obtain ⟨d0, d1, d2, d3⟩ : W4.cell? ⟨w.heap.size, 0, none⟩ = some (.string ⟨#[]⟩) ∧ W4.cell? ⟨w.heap.size, 1, none⟩ = some (.slice none 0 0) ∧ W4.cell? ⟨w.heap.size, 2, none⟩ = some (.int .i8 0) ∧ W4.cell? ⟨w.heap.size, 3, none⟩ = some .nilFunc :=
    ⟨HW5.out.cellAt 0, HW5.out.cellAt 1, HW5.out.cellAt 2, HW5.out.cellAt 3⟩
  exact bodyPost_ret (v := .tuple #[.int .i64 0, .agg SgZero, .bool false]) (by simp [results, Tryd.f52, go_sem, d0, d1, d2, d3, SgZero]) rfl ⟨rfl, HB4.out⟩
theorem effects_distinct : Distinct effects := distinct_of (by decide +kernel)
theorem effects_sizes : ∀ x ∈ effects, x.name.size ≤ maxLen := sizes_of (by decide +kernel)
theorem effects_length : effects.length = 9 := by decide
set_option maxHeartbeats 1000000 in
theorem effect_yes (i : Nat) (a : Sg) (w : World) (hi : effects[i]? = some a) :
    Calls Tryd.prog 51 #[.string a.name] w fun e w' => e = .returned (.tuple #[.int .i64 i, .agg (a.cells (w.heap.size + 1 + i)).toArray, .bool true]) ∧ Whole w' (w.heap.size + 1 + i) 52 a.kinds ∧ Below w.heap.size w w' := by
  go_enter Tryd.func51, Tryd.ntmps51
  go_wp2_with fail
  have HR := Lib.hid (Whole.made w 55 #[.string ⟨#[]⟩, .slice none 0 0, .int .i8 0, .nilFunc])
  refine (effects_any _).mono ?_
  rintro e w1 ⟨rfl, hsg, hb⟩
  rw [World.size_alloc] at hsg hb ⊢
  have hb1 : Below (w.alloc (.cells #[.string ⟨#[]⟩, .slice none 0 0, .int .i8 0, .nilFunc] 55)).heap.size (w.alloc (.cells #[.string ⟨#[]⟩, .slice none 0 0, .int .i8 0, .nilFunc] 55)) w1 := by rw [World.size_alloc]; exact hb
  have HR1 := Lib.hid (HR.out.past hb1)
  have HB1 := Lib.hid (belowThen' ((Below.refl _ w).alloc (Nat.le_refl _) _) hb1)
  have HS := Lib.hid hsg
  clear hb hb1 hsg HR
  go_wp2_with fail
  refine (find_yes_n 9 effects effects_length _ _ i a _ HS.out effects_distinct hi effects_sizes (by omega)).mono ?_
  rintro e w2 ⟨rfl, hb⟩
  have HK := Lib.hid ((HS.out.2 i a hi).past hb)
  have HR2 := Lib.hid (HR1.out.past hb)
  have HB2 := Lib.hid (belowThen' HB1.out hb)
  clear hb HR1 HB1 HS
  obtain ⟨d0, d1, d2, d3⟩ : w2.cell? ⟨w.heap.size, 0, none⟩ = some (.string ⟨#[]⟩) ∧ w2.cell? ⟨w.heap.size, 1, none⟩ = some (.slice none 0 0) ∧ w2.cell? ⟨w.heap.size, 2, none⟩ = some (.int .i8 0) ∧ w2.cell? ⟨w.heap.size, 3, none⟩ = some .nilFunc :=
    ⟨HR2.out.cellAt 0, HR2.out.cellAt 1, HR2.out.cellAt 2, HR2.out.cellAt 3⟩
  have f0 := HR2.out.free 0
  have f1 := HR2.out.free 1
  have f2 := HR2.out.free 2
  have f3 := HR2.out.free 3
  rw [show (a.cells (w.heap.size + 1 + i)).toArray = #[.string a.name, .slice (some ⟨w.heap.size + 1 + i, 0, none⟩) a.args.length a.args.length, .int .i8 a.tell, .func (.func a.gas) #[] #[]] from rfl]
  go_wp2_with fail
  have HW5 := Lib.hid ((((HR2.out.put 0 (.string a.name)).put 1 (.slice (some ⟨w.heap.size + 1 + i, 0, none⟩) a.args.length a.args.length)).put 2 (.int .i8 a.tell)).put 3 (.func (.func a.gas) #[] #[]))
  have HB4 := Lib.hid ((((HB2.out.setCell (p := ⟨w.heap.size, 0, none⟩) (Nat.le_refl _) (.string a.name)).setCell (p := ⟨w.heap.size, 1, none⟩) (Nat.le_refl _) (.slice (some ⟨w.heap.size + 1 + i, 0, none⟩) a.args.length a.args.length)).setCell (p := ⟨w.heap.size, 2, none⟩) (Nat.le_refl _) (.int .i8 a.tell)).setCell (p := ⟨w.heap.size, 3, none⟩) (Nat.le_refl _) (.func (.func a.gas) #[] #[]))
  have HK4 := Lib.hid ((((HK.out.putFar (p := ⟨w.heap.size, 0, none⟩) (by show w.heap.size + 1 + i ≠ w.heap.size; omega) (.string a.name)).putFar (p := ⟨w.heap.size, 1, none⟩) (by show w.heap.size + 1 + i ≠ w.heap.size; omega) (.slice (some ⟨w.heap.size + 1 + i, 0, none⟩) a.args.length a.args.length)).putFar (p := ⟨w.heap.size, 2, none⟩) (by show w.heap.size + 1 + i ≠ w.heap.size; omega) (.int .i8 a.tell)).putFar (p := ⟨w.heap.size, 3, none⟩) (by show w.heap.size + 1 + i ≠ w.heap.size; omega) (.func (.func a.gas) #[] #[]))
  clear HR2 HB2 HK d0 d1 d2 d3 f0 f1 f2 f3
  generalize (((w2.setCell ⟨w.heap.size, 0, none⟩ (.string a.name)).setCell ⟨w.heap.size, 1, none⟩ (.slice (some ⟨w.heap.size + 1 + i, 0, none⟩) a.args.length a.args.length)).setCell ⟨w.heap.size, 2, none⟩ (.int .i8 a.tell)).setCell ⟨w.heap.size, 3, none⟩ (.func (.func a.gas) #[] #[]) = W4 at *
  obtain ⟨d0, d1, d2, d3⟩ : W4.cell? ⟨w.heap.size, 0, none⟩ = some (.string a.name) ∧ W4.cell? ⟨w.heap.size, 1, none⟩ = some (.slice (some ⟨w.heap.size + 1 + i, 0, none⟩) a.args.length a.args.length) ∧ W4.cell? ⟨w.heap.size, 2, none⟩ = some (.int .i8 a.tell) ∧ W4.cell? ⟨w.heap.size, 3, none⟩ = some (.func (.func a.gas) #[] #[]) :=
    ⟨HW5.out.cellAt 0, HW5.out.cellAt 1, HW5.out.cellAt 2, HW5.out.cellAt 3⟩
  exact bodyPost_ret (v := .tuple #[.int .i64 i, .agg (a.cells (w.heap.size + 1 + i)).toArray, .bool true]) (by simp [results, Tryd.f51, go_sem, d0, d1, d2, d3, Sg.cells]) rfl ⟨rfl, HK4.out, HB4.out⟩
set_option maxHeartbeats 1000000 in
theorem effect_no (x : ByteArray) (w : World) (hno : ∀ a ∈ effects, a.name ≠ x) (hx : x.size ≤ maxLen) :
    Calls Tryd.prog 51 #[.string x] w fun e w' => e = .returned (.tuple #[.int .i64 0, .agg SgZero, .bool false]) ∧ Below w.heap.size w w' := by
  go_enter Tryd.func51, Tryd.ntmps51
  go_wp2_with fail
  have HR := Lib.hid (Whole.made w 55 #[.string ⟨#[]⟩, .slice none 0 0, .int .i8 0, .nilFunc])
  refine (effects_any _).mono ?_
  rintro e w1 ⟨rfl, hsg, hb0⟩
  have hb := hb0
  rw [World.size_alloc] at hsg hb0 ⊢
  clear hb0
  have HR1 := Lib.hid (HR.out.past hb)
  have HB1 := Lib.hid (belowThen' ((Below.refl _ w).alloc (Nat.le_refl _) _) hb)
  have HS := Lib.hid hsg
  clear hb hsg HR
  go_wp2_with fail
  refine (find_no_n 9 effects effects_length _ _ x _ HS.out hno hx effects_sizes (by omega)).mono ?_
  rintro e w2 ⟨rfl, hb⟩
  have HR2 := Lib.hid (HR1.out.past hb)
  have HB2 := Lib.hid (belowThen' HB1.out hb)
  clear hb HR1 HB1 HS
  obtain ⟨d0, d1, d2, d3⟩ : w2.cell? ⟨w.heap.size, 0, none⟩ = some (.string ⟨#[]⟩) ∧ w2.cell? ⟨w.heap.size, 1, none⟩ = some (.slice none 0 0) ∧ w2.cell? ⟨w.heap.size, 2, none⟩ = some (.int .i8 0) ∧ w2.cell? ⟨w.heap.size, 3, none⟩ = some .nilFunc :=
    ⟨HR2.out.cellAt 0, HR2.out.cellAt 1, HR2.out.cellAt 2, HR2.out.cellAt 3⟩
  have f0 := HR2.out.free 0
  have f1 := HR2.out.free 1
  have f2 := HR2.out.free 2
  have f3 := HR2.out.free 3
  go_wp2_with fail
  have HW5 := Lib.hid ((((HR2.out.put 0 (.string ⟨#[]⟩)).put 1 (.slice none 0 0)).put 2 (.int .i8 0)).put 3 .nilFunc)
  have HB4 := Lib.hid ((((HB2.out.setCell (p := ⟨w.heap.size, 0, none⟩) (Nat.le_refl _) (.string ⟨#[]⟩)).setCell (p := ⟨w.heap.size, 1, none⟩) (Nat.le_refl _) (.slice none 0 0)).setCell (p := ⟨w.heap.size, 2, none⟩) (Nat.le_refl _) (.int .i8 0)).setCell (p := ⟨w.heap.size, 3, none⟩) (Nat.le_refl _) .nilFunc)
  clear HR2 HB2 d0 d1 d2 d3 f0 f1 f2 f3
  generalize (((w2.setCell ⟨w.heap.size, 0, none⟩ (.string ⟨#[]⟩)).setCell ⟨w.heap.size, 1, none⟩ (.slice none 0 0)).setCell ⟨w.heap.size, 2, none⟩ (.int .i8 0)).setCell ⟨w.heap.size, 3, none⟩ .nilFunc = W4 at *
  obtain ⟨d0, d1, d2, d3⟩ : W4.cell? ⟨w.heap.size, 0, none⟩ = some (.string ⟨#[]⟩) ∧ W4.cell? ⟨w.heap.size, 1, none⟩ = some (.slice none 0 0) ∧ W4.cell? ⟨w.heap.size, 2, none⟩ = some (.int .i8 0) ∧ W4.cell? ⟨w.heap.size, 3, none⟩ = some .nilFunc :=
    ⟨HW5.out.cellAt 0, HW5.out.cellAt 1, HW5.out.cellAt 2, HW5.out.cellAt 3⟩
  exact bodyPost_ret (v := .tuple #[.int .i64 0, .agg SgZero, .bool false]) (by simp [results, Tryd.f51, go_sem, d0, d1, d2, d3, SgZero]) rfl ⟨rfl, HB4.out⟩
end Go.Proofs.YtfcdbmfdaohpjaaDoor
