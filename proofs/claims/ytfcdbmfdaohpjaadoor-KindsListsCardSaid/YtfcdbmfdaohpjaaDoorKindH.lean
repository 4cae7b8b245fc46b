/-
  Kinds: the law's own list and find: the walks. Conditions: none.
-/
import Derived.Test.YtfcdbmfdaohpjaaDoorKindL
namespace Go.Proofs.YtfcdbmfdaohpjaaDoor
open Go.RowKit
def tbl (q : Nat) : List Sg := if q = 0 then fields else if q = 1 then funcs else effects
theorem tbl0 : tbl 0 = fields := rfl
theorem tbl1 : tbl 1 = funcs := rfl
theorem tbl2 : tbl 2 = effects := rfl
theorem three {q : Nat} (h : q < 3) : q = 0 ∨ q = 1 ∨ q = 2 := by omega
theorem list_any (q : Nat) (hq : q < 3) (w : World) : Calls Tryd.prog 5 #[.int .i64 q] w fun e w' => e = .returned (.slice (some ⟨w.heap.size + (tbl q).length, 0, none⟩) (tbl q).length (tbl q).length) ∧ SgAt w' (w.heap.size + (tbl q).length) w.heap.size (tbl q) ∧ Below w.heap.size w w' := by
  rcases three hq with rfl | rfl | rfl
  · rw [tbl0, fields_length]
    go_enter Tryd.func5, Tryd.ntmps5
    go_wp2_with fail
    refine (fields_any _).mono ?_
    rintro e w1 ⟨rfl, hs, hb⟩
    have HS := Lib.hid hs; have HB := Lib.hid hb; clear hs hb
    go_wp2_with fail
    go_ret
    exact ⟨rfl, HS.out, HB.out⟩
  · rw [tbl1, funcs_length]
    go_enter Tryd.func5, Tryd.ntmps5
    go_wp2_with fail
    refine (funcs_any _).mono ?_
    rintro e w1 ⟨rfl, hs, hb⟩
    have HS := Lib.hid hs; have HB := Lib.hid hb; clear hs hb
    go_wp2_with fail
    go_ret
    exact ⟨rfl, HS.out, HB.out⟩
  · rw [tbl2, effects_length]
    go_enter Tryd.func5, Tryd.ntmps5
    go_wp2_with fail
    refine (effects_any _).mono ?_
    rintro e w1 ⟨rfl, hs, hb⟩
    have HS := Lib.hid hs; have HB := Lib.hid hb; clear hs hb
    go_wp2_with fail
    go_ret
    exact ⟨rfl, HS.out, HB.out⟩
set_option maxHeartbeats 2000000 in
theorem lfind_yes (q : Nat) (hq : q < 3) (i : Nat) (a : Sg) (w : World) (hi : (tbl q)[i]? = some a) :
    Calls Tryd.prog 13 #[.int .i64 q, .string a.name] w fun e w' => e = .returned (.tuple #[.int .i64 i, .agg (a.cells (w.heap.size + 2 + i)).toArray, .bool true]) ∧ Whole w' (w.heap.size + 2 + i) 52 a.kinds ∧ Below w.heap.size w w' := by
  rcases three hq with rfl | rfl | rfl
  · rw [tbl0] at hi
    go_enter Tryd.func13, Tryd.ntmps13
    go_wp2_with fail
    have HR := Lib.hid (Whole.made w 55 #[.string ⟨#[]⟩, .slice none 0 0, .int .i8 0, .nilFunc])
    refine (field_yes i a _ hi).mono ?_
    rintro e w1 ⟨rfl, hk, hb⟩
    rw [show (a.cells ((w.alloc (.cells #[.string ⟨#[]⟩, .slice none 0 0, .int .i8 0, .nilFunc] 55)).heap.size + 1 + i)).toArray = #[.string a.name, .slice (some ⟨w.heap.size + 2 + i, 0, none⟩) a.args.length a.args.length, .int .i8 a.tell, .func (.func a.gas) #[] #[]] from by rw [World.size_alloc]; rfl]
    have hk2 : Whole w1 (w.heap.size + 2 + i) 52 a.kinds := by rw [World.size_alloc] at hk; exact hk
    have HR1 := Lib.hid (HR.out.past hb)
    have HB1 := Lib.hid (belowThen' ((Below.refl _ w).alloc (Nat.le_refl _) _) hb)
    have HK := Lib.hid hk2
    clear hk hk2 hb HR
    obtain ⟨d0, d1, d2, d3⟩ : w1.cell? ⟨w.heap.size, 0, none⟩ = some (.string ⟨#[]⟩) ∧ w1.cell? ⟨w.heap.size, 1, none⟩ = some (.slice none 0 0) ∧ w1.cell? ⟨w.heap.size, 2, none⟩ = some (.int .i8 0) ∧ w1.cell? ⟨w.heap.size, 3, none⟩ = some .nilFunc :=
      ⟨HR1.out.cellAt 0, HR1.out.cellAt 1, HR1.out.cellAt 2, HR1.out.cellAt 3⟩
    have f0 := HR1.out.free 0
    have f1 := HR1.out.free 1
    have f2 := HR1.out.free 2
    have f3 := HR1.out.free 3
    go_wp2_with fail
    have HW5 := Lib.hid ((((HR1.out.put 0 (.string a.name)).put 1 (.slice (some ⟨w.heap.size + 2 + i, 0, none⟩) a.args.length a.args.length)).put 2 (.int .i8 a.tell)).put 3 (.func (.func a.gas) #[] #[]))
    have HB4 := Lib.hid ((((HB1.out.setCell (p := ⟨w.heap.size, 0, none⟩) (Nat.le_refl _) (.string a.name)).setCell (p := ⟨w.heap.size, 1, none⟩) (Nat.le_refl _) (.slice (some ⟨w.heap.size + 2 + i, 0, none⟩) a.args.length a.args.length)).setCell (p := ⟨w.heap.size, 2, none⟩) (Nat.le_refl _) (.int .i8 a.tell)).setCell (p := ⟨w.heap.size, 3, none⟩) (Nat.le_refl _) (.func (.func a.gas) #[] #[]))
    have hne : ∀ j, w.heap.size + 2 + i ≠ (⟨w.heap.size, j, none⟩ : Addr).block := fun j => by show w.heap.size + 2 + i ≠ w.heap.size; omega
    have HK4 := Lib.hid ((((HK.out.putFar (p := ⟨w.heap.size, 0, none⟩) (hne 0) (.string a.name)).putFar (p := ⟨w.heap.size, 1, none⟩) (hne 1) (.slice (some ⟨w.heap.size + 2 + i, 0, none⟩) a.args.length a.args.length)).putFar (p := ⟨w.heap.size, 2, none⟩) (hne 2) (.int .i8 a.tell)).putFar (p := ⟨w.heap.size, 3, none⟩) (hne 3) (.func (.func a.gas) #[] #[]))
    clear HR1 HB1 HK d0 d1 d2 d3 f0 f1 f2 f3 hne
    generalize (((w1.setCell ⟨w.heap.size, 0, none⟩ (.string a.name)).setCell ⟨w.heap.size, 1, none⟩ (.slice (some ⟨w.heap.size + 2 + i, 0, none⟩) a.args.length a.args.length)).setCell ⟨w.heap.size, 2, none⟩ (.int .i8 a.tell)).setCell ⟨w.heap.size, 3, none⟩ (.func (.func a.gas) #[] #[]) = W4 at *
    obtain ⟨d0, d1, d2, d3⟩ : W4.cell? ⟨w.heap.size, 0, none⟩ = some (.string a.name) ∧ W4.cell? ⟨w.heap.size, 1, none⟩ = some (.slice (some ⟨w.heap.size + 2 + i, 0, none⟩) a.args.length a.args.length) ∧ W4.cell? ⟨w.heap.size, 2, none⟩ = some (.int .i8 a.tell) ∧ W4.cell? ⟨w.heap.size, 3, none⟩ = some (.func (.func a.gas) #[] #[]) :=
      ⟨HW5.out.cellAt 0, HW5.out.cellAt 1, HW5.out.cellAt 2, HW5.out.cellAt 3⟩
    exact bodyPost_ret (v := .tuple #[.int .i64 i, .agg (a.cells (w.heap.size + 2 + i)).toArray, .bool true]) (by simp [results, Tryd.f13, go_sem, d0, d1, d2, d3, Sg.cells]) rfl ⟨rfl, HK4.out, HB4.out⟩
  · rw [tbl1] at hi
    go_enter Tryd.func13, Tryd.ntmps13
    go_wp2_with fail
    have HR := Lib.hid (Whole.made w 55 #[.string ⟨#[]⟩, .slice none 0 0, .int .i8 0, .nilFunc])
    refine (func_yes i a _ hi).mono ?_
    rintro e w1 ⟨rfl, hk, hb⟩
    rw [show (a.cells ((w.alloc (.cells #[.string ⟨#[]⟩, .slice none 0 0, .int .i8 0, .nilFunc] 55)).heap.size + 1 + i)).toArray = #[.string a.name, .slice (some ⟨w.heap.size + 2 + i, 0, none⟩) a.args.length a.args.length, .int .i8 a.tell, .func (.func a.gas) #[] #[]] from by rw [World.size_alloc]; rfl]
    have hk2 : Whole w1 (w.heap.size + 2 + i) 52 a.kinds := by rw [World.size_alloc] at hk; exact hk
    have HR1 := Lib.hid (HR.out.past hb)
    have HB1 := Lib.hid (belowThen' ((Below.refl _ w).alloc (Nat.le_refl _) _) hb)
    have HK := Lib.hid hk2
    clear hk hk2 hb HR
    obtain ⟨d0, d1, d2, d3⟩ : w1.cell? ⟨w.heap.size, 0, none⟩ = some (.string ⟨#[]⟩) ∧ w1.cell? ⟨w.heap.size, 1, none⟩ = some (.slice none 0 0) ∧ w1.cell? ⟨w.heap.size, 2, none⟩ = some (.int .i8 0) ∧ w1.cell? ⟨w.heap.size, 3, none⟩ = some .nilFunc :=
      ⟨HR1.out.cellAt 0, HR1.out.cellAt 1, HR1.out.cellAt 2, HR1.out.cellAt 3⟩
    have f0 := HR1.out.free 0
    have f1 := HR1.out.free 1
    have f2 := HR1.out.free 2
    have f3 := HR1.out.free 3
    go_wp2_with fail
    have HW5 := Lib.hid ((((HR1.out.put 0 (.string a.name)).put 1 (.slice (some ⟨w.heap.size + 2 + i, 0, none⟩) a.args.length a.args.length)).put 2 (.int .i8 a.tell)).put 3 (.func (.func a.gas) #[] #[]))
    have HB4 := Lib.hid ((((HB1.out.setCell (p := ⟨w.heap.size, 0, none⟩) (Nat.le_refl _) (.string a.name)).setCell (p := ⟨w.heap.size, 1, none⟩) (Nat.le_refl _) (.slice (some ⟨w.heap.size + 2 + i, 0, none⟩) a.args.length a.args.length)).setCell (p := ⟨w.heap.size, 2, none⟩) (Nat.le_refl _) (.int .i8 a.tell)).setCell (p := ⟨w.heap.size, 3, none⟩) (Nat.le_refl _) (.func (.func a.gas) #[] #[]))
    have hne : ∀ j, w.heap.size + 2 + i ≠ (⟨w.heap.size, j, none⟩ : Addr).block := fun j => by show w.heap.size + 2 + i ≠ w.heap.size; omega
    have HK4 := Lib.hid ((((HK.out.putFar (p := ⟨w.heap.size, 0, none⟩) (hne 0) (.string a.name)).putFar (p := ⟨w.heap.size, 1, none⟩) (hne 1) (.slice (some ⟨w.heap.size + 2 + i, 0, none⟩) a.args.length a.args.length)).putFar (p := ⟨w.heap.size, 2, none⟩) (hne 2) (.int .i8 a.tell)).putFar (p := ⟨w.heap.size, 3, none⟩) (hne 3) (.func (.func a.gas) #[] #[]))
    clear HR1 HB1 HK d0 d1 d2 d3 f0 f1 f2 f3 hne
    generalize (((w1.setCell ⟨w.heap.size, 0, none⟩ (.string a.name)).setCell ⟨w.heap.size, 1, none⟩ (.slice (some ⟨w.heap.size + 2 + i, 0, none⟩) a.args.length a.args.length)).setCell ⟨w.heap.size, 2, none⟩ (.int .i8 a.tell)).setCell ⟨w.heap.size, 3, none⟩ (.func (.func a.gas) #[] #[]) = W4 at *
    obtain ⟨d0, d1, d2, d3⟩ : W4.cell? ⟨w.heap.size, 0, none⟩ = some (.string a.name) ∧ W4.cell? ⟨w.heap.size, 1, none⟩ = some (.slice (some ⟨w.heap.size + 2 + i, 0, none⟩) a.args.length a.args.length) ∧ W4.cell? ⟨w.heap.size, 2, none⟩ = some (.int .i8 a.tell) ∧ W4.cell? ⟨w.heap.size, 3, none⟩ = some (.func (.func a.gas) #[] #[]) :=
      ⟨HW5.out.cellAt 0, HW5.out.cellAt 1, HW5.out.cellAt 2, HW5.out.cellAt 3⟩
    exact bodyPost_ret (v := .tuple #[.int .i64 i, .agg (a.cells (w.heap.size + 2 + i)).toArray, .bool true]) (by simp [results, Tryd.f13, go_sem, d0, d1, d2, d3, Sg.cells]) rfl ⟨rfl, HK4.out, HB4.out⟩
  · rw [tbl2] at hi
    go_enter Tryd.func13, Tryd.ntmps13
    go_wp2_with fail
    have HR := Lib.hid (Whole.made w 55 #[.string ⟨#[]⟩, .slice none 0 0, .int .i8 0, .nilFunc])
    refine (effect_yes i a _ hi).mono ?_
    rintro e w1 ⟨rfl, hk, hb⟩
    rw [show (a.cells ((w.alloc (.cells #[.string ⟨#[]⟩, .slice none 0 0, .int .i8 0, .nilFunc] 55)).heap.size + 1 + i)).toArray = #[.string a.name, .slice (some ⟨w.heap.size + 2 + i, 0, none⟩) a.args.length a.args.length, .int .i8 a.tell, .func (.func a.gas) #[] #[]] from by rw [World.size_alloc]; rfl]
    have hk2 : Whole w1 (w.heap.size + 2 + i) 52 a.kinds := by rw [World.size_alloc] at hk; exact hk
    have HR1 := Lib.hid (HR.out.past hb)
    have HB1 := Lib.hid (belowThen' ((Below.refl _ w).alloc (Nat.le_refl _) _) hb)
    have HK := Lib.hid hk2
    clear hk hk2 hb HR
    obtain ⟨d0, d1, d2, d3⟩ : w1.cell? ⟨w.heap.size, 0, none⟩ = some (.string ⟨#[]⟩) ∧ w1.cell? ⟨w.heap.size, 1, none⟩ = some (.slice none 0 0) ∧ w1.cell? ⟨w.heap.size, 2, none⟩ = some (.int .i8 0) ∧ w1.cell? ⟨w.heap.size, 3, none⟩ = some .nilFunc :=
      ⟨HR1.out.cellAt 0, HR1.out.cellAt 1, HR1.out.cellAt 2, HR1.out.cellAt 3⟩
    have f0 := HR1.out.free 0
    have f1 := HR1.out.free 1
    have f2 := HR1.out.free 2
    have f3 := HR1.out.free 3
    go_wp2_with fail
    have HW5 := Lib.hid ((((HR1.out.put 0 (.string a.name)).put 1 (.slice (some ⟨w.heap.size + 2 + i, 0, none⟩) a.args.length a.args.length)).put 2 (.int .i8 a.tell)).put 3 (.func (.func a.gas) #[] #[]))
    have HB4 := Lib.hid ((((HB1.out.setCell (p := ⟨w.heap.size, 0, none⟩) (Nat.le_refl _) (.string a.name)).setCell (p := ⟨w.heap.size, 1, none⟩) (Nat.le_refl _) (.slice (some ⟨w.heap.size + 2 + i, 0, none⟩) a.args.length a.args.length)).setCell (p := ⟨w.heap.size, 2, none⟩) (Nat.le_refl _) (.int .i8 a.tell)).setCell (p := ⟨w.heap.size, 3, none⟩) (Nat.le_refl _) (.func (.func a.gas) #[] #[]))
    have hne : ∀ j, w.heap.size + 2 + i ≠ (⟨w.heap.size, j, none⟩ : Addr).block := fun j => by show w.heap.size + 2 + i ≠ w.heap.size; omega
    have HK4 := Lib.hid ((((HK.out.putFar (p := ⟨w.heap.size, 0, none⟩) (hne 0) (.string a.name)).putFar (p := ⟨w.heap.size, 1, none⟩) (hne 1) (.slice (some ⟨w.heap.size + 2 + i, 0, none⟩) a.args.length a.args.length)).putFar (p := ⟨w.heap.size, 2, none⟩) (hne 2) (.int .i8 a.tell)).putFar (p := ⟨w.heap.size, 3, none⟩) (hne 3) (.func (.func a.gas) #[] #[]))
    clear HR1 HB1 HK d0 d1 d2 d3 f0 f1 f2 f3 hne
    generalize (((w1.setCell ⟨w.heap.size, 0, none⟩ (.string a.name)).setCell ⟨w.heap.size, 1, none⟩ (.slice (some ⟨w.heap.size + 2 + i, 0, none⟩) a.args.length a.args.length)).setCell ⟨w.heap.size, 2, none⟩ (.int .i8 a.tell)).setCell ⟨w.heap.size, 3, none⟩ (.func (.func a.gas) #[] #[]) = W4 at *
    obtain ⟨d0, d1, d2, d3⟩ : W4.cell? ⟨w.heap.size, 0, none⟩ = some (.string a.name) ∧ W4.cell? ⟨w.heap.size, 1, none⟩ = some (.slice (some ⟨w.heap.size + 2 + i, 0, none⟩) a.args.length a.args.length) ∧ W4.cell? ⟨w.heap.size, 2, none⟩ = some (.int .i8 a.tell) ∧ W4.cell? ⟨w.heap.size, 3, none⟩ = some (.func (.func a.gas) #[] #[]) :=
      ⟨HW5.out.cellAt 0, HW5.out.cellAt 1, HW5.out.cellAt 2, HW5.out.cellAt 3⟩
    exact bodyPost_ret (v := .tuple #[.int .i64 i, .agg (a.cells (w.heap.size + 2 + i)).toArray, .bool true]) (by simp [results, Tryd.f13, go_sem, d0, d1, d2, d3, Sg.cells]) rfl ⟨rfl, HK4.out, HB4.out⟩
end Go.Proofs.YtfcdbmfdaohpjaaDoor
