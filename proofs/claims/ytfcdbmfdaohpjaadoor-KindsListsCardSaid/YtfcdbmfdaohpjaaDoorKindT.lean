/-
  Kinds: a name that is none, looked for; the document's words; a sign found by the document: the walks. Conditions: a text is no longer than Go's own limit.
-/
import Derived.Test.YtfcdbmfdaohpjaaDoorKindQ
import Derived.RegionTactic
namespace Go.Proofs.YtfcdbmfdaohpjaaDoor
open Go.RowKit
set_option maxHeartbeats 2000000 in
theorem lfind_no (q : Nat) (hq : q < 3) (x : ByteArray) (w : World) (hno : ∀ a ∈ tbl q, a.name ≠ x) (hx : x.size ≤ maxLen) :
    Calls Tryd.prog 13 #[.int .i64 q, .string x] w fun e w' => e = .returned (.tuple #[.int .i64 0, .agg #[.string ⟨#[]⟩, .slice none 0 0, .int .i8 0, .nilFunc], .bool false]) ∧ Below w.heap.size w w' := by
  rcases three hq with rfl | rfl | rfl
  · rw [tbl0] at hno
    go_enter Tryd.func13, Tryd.ntmps13
    go_wp2_with fail
    have HR := Lib.hid (Whole.made w 55 #[.string ⟨#[]⟩, .slice none 0 0, .int .i8 0, .nilFunc])
    refine (field_no x _ hno hx).mono ?_
    rintro e w1 ⟨rfl, hb⟩
    have HR1 := Lib.hid (HR.out.past hb)
    have HB1 := Lib.hid (belowThen' ((Below.refl _ w).alloc (Nat.le_refl _) _) hb)
    clear hb HR
    unfold SgZero
    obtain ⟨d0, d1, d2, d3⟩ : w1.cell? ⟨w.heap.size, 0, none⟩ = some (.string ⟨#[]⟩) ∧ w1.cell? ⟨w.heap.size, 1, none⟩ = some (.slice none 0 0) ∧ w1.cell? ⟨w.heap.size, 2, none⟩ = some (.int .i8 0) ∧ w1.cell? ⟨w.heap.size, 3, none⟩ = some .nilFunc :=
      ⟨HR1.out.cellAt 0, HR1.out.cellAt 1, HR1.out.cellAt 2, HR1.out.cellAt 3⟩
    have f0 := HR1.out.free 0
    have f1 := HR1.out.free 1
    have f2 := HR1.out.free 2
    have f3 := HR1.out.free 3
    go_wp2_with fail
    have HW5 := Lib.hid ((((HR1.out.put 0 (.string ⟨#[]⟩)).put 1 (.slice none 0 0)).put 2 (.int .i8 0)).put 3 .nilFunc)
    have HB4 := Lib.hid ((((HB1.out.setCell (p := ⟨w.heap.size, 0, none⟩) (Nat.le_refl _) (.string ⟨#[]⟩)).setCell (p := ⟨w.heap.size, 1, none⟩) (Nat.le_refl _) (.slice none 0 0)).setCell (p := ⟨w.heap.size, 2, none⟩) (Nat.le_refl _) (.int .i8 0)).setCell (p := ⟨w.heap.size, 3, none⟩) (Nat.le_refl _) .nilFunc)
    clear HR1 HB1 d0 d1 d2 d3 f0 f1 f2 f3
    generalize (((w1.setCell ⟨w.heap.size, 0, none⟩ (.string ⟨#[]⟩)).setCell ⟨w.heap.size, 1, none⟩ (.slice none 0 0)).setCell ⟨w.heap.size, 2, none⟩ (.int .i8 0)).setCell ⟨w.heap.size, 3, none⟩ .nilFunc = W4 at *
    obtain ⟨d0, d1, d2, d3⟩ : W4.cell? ⟨w.heap.size, 0, none⟩ = some (.string ⟨#[]⟩) ∧ W4.cell? ⟨w.heap.size, 1, none⟩ = some (.slice none 0 0) ∧ W4.cell? ⟨w.heap.size, 2, none⟩ = some (.int .i8 0) ∧ W4.cell? ⟨w.heap.size, 3, none⟩ = some .nilFunc :=
      ⟨HW5.out.cellAt 0, HW5.out.cellAt 1, HW5.out.cellAt 2, HW5.out.cellAt 3⟩
    exact bodyPost_ret (v := .tuple #[.int .i64 0, .agg #[.string ⟨#[]⟩, .slice none 0 0, .int .i8 0, .nilFunc], .bool false]) (by simp [results, Tryd.f13, go_sem, d0, d1, d2, d3]) rfl ⟨rfl, HB4.out⟩
  · rw [tbl1] at hno
    go_enter Tryd.func13, Tryd.ntmps13
    go_wp2_with fail
    have HR := Lib.hid (Whole.made w 55 #[.string ⟨#[]⟩, .slice none 0 0, .int .i8 0, .nilFunc])
    refine (func_no x _ hno hx).mono ?_
    rintro e w1 ⟨rfl, hb⟩
    have HR1 := Lib.hid (HR.out.past hb)
    have HB1 := Lib.hid (belowThen' ((Below.refl _ w).alloc (Nat.le_refl _) _) hb)
    clear hb HR
    unfold SgZero
    obtain ⟨d0, d1, d2, d3⟩ : w1.cell? ⟨w.heap.size, 0, none⟩ = some (.string ⟨#[]⟩) ∧ w1.cell? ⟨w.heap.size, 1, none⟩ = some (.slice none 0 0) ∧ w1.cell? ⟨w.heap.size, 2, none⟩ = some (.int .i8 0) ∧ w1.cell? ⟨w.heap.size, 3, none⟩ = some .nilFunc :=
      ⟨HR1.out.cellAt 0, HR1.out.cellAt 1, HR1.out.cellAt 2, HR1.out.cellAt 3⟩
    have f0 := HR1.out.free 0
    have f1 := HR1.out.free 1
    have f2 := HR1.out.free 2
    have f3 := HR1.out.free 3
    go_wp2_with fail
    have HW5 := Lib.hid ((((HR1.out.put 0 (.string ⟨#[]⟩)).put 1 (.slice none 0 0)).put 2 (.int .i8 0)).put 3 .nilFunc)
    have HB4 := Lib.hid ((((HB1.out.setCell (p := ⟨w.heap.size, 0, none⟩) (Nat.le_refl _) (.string ⟨#[]⟩)).setCell (p := ⟨w.heap.size, 1, none⟩) (Nat.le_refl _) (.slice none 0 0)).setCell (p := ⟨w.heap.size, 2, none⟩) (Nat.le_refl _) (.int .i8 0)).setCell (p := ⟨w.heap.size, 3, none⟩) (Nat.le_refl _) .nilFunc)
    clear HR1 HB1 d0 d1 d2 d3 f0 f1 f2 f3
    generalize (((w1.setCell ⟨w.heap.size, 0, none⟩ (.string ⟨#[]⟩)).setCell ⟨w.heap.size, 1, none⟩ (.slice none 0 0)).setCell ⟨w.heap.size, 2, none⟩ (.int .i8 0)).setCell ⟨w.heap.size, 3, none⟩ .nilFunc = W4 at *
    obtain ⟨d0, d1, d2, d3⟩ : W4.cell? ⟨w.heap.size, 0, none⟩ = some (.string ⟨#[]⟩) ∧ W4.cell? ⟨w.heap.size, 1, none⟩ = some (.slice none 0 0) ∧ W4.cell? ⟨w.heap.size, 2, none⟩ = some (.int .i8 0) ∧ W4.cell? ⟨w.heap.size, 3, none⟩ = some .nilFunc :=
      ⟨HW5.out.cellAt 0, HW5.out.cellAt 1, HW5.out.cellAt 2, HW5.out.cellAt 3⟩
    exact bodyPost_ret (v := .tuple #[.int .i64 0, .agg #[.string ⟨#[]⟩, .slice none 0 0, .int .i8 0, .nilFunc], .bool false]) (by simp [results, Tryd.f13, go_sem, d0, d1, d2, d3]) rfl ⟨rfl, HB4.out⟩
  · rw [tbl2] at hno
    go_enter Tryd.func13, Tryd.ntmps13
    go_wp2_with fail
    have HR := Lib.hid (Whole.made w 55 #[.string ⟨#[]⟩, .slice none 0 0, .int .i8 0, .nilFunc])
    refine (effect_no x _ hno hx).mono ?_
    rintro e w1 ⟨rfl, hb⟩
    have HR1 := Lib.hid (HR.out.past hb)
    have HB1 := Lib.hid (belowThen' ((Below.refl _ w).alloc (Nat.le_refl _) _) hb)
    clear hb HR
    unfold SgZero
    obtain ⟨d0, d1, d2, d3⟩ : w1.cell? ⟨w.heap.size, 0, none⟩ = some (.string ⟨#[]⟩) ∧ w1.cell? ⟨w.heap.size, 1, none⟩ = some (.slice none 0 0) ∧ w1.cell? ⟨w.heap.size, 2, none⟩ = some (.int .i8 0) ∧ w1.cell? ⟨w.heap.size, 3, none⟩ = some .nilFunc :=
      ⟨HR1.out.cellAt 0, HR1.out.cellAt 1, HR1.out.cellAt 2, HR1.out.cellAt 3⟩
    have f0 := HR1.out.free 0
    have f1 := HR1.out.free 1
    have f2 := HR1.out.free 2
    have f3 := HR1.out.free 3
    go_wp2_with fail
    have HW5 := Lib.hid ((((HR1.out.put 0 (.string ⟨#[]⟩)).put 1 (.slice none 0 0)).put 2 (.int .i8 0)).put 3 .nilFunc)
    have HB4 := Lib.hid ((((HB1.out.setCell (p := ⟨w.heap.size, 0, none⟩) (Nat.le_refl _) (.string ⟨#[]⟩)).setCell (p := ⟨w.heap.size, 1, none⟩) (Nat.le_refl _) (.slice none 0 0)).setCell (p := ⟨w.heap.size, 2, none⟩) (Nat.le_refl _) (.int .i8 0)).setCell (p := ⟨w.heap.size, 3, none⟩) (Nat.le_refl _) .nilFunc)
    clear HR1 HB1 d0 d1 d2 d3 f0 f1 f2 f3
    generalize (((w1.setCell ⟨w.heap.size, 0, none⟩ (.string ⟨#[]⟩)).setCell ⟨w.heap.size, 1, none⟩ (.slice none 0 0)).setCell ⟨w.heap.size, 2, none⟩ (.int .i8 0)).setCell ⟨w.heap.size, 3, none⟩ .nilFunc = W4 at *
    obtain ⟨d0, d1, d2, d3⟩ : W4.cell? ⟨w.heap.size, 0, none⟩ = some (.string ⟨#[]⟩) ∧ W4.cell? ⟨w.heap.size, 1, none⟩ = some (.slice none 0 0) ∧ W4.cell? ⟨w.heap.size, 2, none⟩ = some (.int .i8 0) ∧ W4.cell? ⟨w.heap.size, 3, none⟩ = some .nilFunc :=
      ⟨HW5.out.cellAt 0, HW5.out.cellAt 1, HW5.out.cellAt 2, HW5.out.cellAt 3⟩
    exact bodyPost_ret (v := .tuple #[.int .i64 0, .agg #[.string ⟨#[]⟩, .slice none 0 0, .int .i8 0, .nilFunc], .bool false]) (by simp [results, Tryd.f13, go_sem, d0, d1, d2, d3]) rfl ⟨rfl, HB4.out⟩
theorem rwords_any (s : ByteArray) (w : World) : Calls Tryd.prog 55 #[.string s] w fun e w' => e = .returned (.bool (amongOk words s)) ∧ Below w.heap.size w w' := by
  have hlw : words.length = 30 := by decide
  have HL : Hid (Lies (w.alloc (.cells (words.map Value.string).toArray 9)) (w.heap.size + 1) (some ⟨w.heap.size, 0, none⟩) (words.map Value.string)) := Lib.hid (Lies.row (t := 9) (fr := (0, 0)) (heap_alloc_new w _) (Nat.lt_succ_self _))
  have HB : Hid (Below w.heap.size w (w.alloc (.cells (words.map Value.string).toArray 9))) := Lib.hid ((Below.refl _ _).alloc (Nat.le_refl _) _)
  have HC : Hid (Calls Tryd.prog 60 #[] w fun e w' => e = .returned (.slice (some ⟨w.heap.size, 0, none⟩) 30 30) ∧ w' = w.alloc (.cells (words.map Value.string).toArray 9)) := Lib.hid (by
    go_enter Tryd.func60, Tryd.ntmps60
    go_wp2_with fail
    go_ret
    exact ⟨rfl, rfl⟩)
  go_enter Tryd.func55, Tryd.ntmps55
  go_wp2_with fail
  refine HC.out.mono ?_
  rintro e w1 ⟨rfl, rfl⟩
  generalize w.alloc (.cells (words.map Value.string).toArray 9) = w1 at *
  have HLW := Lib.hid hlw; clear hlw HC
  obtain ⟨ns, hns⟩ : ∃ ns, ns = words := ⟨_, rfl⟩
  have HNS := Lib.hid hns
  rw [← hns] at HL HLW
  clear hns
  go_wp2_with fail
  go_loopw [4] (fun vi wr => ∃ k : Nat, k ≤ 30 ∧ vi = .int .i64 k ∧ Hid (∀ j, (hj : j < ns.length) → j < k → ns[j] ≠ s) ∧ w1 = wr) (fun vi _ => 30 - (intOf vi).toNat)
  case atStart => exact ⟨0, by omega, rfl, Lib.hid (fun j _ hj => by omega), rfl⟩
  case round =>
    obtain ⟨k, hk, rfl, HN, rfl⟩ := hrel
    by_cases hlt : k < 30
    · have hkn : k < ns.length := by rw [HLW.out]; exact hlt
      obtain ⟨g, off, hA, _, hc⟩ := HL.out k _ (map_text ns k hkn)
      injection hA with hA
      injection hA with hA1 hA2
      subst hA1; subst hA2
      rw [Nat.zero_add] at hc
      by_cases hs : ns[k] = s
      · have HR : Hid (amongOk words s = true) := Lib.hid (by rw [← HNS.out]; unfold amongOk; rw [placeOf_take s ns k hkn (fun j hj => HN.out j (by omega) hj) hs]; rfl)
        rw [hs] at hc
        clear hs
        go_wp2_with fail
        go_ret
        exact ⟨by rw [HR.out]; rfl, HB.out⟩
      · have HN' : Hid (∀ j, (hj : j < ns.length) → j < k + 1 → ns[j] ≠ s) := Lib.hid (fun j hj hjk => by
          by_cases e : j = k
          · subst e; exact hs
          · exact HN.out j hj (by omega))
        have hb := txt_ne hs
        clear HN hs
        generalize ns[k] = x at *
        go_wp2_with fail
        go_roundw
        case rel => exact ⟨k + 1, by omega, by go_num, HN', trivial⟩
        case measure => simp [intOf]; omega
    · have HR : Hid (amongOk words s = false) := Lib.hid (by
        rw [← HNS.out]
        unfold amongOk
        rw [placeOf_none s ns (fun x hx => by
          obtain ⟨j, hj, rfl⟩ := List.getElem_of_mem hx
          exact HN.out j hj (by have := HLW.out; omega))]
        rfl)
      go_wp2_with fail
      go_ret
      exact ⟨by rw [HR.out]; rfl, HB.out⟩
theorem rword_any (s : ByteArray) (w : World) : Calls Tryd.prog 20 #[.string s] w fun e w' => e = .returned (.bool (amongOk words s)) ∧ Below w.heap.size w w' := by
  go_enter Tryd.func20, Tryd.ntmps20
  go_wp2_with fail
  refine (rwords_any s _).mono ?_
  rintro e w' ⟨rfl, hb⟩
  have HB := Lib.hid hb; clear hb
  go_wp2_with fail
  go_ret
  exact ⟨rfl, HB.out⟩
set_option maxHeartbeats 2000000 in
theorem rfind_yes (q : Nat) (hq : q < 3) (i : Nat) (a : Sg) (w : World) (hi : (tbl q)[i]? = some a) (hd : Distinct (tbl q)) :
    Calls Tryd.prog 14 #[.int .i64 q, .string a.name] w fun e w' => e = .returned (.tuple #[.int .i64 i, .agg (a.rcells (w.heap.size + 1 + i)).toArray, .bool true]) ∧ Whole w' (w.heap.size + 1 + i) 52 a.kinds ∧ Below w.heap.size w w' := by
  go_enter Tryd.func14, Tryd.ntmps14
  go_wp2_with fail
  have HR := Lib.hid (Whole.made w 57 #[.string ⟨#[]⟩, .slice none 0 0, .int .i8 0])
  refine (rlist_any q hq _).mono ?_
  rintro e w1 ⟨rfl, hs, hb⟩
  have HR1 := Lib.hid (HR.out.past hb)
  have HB1 := Lib.hid (belowThen' ((Below.refl _ w).alloc (Nat.le_refl _) _) hb)
  rw [World.size_alloc] at hs ⊢
  have HS := Lib.hid hs
  have hlen : (tbl q).length ≤ 100 := by rcases three hq with rfl | rfl | rfl <;> decide
  have hil := (List.getElem?_eq_some_iff.1 hi).1
  have HI := Lib.hid hi; have HD := Lib.hid hd
  clear hs hb HR hi hd
  generalize tbl q = L at *
  go_wp2_with fail
  go_loopw [8] (fun vi wr => ∃ k : Nat, k ≤ i ∧ vi = .int .i64 k ∧ w1 = wr) (fun vi _ => i - (intOf vi).toNat)
  case atStart => exact ⟨0, by omega, rfl, rfl⟩
  case round =>
    obtain ⟨k, hk, rfl, rfl⟩ := hrel
    have hkl : k < L.length := by omega
    obtain ⟨b, hb⟩ : ∃ b, L[k]? = some b := ⟨_, List.getElem?_eq_getElem hkl⟩
    obtain ⟨c0, c1, c2⟩ := RSgAt.cells_at HS.out.1 k b hb
    by_cases hki : k = i
    · subst hki
      have hba : b = a := by have := HI.out; rw [hb] at this; injection this
      subst hba
      have ht : (b.name.toList == b.name.toList) = true := by simp
      obtain ⟨d0, d1, d2⟩ : w1.cell? ⟨w.heap.size, 0, none⟩ = some (.string ⟨#[]⟩) ∧ w1.cell? ⟨w.heap.size, 1, none⟩ = some (.slice none 0 0) ∧ w1.cell? ⟨w.heap.size, 2, none⟩ = some (.int .i8 0) :=
        ⟨HR1.out.cellAt 0, HR1.out.cellAt 1, HR1.out.cellAt 2⟩
      have f0 := HR1.out.free 0
      have f1 := HR1.out.free 1
      have f2 := HR1.out.free 2
      have HK := Lib.hid (HS.out.2 k b hb)
      go_wp2_with fail
      go_region
      have HW4 := Lib.hid (((HR1.out.put 0 (.string b.name)).put 1 (.slice (some ⟨w.heap.size + 1 + k, 0, none⟩) b.args.length b.args.length)).put 2 (.int .i8 b.tell))
      have HB4 := Lib.hid ((((HB1.out.setCell (p := ⟨w.heap.size, 0, none⟩) (Nat.le_refl _) (.string b.name)).setCell (p := ⟨w.heap.size, 1, none⟩) (Nat.le_refl _) (.slice (some ⟨w.heap.size + 1 + k, 0, none⟩) b.args.length b.args.length)).setCell (p := ⟨w.heap.size, 2, none⟩) (Nat.le_refl _) (.int .i8 b.tell)).drew)
      have hne : ∀ j, w.heap.size + 1 + k ≠ (⟨w.heap.size, j, none⟩ : Addr).block := fun j => by show w.heap.size + 1 + k ≠ w.heap.size; omega
      have HK4 := Lib.hid ((((HK.out.putFar (p := ⟨w.heap.size, 0, none⟩) (hne 0) (.string b.name)).putFar (p := ⟨w.heap.size, 1, none⟩) (hne 1) (.slice (some ⟨w.heap.size + 1 + k, 0, none⟩) b.args.length b.args.length)).putFar (p := ⟨w.heap.size, 2, none⟩) (hne 2) (.int .i8 b.tell)).drew)
      have HW5 : Hid (Whole _ w.heap.size 57 (b.rcells (w.heap.size + 1 + k)).toArray) := Lib.hid HW4.out.drew
      clear HS HR1 HB1 HW4 HK c0 c1 c2 d0 d1 d2 f0 f1 f2 hne hb HI HD
      generalize (((w1.setCell ⟨w.heap.size, 0, none⟩ (.string b.name)).setCell ⟨w.heap.size, 1, none⟩ (.slice (some ⟨w.heap.size + 1 + k, 0, none⟩) b.args.length b.args.length)).setCell ⟨w.heap.size, 2, none⟩ (.int .i8 b.tell)).drew = W4 at *
      obtain ⟨d0, d1, d2⟩ : W4.cell? ⟨w.heap.size, 0, none⟩ = some (.string b.name) ∧ W4.cell? ⟨w.heap.size, 1, none⟩ = some (.slice (some ⟨w.heap.size + 1 + k, 0, none⟩) b.args.length b.args.length) ∧ W4.cell? ⟨w.heap.size, 2, none⟩ = some (.int .i8 b.tell) :=
        ⟨HW5.out.cellAt 0, HW5.out.cellAt 1, HW5.out.cellAt 2⟩
      go_wp2_with fail
      exact bodyPost_ret (v := .tuple #[.int .i64 k, .agg (b.rcells (w.heap.size + 1 + k)).toArray, .bool true]) (by simp [results, Tryd.f14, go_sem, d0, d1, d2, Sg.rcells]) rfl ⟨rfl, HK4.out, HB4.out⟩
    · have hne : (b.name.toList == a.name.toList) = false := txt_ne (fun e => hki (HD.out k i b a hb HI.out e))
      clear hb
      go_wp2_with fail
      go_roundw
      case rel => exact ⟨k + 1, by omega, by go_num, trivial⟩
      case measure => simp [intOf]; omega
set_option maxHeartbeats 2000000 in
theorem rfind_no (q : Nat) (hq : q < 3) (x : ByteArray) (w : World) (hno : ∀ a ∈ tbl q, a.name ≠ x) :
    Calls Tryd.prog 14 #[.int .i64 q, .string x] w fun e w' => e = .returned (.tuple #[.int .i64 0, .agg #[.string ⟨#[]⟩, .slice none 0 0, .int .i8 0], .bool false]) ∧ Below w.heap.size w w' := by
  go_enter Tryd.func14, Tryd.ntmps14
  go_wp2_with fail
  have HR := Lib.hid (Whole.made w 57 #[.string ⟨#[]⟩, .slice none 0 0, .int .i8 0])
  refine (rlist_any q hq _).mono ?_
  rintro e w1 ⟨rfl, hs, hb⟩
  have HR1 := Lib.hid (HR.out.past hb)
  have HB1 := Lib.hid (belowThen' ((Below.refl _ w).alloc (Nat.le_refl _) _) hb)
  rw [World.size_alloc] at hs ⊢
  have HS := Lib.hid hs
  have hlen : (tbl q).length ≤ 100 := by rcases three hq with rfl | rfl | rfl <;> decide
  have HN := Lib.hid hno
  clear hs hb HR hno
  generalize tbl q = L at *
  go_wp2_with fail
  go_loopw [8] (fun vi wr => ∃ k : Nat, k ≤ L.length ∧ vi = .int .i64 k ∧ w1 = wr) (fun vi _ => L.length - (intOf vi).toNat)
  case atStart => exact ⟨0, by omega, rfl, rfl⟩
  case round =>
    obtain ⟨k, hk, rfl, rfl⟩ := hrel
    by_cases hkl : k < L.length
    · obtain ⟨b, hb⟩ : ∃ b, L[k]? = some b := ⟨_, List.getElem?_eq_getElem hkl⟩
      obtain ⟨c0, c1, c2⟩ := RSgAt.cells_at HS.out.1 k b hb
      have hne : (b.name.toList == x.toList) = false := txt_ne (HN.out b (List.mem_of_getElem? hb))
      clear hb
      go_wp2_with fail
      go_roundw
      case rel => exact ⟨k + 1, by omega, by go_num, trivial⟩
      case measure => simp [intOf]; omega
    · obtain rfl : k = L.length := by omega
      obtain ⟨d0, d1, d2⟩ : w1.cell? ⟨w.heap.size, 0, none⟩ = some (.string ⟨#[]⟩) ∧ w1.cell? ⟨w.heap.size, 1, none⟩ = some (.slice none 0 0) ∧ w1.cell? ⟨w.heap.size, 2, none⟩ = some (.int .i8 0) :=
        ⟨HR1.out.cellAt 0, HR1.out.cellAt 1, HR1.out.cellAt 2⟩
      have f0 := HR1.out.free 0
      have f1 := HR1.out.free 1
      have f2 := HR1.out.free 2
      go_wp2_with fail
      have HW5 := Lib.hid (((HR1.out.put 0 (.string ⟨#[]⟩)).put 1 (.slice none 0 0)).put 2 (.int .i8 0))
      have HB4 := Lib.hid (((HB1.out.setCell (p := ⟨w.heap.size, 0, none⟩) (Nat.le_refl _) (.string ⟨#[]⟩)).setCell (p := ⟨w.heap.size, 1, none⟩) (Nat.le_refl _) (.slice none 0 0)).setCell (p := ⟨w.heap.size, 2, none⟩) (Nat.le_refl _) (.int .i8 0))
      clear HS HR1 HB1 d0 d1 d2 f0 f1 f2 HN
      generalize ((w1.setCell ⟨w.heap.size, 0, none⟩ (.string ⟨#[]⟩)).setCell ⟨w.heap.size, 1, none⟩ (.slice none 0 0)).setCell ⟨w.heap.size, 2, none⟩ (.int .i8 0) = W4 at *
      obtain ⟨d0, d1, d2⟩ : W4.cell? ⟨w.heap.size, 0, none⟩ = some (.string ⟨#[]⟩) ∧ W4.cell? ⟨w.heap.size, 1, none⟩ = some (.slice none 0 0) ∧ W4.cell? ⟨w.heap.size, 2, none⟩ = some (.int .i8 0) :=
        ⟨HW5.out.cellAt 0, HW5.out.cellAt 1, HW5.out.cellAt 2⟩
      exact bodyPost_ret (v := .tuple #[.int .i64 0, .agg #[.string ⟨#[]⟩, .slice none 0 0, .int .i8 0], .bool false]) (by simp [results, Tryd.f14, go_sem, d0, d1, d2]) rfl ⟨rfl, HB4.out⟩
end Go.Proofs.YtfcdbmfdaohpjaaDoor
