/-
  Kinds: is a sign the document's: the walk. Conditions: the two lists of kinds lie in memory.
-/
import Derived.Test.YtfcdbmfdaohpjaaDoorKindT
import Derived.Shelf.Abstract
namespace Go.Proofs.YtfcdbmfdaohpjaaDoor
open Go.RowKit Go.Shelf
theorem map_get {k : IntKind} (l : List Int) (i : Nat) (h : i < l.length) : (l.map (Value.int k))[i]? = some (.int k (l[i])) := by simp [h]
set_option maxHeartbeats 400000 in
theorem eqSmalls_any (x y : List Int) (A A' : Option Addr) (B B' cap cap' : Nat) (w : World) (hx : Lies w B A (x.map (Value.int .i8))) (hy : Lies w B' A' (y.map (Value.int .i8))) (hm : x.length ≤ 9223372036854775807) :
    Calls Tryd.prog 25 #[.slice A x.length cap, .slice A' y.length cap'] w fun e w' => e = .returned (.bool (decide (x = y))) ∧ ∃ n, w' = w.drewN n := by
  by_cases hlen : x.length = y.length
  · go_enter Tryd.func25, Tryd.ntmps25
    go_wp2
    go_loopw [5] (fun i wr => ∃ k d : Nat, k ≤ x.length ∧ i = .int .i64 k ∧ x.take k = y.take k ∧ wr = w.drewN d) (fun i _ => x.length - (intOf i).toNat)
    case atStart => exact ⟨0, 0, by omega, rfl, rfl, rfl⟩
    case round =>
      obtain ⟨k, d, hk, rfl, heq, rfl⟩ := hrel
      have HE := Lib.hid heq; clear heq
      by_cases hlt : k < x.length
      · have hlt' : k < y.length := by omega
        obtain ⟨g, off, rfl, _, hc⟩ := hx k _ (map_get x k hlt)
        obtain ⟨g', off', rfl, _, hc'⟩ := hy k _ (map_get y k hlt')
        by_cases hxy : x[k] = y[k]
        · have hs : Hid (x.take (k + 1) = y.take (k + 1)) := Lib.hid (by rw [List.take_succ_eq_append_getElem hlt, List.take_succ_eq_append_getElem hlt', HE.out, hxy])
          have ht : ((x[k] : Int) != y[k]) = false := by rw [hxy]; simp
          have HL := Lib.hid hlen; clear hlen hxy
          go_wp2_with fail
          go_quiet (fail)
          go_wp2
          go_roundw
          case rel => exact ⟨k + 1, _, by omega, by go_num, hs.out, rfl⟩
          case measure => simp [intOf]; omega
        · have ht : ((x[k] : Int) != y[k]) = true := by
            rw [bne_iff_ne]; exact hxy
          have hne : x ≠ y := fun e => hxy (by subst e; rfl)
          go_wp2_with fail
          go_quiet (fail)
          go_wp2
          go_ret
          exact ⟨by simp [hne], _, World.drewN_drewN _ _ _⟩
      · obtain rfl : k = x.length := by omega
        have he : x = y := by have := HE.out; rw [List.take_length, hlen, List.take_length] at this; exact this
        have HF := Lib.hid he; clear he
        go_wp2
        go_ret
        exact ⟨by simp [HF.out], _, rfl⟩
  · have hne : x ≠ y := fun e => hlen (by rw [e])
    go_enter Tryd.func25, Tryd.ntmps25
    go_wp2
    go_ret
    exact ⟨by simp [hne], 0, rfl⟩
theorem gasW_any {f : Nat} (hf : f = 27 ∨ f = 28) (n : Int) (w : World) : Calls Tryd.prog f #[.int .i64 n] w fun e w' => e = .returned (.int .i64 (gasW f n)) ∧ w = w' := by
  rcases hf with rfl | rfl
  · exact one_any n w
  · exact each_any n w
theorem gasW_enter {f : Nat} (hf : f = 27 ∨ f = 28) (args : Array Value) (w : World) : (callFunc f args).run Tryd.prog w = .ok (.enter f args) w := by
  rcases hf with rfl | rfl
  · exact enters_of Tryd.func27 (by kernel_rfl) rfl args w
  · exact enters_of Tryd.func28 (by kernel_rfl) rfl args w
theorem gasW_nil {f : Nat} (hf : f = 27 ∨ f = 28) (w : World) : (binOp .eql 53 (.func (.func f) #[] #[]) .nilFunc).run Tryd.prog w = .ok (.bool false) w := by
  rcases hf with rfl | rfl <;> kernel_rfl
theorem all_gas : ∀ q, q < 3 → (tbl q).all (fun a => (a.gas == 27 || a.gas == 28) && decide (a.args.length ≤ 5)) = true := by decide +kernel
theorem gas_of {q i : Nat} {a : Sg} (hq : q < 3) (hi : (tbl q)[i]? = some a) : (a.gas = 27 ∨ a.gas = 28) ∧ a.args.length ≤ 5 := by
  have h := List.all_eq_true.1 (all_gas q hq) a (List.mem_of_getElem? hi)
  simp only [Bool.and_eq_true, decide_eq_true_eq, Bool.or_eq_true, beq_iff_eq] at h
  exact h
theorem kinds_lies {w : World} {b B : Nat} {a : Sg} (h : Whole w b 52 a.kinds) (hB : b < B) : Lies w B (some ⟨b, 0, none⟩) (a.args.map (Value.int .i8)) := Lies.row (t := 52) (fr := (0, 0)) h hB
set_option maxHeartbeats 2000000 in
theorem sign_any (q i : Nat) (a : Sg) (n : Int) (b rb : Nat) (w : World) (hq : q < 3) (hi : (tbl q)[i]? = some a) (hK : Whole w b 52 a.kinds) (hR : Whole w rb 52 a.kinds) :
    Calls Tryd.prog 7 #[.agg #[.string a.name, .slice (some ⟨b, 0, none⟩) a.args.length a.args.length, .int .i8 a.tell, .func (.func a.gas) #[] #[]], .agg #[.string a.name, .slice (some ⟨rb, 0, none⟩) a.args.length a.args.length, .int .i8 a.tell], .int .i64 q, .int .i64 i, .int .i64 n] w fun e w' => e = .returned (.bool true) ∧ Below w.heap.size w w' := by
  obtain ⟨tg, tl⟩ := gas_of hq hi
  have HTG := Lib.hid tg; clear tg
  have HC := Lib.hid (fun m W => cost_any q i a m hq hi W)
  have hw1 : Whole ((w.alloc (.cells #[.string a.name, .slice (some ⟨b, 0, none⟩) a.args.length a.args.length, .int .i8 a.tell, .func (.func a.gas) #[] #[]] 55)).alloc (.cells #[.string a.name, .slice (some ⟨rb, 0, none⟩) a.args.length a.args.length, .int .i8 a.tell] 57)) w.heap.size 55 _ := (Whole.made w _ _).alloc _
  have hw2 : Whole ((w.alloc (.cells #[.string a.name, .slice (some ⟨b, 0, none⟩) a.args.length a.args.length, .int .i8 a.tell, .func (.func a.gas) #[] #[]] 55)).alloc (.cells #[.string a.name, .slice (some ⟨rb, 0, none⟩) a.args.length a.args.length, .int .i8 a.tell] 57)) (w.heap.size + 1) 57 #[.string a.name, .slice (some ⟨rb, 0, none⟩) a.args.length a.args.length, .int .i8 a.tell] := by
    have := Whole.made (w.alloc (.cells #[.string a.name, .slice (some ⟨b, 0, none⟩) a.args.length a.args.length, .int .i8 a.tell, .func (.func a.gas) #[] #[]] 55)) 57 #[.string a.name, .slice (some ⟨rb, 0, none⟩) a.args.length a.args.length, .int .i8 a.tell]
    rw [World.size_alloc] at this
    exact this
  have HW1 := Lib.hid hw1; have HW2 := Lib.hid hw2
  have HB := Lib.hid (((Below.refl _ w).alloc (Nat.le_refl _) (.cells #[.string a.name, .slice (some ⟨b, 0, none⟩) a.args.length a.args.length, .int .i8 a.tell, .func (.func a.gas) #[] #[]] 55)).alloc (by simp) (.cells #[.string a.name, .slice (some ⟨rb, 0, none⟩) a.args.length a.args.length, .int .i8 a.tell] 57))
  have HK1 := Lib.hid ((hK.alloc (.cells #[.string a.name, .slice (some ⟨b, 0, none⟩) a.args.length a.args.length, .int .i8 a.tell, .func (.func a.gas) #[] #[]] 55)).alloc (.cells #[.string a.name, .slice (some ⟨rb, 0, none⟩) a.args.length a.args.length, .int .i8 a.tell] 57))
  have HR1 := Lib.hid ((hR.alloc (.cells #[.string a.name, .slice (some ⟨b, 0, none⟩) a.args.length a.args.length, .int .i8 a.tell, .func (.func a.gas) #[] #[]] 55)).alloc (.cells #[.string a.name, .slice (some ⟨rb, 0, none⟩) a.args.length a.args.length, .int .i8 a.tell] 57))
  clear hw1 hw2 hK hR hi
  have hq1 := fun w => gasW_nil HTG.out w
  have e1 : (a.name.toList != a.name.toList) = false := by simp
  have e2 : ((a.tell : Int) != a.tell) = false := by simp
  go_enter Tryd.func7, Tryd.ntmps7
  go_wp2_with fail
  generalize (w.alloc (.cells #[.string a.name, .slice (some ⟨b, 0, none⟩) a.args.length a.args.length, .int .i8 a.tell, .func (.func a.gas) #[] #[]] 55)).alloc (.cells #[.string a.name, .slice (some ⟨rb, 0, none⟩) a.args.length a.args.length, .int .i8 a.tell] 57) = w2 at *
  refine (eqSmalls_any a.args a.args _ _ w2.heap.size w2.heap.size _ _ w2 (kinds_lies HK1.out HK1.out.inside) (kinds_lies HR1.out HR1.out.inside) (by omega)).mono ?_
  rintro e w3 ⟨rfl, d, rfl⟩
  obtain ⟨c0, c1, c2, c3⟩ : w2.cell? ⟨w.heap.size, 0, none⟩ = some (.string a.name) ∧ w2.cell? ⟨w.heap.size, 1, none⟩ = some (.slice (some ⟨b, 0, none⟩) a.args.length a.args.length) ∧ w2.cell? ⟨w.heap.size, 2, none⟩ = some (.int .i8 a.tell) ∧ w2.cell? ⟨w.heap.size, 3, none⟩ = some (.func (.func a.gas) #[] #[]) :=
    ⟨HW1.out.cellAt 0, HW1.out.cellAt 1, HW1.out.cellAt 2, HW1.out.cellAt 3⟩
  have hq2 := fun args w => gasW_enter HTG.out args w
  go_wp2_with fail
  refine (gasW_any HTG.out _ _).mono ?_
  rintro e w4 ⟨rfl, rfl⟩
  go_wp2_with fail
  refine (HC.out _ _).mono ?_
  rintro e w4 ⟨rfl, rfl⟩
  go_wp2_with fail
  refine (gasW_any HTG.out _ _).mono ?_
  rintro e w4 ⟨rfl, rfl⟩
  go_wp2_with fail
  refine (HC.out _ _).mono ?_
  rintro e w4 ⟨rfl, rfl⟩
  go_wp2_with fail
  go_ret
  exact ⟨rfl, belowN HB.out d⟩
end Go.Proofs.YtfcdbmfdaohpjaaDoor
