/-
  The law KindsFound: the walk. Conditions: the numbers are of Go's int.
-/
import Derived.Test.YtfcdbmfdaohpjaaKindH
import Derived.Deep.QuietTactic
import Derived.BigQuiet
import Derived.Shelf.Abstract
namespace Go.Proofs.Ytfcdbmfdaohpjaa
open Go.RowKit Go.Shelf
/-- What is asked of each sign. -/
def good (q : Nat) (a : Sg) : Bool := a.args.all (fun x => decide (-2 ≤ x) && decide (x ≠ 0) && decide (x ≤ 6)) && decide (0 ≤ a.tell) && decide (a.tell ≤ 6) && ((a.tell == 0) == (q == 2)) && (a.gas == 23 || a.gas == 24) && decide (a.args.length ≤ 5)
theorem all_good : ∀ q, q < 3 → (tbl q).all (good q) = true := by decide +kernel
theorem good_of {q i : Nat} {a : Sg} (hq : q < 3) (hi : (tbl q)[i]? = some a) : (∀ x ∈ a.args, -2 ≤ x ∧ x ≠ 0 ∧ x ≤ 6) ∧ 0 ≤ a.tell ∧ a.tell ≤ 6 ∧ ((a.tell == 0) == ((q : Int) == 2)) = true ∧ (a.gas = 23 ∨ a.gas = 24) ∧ a.args.length ≤ 5 := by
  have h := List.all_eq_true.1 (all_good q hq) a (List.mem_of_getElem? hi)
  unfold good at h
  simp only [Bool.and_eq_true, List.all_eq_true, decide_eq_true_eq, Bool.or_eq_true, beq_iff_eq] at h
  obtain ⟨⟨⟨⟨⟨h1, h2⟩, h3⟩, h4⟩, h5⟩, h6⟩ := h
  refine ⟨fun x hx => ⟨(h1 x hx).1.1, (h1 x hx).1.2, (h1 x hx).2⟩, h2, h3, ?_, h5, h6⟩
  rw [h4]
  rcases three hq with rfl | rfl | rfl <;> rfl
theorem kindName_ne {k : Int} (h0 : 0 ≤ k) (h1 : k ≤ 6) : (kindName k).toList.isEmpty = false := by
  rw [ByteArray.toList_eq]
  rcases (by omega : k = 0 ∨ k = 1 ∨ k = 2 ∨ k = 3 ∨ k = 4 ∨ k = 5 ∨ k = 6) with rfl | rfl | rfl | rfl | rfl | rfl | rfl <;> rfl
theorem each_bd (n : Int) : 1 ≤ eachV n ∧ eachV n ≤ 4611686018427387904 := by unfold eachV; omega
theorem each_mono {a b : Int} (h : a ≤ b) : eachV a ≤ eachV b := by unfold eachV; omega
def gasV (f : Nat) (n : Int) : Int := if f = 23 then 1 else eachV n
theorem gas_bd (f : Nat) (n : Int) : 1 ≤ gasV f n ∧ gasV f n ≤ 4611686018427387904 := by
  unfold gasV; have := each_bd n; split <;> omega
theorem gas_mono {f : Nat} {a b : Int} (h : a ≤ b) : gasV f a ≤ gasV f b := by
  unfold gasV; have := each_mono h; split <;> omega
theorem gas_any {f : Nat} (hf : f = 23 ∨ f = 24) (n : Int) (w : World) : Calls Try.prog f #[.int .i64 n] w fun e w' => e = .returned (.int .i64 (gasV f n)) ∧ w = w' := by
  rcases hf with rfl | rfl
  · exact one_any n w
  · exact each_any n w
theorem gas_enter {f : Nat} (hf : f = 23 ∨ f = 24) (args : Array Value) (w : World) : (callFunc f args).run Try.prog w = .ok (.enter f args) w := by
  rcases hf with rfl | rfl
  · exact enters_of Try.func23 (by kernel_rfl) rfl args w
  · exact enters_of Try.func24 (by kernel_rfl) rfl args w
theorem gas_nil {f : Nat} (hf : f = 23 ∨ f = 24) (w : World) : (binOp .eql 26 (.func (.func f) #[] #[]) .nilFunc).run Try.prog w = .ok (.bool false) w := by
  rcases hf with rfl | rfl <;> kernel_rfl
theorem SgAt.kinds_at {w : World} {g b : Nat} {l : List Sg} (h : SgAt w g b l) {i : Nat} {a : Sg} (hi : l[i]? = some a) {j : Nat} (hj : j < a.args.length) : w.cell? ⟨b + i, j, none⟩ = some (.int .i8 a.args[j]) := by
  rw [(h.2 i a hi).cellAt j]; unfold Sg.kinds; simp [hj]
set_option maxHeartbeats 4000000 in
set_option maxRecDepth 100000 in
theorem kindsFound_any (a b : Int) (w : World) : Calls Try.prog 5 #[.int .i64 a, .int .i64 b] w fun e w' => e = .returned (.bool true) ∧ Below w.heap.size w w' := by
  go_enter Try.func5, Try.ntmps5
  go_wp2_with fail
  go_loopw [5] (fun vq wr => ∃ q : Nat, q ≤ 3 ∧ vq = .int .i64 q ∧ Hid (Below w.heap.size w wr)) (fun vq _ => 3 - (intOf vq).toNat)
  case atStart => exact ⟨0, by omega, rfl, Lib.hid (Below.refl _ _)⟩
  case round =>
    obtain ⟨q, hq, rfl, HB⟩ := hrel
    by_cases hlt : q < 3
    · obtain ⟨wo, rfl⟩ : ∃ wo : World, wo = wr := ⟨_, rfl⟩
      go_wp2_with fail
      refine (list_any q hlt _).mono ?_
      rintro e w1 ⟨rfl, hs, hb⟩
      have HS := Lib.hid hs
      have HB1 := Lib.hid (belowThen' HB.out hb)
      have hg := hs.1.inside
      clear hs hb HB
      generalize wo.heap.size + (tbl q).length = g at *
      generalize wo.heap.size = bk at *
      have HT : Hid (∀ (i : Nat) (s : Sg), (tbl q)[i]? = some s → (∀ x ∈ s.args, -2 ≤ x ∧ x ≠ 0 ∧ x ≤ 6) ∧ 0 ≤ s.tell ∧ s.tell ≤ 6 ∧ ((s.tell == 0) == ((q : Int) == 2)) = true ∧ (s.gas = 23 ∨ s.gas = 24) ∧ s.args.length ≤ 5) := Lib.hid fun i s hi => good_of hlt hi
      have HFd : Hid (∀ (i : Nat) (s : Sg) (W : World), (tbl q)[i]? = some s → Calls Try.prog 15 #[.int .i64 q, .string s.name] W fun e w' => e = .returned (.tuple #[.int .i64 i, .agg (s.cells (W.heap.size + 2 + i)).toArray, .bool true]) ∧ Whole w' (W.heap.size + 2 + i) 25 s.kinds ∧ Below W.heap.size W w') := Lib.hid fun i s W hi => lfind_yes q hlt i s W hi
      have hlen : (tbl q).length ≤ 100 := by
        rcases three hlt with rfl | rfl | rfl <;> decide
      generalize tbl q = L at *
      go_wp2_with fail
      go_loopw [7] (fun vi wr => ∃ i : Nat, i ≤ L.length ∧ vi = .int .i64 i ∧ Hid (Below w1.heap.size w1 wr)) (fun vi _ => L.length - (intOf vi).toNat)
      case atStart => exact ⟨0, by omega, rfl, Lib.hid (Below.refl _ _)⟩
      case round =>
        obtain ⟨i, hi, rfl, HB2⟩ := hrel
        by_cases hli : i < L.length
        · obtain ⟨wi, rfl⟩ : ∃ wi : World, wi = wr := ⟨_, rfl⟩
          obtain ⟨s, hs⟩ : ∃ s, L[i]? = some s := ⟨_, List.getElem?_eq_getElem hli⟩
          have HSi := Lib.hid (HS.out.past HB2.out)
          obtain ⟨c0, c1, c2, c3⟩ := SgAt.cells_at HSi.out.1 i s hs
          obtain ⟨ta, tl, th, te, tg, tn⟩ := HT.out i s hs
          have HTA := Lib.hid ta; have HTG := Lib.hid tg; clear ta tg
          go_wp2_with fail
          refine (HFd.out i s _ hs).mono ?_
          rintro e w2 ⟨rfl, hk, hb⟩
          have HK := Lib.hid hk
          have HB3 := Lib.hid (belowThen' HB2.out hb)
          have HS3 := Lib.hid (HSi.out.past hb)
          clear hk hb HB2 HSi c0 c1 c2 c3
          generalize wi.heap.size + 2 + i = cb at *
          rw [show (s.cells cb).toArray = #[.string s.name, .slice (some ⟨cb, 0, none⟩) s.args.length s.args.length, .int .i8 s.tell, .func (.func s.gas) #[] #[]] from rfl]
          have hq1 := fun w => gas_nil HTG.out w
          have e0 : ((i : Int) != (i : Int)) = false := by simp
          have e1 : (s.name.toList != s.name.toList) = false := by simp
          have e2 : ((s.args.length : Int) != (s.args.length : Int)) = false := by simp
          have HW4 := Lib.hid (Whole.made w2 28 #[.string s.name, .slice (some ⟨cb, 0, none⟩) s.args.length s.args.length, .int .i8 s.tell, .func (.func s.gas) #[] #[]])
          have HB4 := Lib.hid (HB3.out.alloc HB3.out.size (.cells #[.string s.name, .slice (some ⟨cb, 0, none⟩) s.args.length s.args.length, .int .i8 s.tell, .func (.func s.gas) #[] #[]] 28))
          have HS4 := Lib.hid (HS3.out.past ((Below.refl _ w2).alloc (Nat.le_refl _) (.cells #[.string s.name, .slice (some ⟨cb, 0, none⟩) s.args.length s.args.length, .int .i8 s.tell, .func (.func s.gas) #[] #[]] 28)))
          have HK4 := Lib.hid (HK.out.alloc (.cells #[.string s.name, .slice (some ⟨cb, 0, none⟩) s.args.length s.args.length, .int .i8 s.tell, .func (.func s.gas) #[] #[]] 28))
          clear HB3 HS3 HK
          go_wp2_with fail
          generalize w2.alloc (.cells #[.string s.name, .slice (some ⟨cb, 0, none⟩) s.args.length s.args.length, .int .i8 s.tell, .func (.func s.gas) #[] #[]] 28) = w4 at *
          generalize w2.heap.size = sb at *
          obtain ⟨c0, c1, c2, c3⟩ := SgAt.cells_at HS4.out.1 i s hs
          obtain ⟨d0, d1, d2, d3⟩ : w4.cell? ⟨sb, 0, none⟩ = some (.string s.name) ∧ w4.cell? ⟨sb, 1, none⟩ = some (.slice (some ⟨cb, 0, none⟩) s.args.length s.args.length) ∧ w4.cell? ⟨sb, 2, none⟩ = some (.int .i8 s.tell) ∧ w4.cell? ⟨sb, 3, none⟩ = some (.func (.func s.gas) #[] #[]) :=
            ⟨HW4.out.cellAt 0, HW4.out.cellAt 1, HW4.out.cellAt 2, HW4.out.cellAt 3⟩
          go_quiet (fail)
          go_wp2_with fail
          have HS5 : Hid (SgAt (w4.drewN nq) g bk L) := HS4
          have HK5 : Hid (Whole (w4.drewN nq) cb 25 s.kinds) := HK4
          have HW5 : Hid (Whole (w4.drewN nq) sb 28 #[.string s.name, .slice (some ⟨cb, 0, none⟩) s.args.length s.args.length, .int .i8 s.tell, .func (.func s.gas) #[] #[]]) := HW4
          have HB5 := Lib.hid (belowN HB4.out nq)
          clear HS4 HK4 HW4 HB4 c0 c1 c2 c3 d0 d1 d2 d3 hq1 e0 e1 e2
          generalize w4.drewN nq = w5 at *
          go_loopw [11] (fun vj wr => ∃ j : Nat, j ≤ s.args.length ∧ vj = .int .i64 j ∧ Hid (Below w5.heap.size w5 wr)) (fun vj _ => s.args.length - (intOf vj).toNat)
          case atStart => exact ⟨0, by omega, rfl, Lib.hid (Below.refl _ _)⟩
          case round =>
            obtain ⟨j, hj, rfl, HB6⟩ := hrel
            have HS6 := Lib.hid (HS5.out.past HB6.out)
            obtain ⟨c0, c1, c2, c3⟩ := SgAt.cells_at HS6.out.1 i s hs
            by_cases hjl : j < s.args.length
            · have k1 := HS6.out.kinds_at hs hjl
              have k2 : wr.cell? ⟨cb, j, none⟩ = some (.int .i8 s.args[j]) := by
                rw [(HK5.out.past HB6.out).cellAt j]; unfold Sg.kinds; simp [hjl]
              have d1 : wr.cell? ⟨sb, 1, none⟩ = some (.slice (some ⟨cb, 0, none⟩) s.args.length s.args.length) := (HW5.out.past HB6.out).cellAt 1
              obtain ⟨x0, x1, x2⟩ := HTA.out s.args[j] (List.getElem_mem hjl)
              generalize s.args[j] = x at *
              have e0 : ((x : Int) != x) = false := by simp
              have e1 : ((x : Int) == 0) = false := by simp [x1]
              by_cases hx : x < 0
              · go_wp2_with fail
                go_roundw
                case rel => exact ⟨j + 1, by omega, by go_num, HB6⟩
                case measure => simp [intOf]; omega
              · have hn := kindName_ne (k := x) (by omega) (by omega)
                go_wp2_with fail
                refine (kind_any x (by omega) _).mono ?_
                rintro e w6 ⟨rfl, hb⟩
                have HB7 := Lib.hid (belowThen' HB6.out hb); clear hb
                go_wp2_with fail
                go_roundw
                case rel => exact ⟨j + 1, by omega, by go_num, HB7⟩
                case measure => simp [intOf]; omega
            · have hn := kindName_ne tl th
              have e0 : (s.tell == 0) = ((q : Int) == 2) := beq_iff_eq.1 te
              have HTe := Lib.hid te; clear te
              have hent := fun args w => gas_enter HTG.out args w
              go_wp2_with fail
              refine (kind_any s.tell (by omega) _).mono ?_
              rintro e w6 ⟨rfl, hb⟩
              have HB7 := Lib.hid (belowThen' HB6.out hb)
              have HS7 := Lib.hid (HS6.out.past hb)
              clear hb HB6 HS6 c0 c1 c2 c3 e0
              obtain ⟨c0, c1, c2, c3⟩ := SgAt.cells_at HS7.out.1 i s hs
              have C1 := Lib.hid (fun W => gas_any HTG.out a W)
              have C2 := Lib.hid (fun W => gas_any HTG.out b W)
              have b1 := gas_bd s.gas a
              have b2 := gas_bd s.gas b
              have M1 : Hid (a ≤ b → gasV s.gas a ≤ gasV s.gas b) := Lib.hid gas_mono
              have M2 : Hid (b ≤ a → gasV s.gas b ≤ gasV s.gas a) := Lib.hid gas_mono
              generalize gasV s.gas a = X at *
              generalize gasV s.gas b = Y at *
              go_wp2_with fail
              refine (C1.out _).mono ?_
              rintro e w8 ⟨rfl, rfl⟩
              go_wp2_with fail
              refine (C2.out _).mono ?_
              rintro e w8 ⟨rfl, rfl⟩
              clear C1 C2 hent
              obtain ⟨b10, b11⟩ := b1
              obtain ⟨b20, b21⟩ := b2
              rcases (by omega : a < b ∨ (a ≤ b ∧ b ≤ a) ∨ b < a) with hab | ⟨hab, hba⟩ | hab
              · have m1 := M1.out (by omega)
                go_wp2_with fail
                go_roundw
                case rel => exact ⟨i + 1, by omega, by go_num, Lib.hid (belowThen' HB5.out HB7.out)⟩
                case measure => simp [intOf]; omega
              · have m1 := M1.out hab
                have m2 := M2.out hba
                go_wp2_with fail
                go_roundw
                case rel => exact ⟨i + 1, by omega, by go_num, Lib.hid (belowThen' HB5.out HB7.out)⟩
                case measure => simp [intOf]; omega
              · have m2 := M2.out (by omega)
                go_wp2_with fail
                go_roundw
                case rel => exact ⟨i + 1, by omega, by go_num, Lib.hid (belowThen' HB5.out HB7.out)⟩
                case measure => simp [intOf]; omega
        · go_wp2_with fail
          go_roundw
          case rel => exact ⟨q + 1, by omega, by go_num, Lib.hid (belowThen' HB1.out HB2.out)⟩
          case measure => simp [intOf]; omega
    · go_wp2_with fail
      refine (lives_any _).mono ?_
      rintro e w2 ⟨rfl, hb⟩
      have HB2 := Lib.hid (belowThen' HB.out hb); clear hb
      go_wp2_with fail
      go_ret
      exact ⟨rfl, HB2.out⟩
end Go.Proofs.Ytfcdbmfdaohpjaa
