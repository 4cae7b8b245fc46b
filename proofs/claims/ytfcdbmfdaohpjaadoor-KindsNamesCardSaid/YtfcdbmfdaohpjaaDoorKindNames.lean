/-
  The law KindsNames: the walk. Conditions: the text is no longer than Go's own limit.
-/
import Derived.Test.YtfcdbmfdaohpjaaDoorKindN
namespace Go.Proofs.YtfcdbmfdaohpjaaDoor
open Go.RowKit
set_option maxHeartbeats 4000000 in
set_option maxRecDepth 100000 in
theorem kindsNames_any (name : ByteArray) (n : Int) (hx : name.size ≤ maxLen) (w : World) : Calls Tryd.prog 4 #[.string name, .int .i64 n] w fun e w' => e = .returned (.bool true) ∧ Below w.heap.size w w' := by
  have HG0 : Hid (BagOf w (w.alloc (.cells bagNone 45)) w.heap.size 0 [] none 0) := Lib.hid ⟨BagSn.start w, Nat.le_refl _, fun k r hr => by simp at hr, fun b ⟨k, r, hr, _⟩ => by simp at hr⟩
  have HB0 : Hid (Below w.heap.size w (w.alloc (.cells bagNone 45))) := Lib.hid ((Below.refl _ _).alloc (Nat.le_refl _) _)
  have hp0 : w.heap.size < (w.alloc (.cells bagNone 45)).heap.size := by simp
  go_enter Tryd.func4, Tryd.ntmps4
  go_wp2_with fail
  change Code.wp Tryd.prog _ _ _ (w.alloc (.cells bagNone 45))
  generalize w.alloc (.cells bagNone 45) = wb at *
  go_loopw [6] (fun vq wr => ∃ (q c : Nat) (rows : List Sl) (A : Option Addr), q ≤ 3 ∧ vq = .int .i64 q ∧ Hid (BagOf w wr w.heap.size (2 * q) rows A c) ∧ Hid (Below w.heap.size w wr) ∧ w.heap.size < wr.heap.size) (fun vq _ => 3 - (intOf vq).toNat)
  case atStart => exact ⟨0, 0, [], none, by omega, rfl, HG0, HB0, hp0⟩
  case round =>
    clear HG0 HB0 hp0
    obtain ⟨q, c, rows, A, hq, rfl, HG, HB, hpw⟩ := hrel
    by_cases hlt : q < 3
    · obtain ⟨wo, rfl⟩ : ∃ wo : World, wo = wr := ⟨_, rfl⟩
      by_cases hkn : ∃ (i : Nat) (a : Sg), (tbl q)[i]? = some a ∧ a.name = name
      · obtain ⟨i, a, hi, hna⟩ := hkn
        have hdist : Distinct (tbl q) := by rcases three hlt with rfl | rfl | rfl; exact fields_distinct; exact funcs_distinct; exact effects_distinct
        have HF := Lib.hid (fun W => lfind_yes q hlt i a W hi)
        have HRF := Lib.hid (fun W => rfind_yes q hlt i a W hi hdist)
        have HSG := Lib.hid (fun b rb W => sign_any q i a n b rb W hlt hi)
        have hal := (gas_of hlt hi).2
        have HBL : Hid (∀ b, blks rows b → b < wo.heap.size) := Lib.hid (fun b hb => blks_lt HG.out.1.hR hb)
        rw [hna] at HF HRF HSG
        clear hdist
        have hil : i ≤ 100 := by
          have := (List.getElem?_eq_some_iff.1 hi).1
          have : (tbl q).length ≤ 100 := by rcases three hlt with rfl | rfl | rfl <;> decide
          omega
        have HNA := Lib.hid hna
        have HOB : Hid (∀ b, (Value.slice A rows.length c).ownBlock = some b → b < wo.heap.size) := Lib.hid (fun b hb => (HG.out.1.hO.lt b hb).2)
        clear hi hna
        go_wp2_with fail
        refine (HF.out _).mono ?_
        rintro e w1 ⟨rfl, hk, hb⟩
        have HK1 := Lib.hid hk
        have HG1 := Lib.hid (HG.out.past hb)
        have HB1 := Lib.hid (belowThen' HB.out hb)
        have hin1 := hk.inside
        have hsz1 := hb.size
        clear hk hb HG HB
        rw [show (a.cells (wo.heap.size + 2 + i)).toArray = #[.string a.name, .slice (some ⟨wo.heap.size + 2 + i, 0, none⟩) a.args.length a.args.length, .int .i8 a.tell, .func (.func a.gas) #[] #[]] from rfl, HNA.out]
        obtain ⟨cb1, hcb1⟩ : ∃ cb1, wo.heap.size + 2 + i = cb1 := ⟨_, rfl⟩
        have hcb1' : wo.heap.size ≤ cb1 := by omega
        rw [hcb1] at HK1 hin1 ⊢
        clear hcb1
        go_wp2_with fail
        have HS1 := Lib.hid (Whole.made w1 55 #[.string name, .slice (some ⟨cb1, 0, none⟩) a.args.length a.args.length, .int .i8 a.tell, .func (.func a.gas) #[] #[]])
        replace HK1 := Lib.hid (HK1.out.alloc (.cells #[.string name, .slice (some ⟨cb1, 0, none⟩) a.args.length a.args.length, .int .i8 a.tell, .func (.func a.gas) #[] #[]] 55))
        replace HG1 := Lib.hid (HG1.out.past ((Below.refl _ w1).alloc (Nat.le_refl _) (.cells #[.string name, .slice (some ⟨cb1, 0, none⟩) a.args.length a.args.length, .int .i8 a.tell, .func (.func a.gas) #[] #[]] 55)))
        replace HB1 := Lib.hid (HB1.out.alloc HB1.out.size (.cells #[.string name, .slice (some ⟨cb1, 0, none⟩) a.args.length a.args.length, .int .i8 a.tell, .func (.func a.gas) #[] #[]] 55))
        have hz : (w1.alloc (.cells #[.string name, .slice (some ⟨cb1, 0, none⟩) a.args.length a.args.length, .int .i8 a.tell, .func (.func a.gas) #[] #[]] 55)).heap.size = w1.heap.size + 1 := by simp
        generalize w1.alloc (.cells #[.string name, .slice (some ⟨cb1, 0, none⟩) a.args.length a.args.length, .int .i8 a.tell, .func (.func a.gas) #[] #[]] 55) = w2 at *
        obtain ⟨sb1, hsb1⟩ : ∃ sb1, w1.heap.size = sb1 := ⟨_, rfl⟩
        have hzw2 : sb1 < w2.heap.size := by omega
        have hgrw2 : w1.heap.size ≤ w2.heap.size := by omega
        have hwsb1 : wo.heap.size ≤ sb1 := by omega
        rw [hsb1] at HS1 ⊢
        clear hsb1 hz
        refine (HF.out _).mono ?_
        rintro e w3 ⟨rfl, hk, hb⟩
        have HK2 := Lib.hid hk
        have hin2 := hk.inside
        replace HK1 := Lib.hid (HK1.out.past hb)
        replace HS1 := Lib.hid (HS1.out.past hb)
        replace HG1 := Lib.hid (HG1.out.past hb)
        replace HB1 := Lib.hid (belowThen' HB1.out hb)
        have hszw3 := hb.size
        clear hk hb
        rw [show (a.cells (w2.heap.size + 2 + i)).toArray = #[.string a.name, .slice (some ⟨w2.heap.size + 2 + i, 0, none⟩) a.args.length a.args.length, .int .i8 a.tell, .func (.func a.gas) #[] #[]] from rfl, HNA.out]
        obtain ⟨cb2, hcb2⟩ : ∃ cb2, w2.heap.size + 2 + i = cb2 := ⟨_, rfl⟩
        have hcb2' : w2.heap.size ≤ cb2 := by omega
        rw [hcb2] at HK2 hin2 ⊢
        clear hcb2
        go_wp2_with fail
        have HS2 := Lib.hid (Whole.made w3 55 #[.string name, .slice (some ⟨cb2, 0, none⟩) a.args.length a.args.length, .int .i8 a.tell, .func (.func a.gas) #[] #[]])
        replace HK1 := Lib.hid (HK1.out.alloc (.cells #[.string name, .slice (some ⟨cb2, 0, none⟩) a.args.length a.args.length, .int .i8 a.tell, .func (.func a.gas) #[] #[]] 55))
        replace HS1 := Lib.hid (HS1.out.alloc (.cells #[.string name, .slice (some ⟨cb2, 0, none⟩) a.args.length a.args.length, .int .i8 a.tell, .func (.func a.gas) #[] #[]] 55))
        replace HK2 := Lib.hid (HK2.out.alloc (.cells #[.string name, .slice (some ⟨cb2, 0, none⟩) a.args.length a.args.length, .int .i8 a.tell, .func (.func a.gas) #[] #[]] 55))
        replace HG1 := Lib.hid (HG1.out.past ((Below.refl _ w3).alloc (Nat.le_refl _) (.cells #[.string name, .slice (some ⟨cb2, 0, none⟩) a.args.length a.args.length, .int .i8 a.tell, .func (.func a.gas) #[] #[]] 55)))
        replace HB1 := Lib.hid (HB1.out.alloc HB1.out.size (.cells #[.string name, .slice (some ⟨cb2, 0, none⟩) a.args.length a.args.length, .int .i8 a.tell, .func (.func a.gas) #[] #[]] 55))
        have hz : (w3.alloc (.cells #[.string name, .slice (some ⟨cb2, 0, none⟩) a.args.length a.args.length, .int .i8 a.tell, .func (.func a.gas) #[] #[]] 55)).heap.size = w3.heap.size + 1 := by simp
        generalize w3.alloc (.cells #[.string name, .slice (some ⟨cb2, 0, none⟩) a.args.length a.args.length, .int .i8 a.tell, .func (.func a.gas) #[] #[]] 55) = w4 at *
        obtain ⟨sb2, hsb2⟩ : ∃ sb2, w3.heap.size = sb2 := ⟨_, rfl⟩
        have hzw4 : sb2 < w4.heap.size := by omega
        have hwsb2 : wo.heap.size ≤ sb2 := by omega
        rw [hsb2] at HS2 ⊢
        clear hsb2 hz
        refine (HRF.out _).mono ?_
        rintro e w5 ⟨rfl, hk, hb⟩
        have HKr := Lib.hid hk
        replace HK1 := Lib.hid (HK1.out.past hb)
        replace HS1 := Lib.hid (HS1.out.past hb)
        replace HK2 := Lib.hid (HK2.out.past hb)
        replace HS2 := Lib.hid (HS2.out.past hb)
        replace HG1 := Lib.hid (HG1.out.past hb)
        replace HB1 := Lib.hid (belowThen' HB1.out hb)
        have hszw5 := hb.size
        clear hk hb
        rw [show (a.rcells (w4.heap.size + 1 + i)).toArray = #[.string a.name, .slice (some ⟨w4.heap.size + 1 + i, 0, none⟩) a.args.length a.args.length, .int .i8 a.tell] from rfl, HNA.out]
        obtain ⟨rb, hrb⟩ : ∃ rb, w4.heap.size + 1 + i = rb := ⟨_, rfl⟩
        rw [hrb] at HKr ⊢
        clear hrb
        have e0 : ((i : Int) != (i : Int)) = false := by simp
        have hin3 := HS1.out.inside
        have hin4 := HS2.out.inside
        obtain ⟨c0, c1, c2, c3⟩ : w5.cell? ⟨sb1, 0, none⟩ = some (.string name) ∧ w5.cell? ⟨sb1, 1, none⟩ = some (.slice (some ⟨cb1, 0, none⟩) a.args.length a.args.length) ∧ w5.cell? ⟨sb1, 2, none⟩ = some (.int .i8 a.tell) ∧ w5.cell? ⟨sb1, 3, none⟩ = some (.func (.func a.gas) #[] #[]) := ⟨HS1.out.cellAt 0, HS1.out.cellAt 1, HS1.out.cellAt 2, HS1.out.cellAt 3⟩
        go_wp2_with fail
        clear c0 c1 c2 c3
        have HSr := Lib.hid (Whole.made w5 57 #[.string name, .slice (some ⟨rb, 0, none⟩) a.args.length a.args.length, .int .i8 a.tell])
        replace HK1 := Lib.hid (HK1.out.alloc (.cells #[.string name, .slice (some ⟨rb, 0, none⟩) a.args.length a.args.length, .int .i8 a.tell] 57))
        replace HS1 := Lib.hid (HS1.out.alloc (.cells #[.string name, .slice (some ⟨rb, 0, none⟩) a.args.length a.args.length, .int .i8 a.tell] 57))
        replace HK2 := Lib.hid (HK2.out.alloc (.cells #[.string name, .slice (some ⟨rb, 0, none⟩) a.args.length a.args.length, .int .i8 a.tell] 57))
        replace HS2 := Lib.hid (HS2.out.alloc (.cells #[.string name, .slice (some ⟨rb, 0, none⟩) a.args.length a.args.length, .int .i8 a.tell] 57))
        replace HKr := Lib.hid (HKr.out.alloc (.cells #[.string name, .slice (some ⟨rb, 0, none⟩) a.args.length a.args.length, .int .i8 a.tell] 57))
        replace HG1 := Lib.hid (HG1.out.past ((Below.refl _ w5).alloc (Nat.le_refl _) (.cells #[.string name, .slice (some ⟨rb, 0, none⟩) a.args.length a.args.length, .int .i8 a.tell] 57)))
        replace HB1 := Lib.hid (HB1.out.alloc HB1.out.size (.cells #[.string name, .slice (some ⟨rb, 0, none⟩) a.args.length a.args.length, .int .i8 a.tell] 57))
        generalize w5.alloc (.cells #[.string name, .slice (some ⟨rb, 0, none⟩) a.args.length a.args.length, .int .i8 a.tell] 57) = w6 at *
        obtain ⟨sbr, hsbr⟩ : ∃ sbr, w5.heap.size = sbr := ⟨_, rfl⟩
        rw [hsbr] at HSr ⊢
        clear hsbr
        refine (HSG.out _ _ _ HK1.out HKr.out).mono ?_
        rintro e w7 ⟨rfl, hb⟩
        replace HK1 := Lib.hid (HK1.out.past hb)
        replace HS1 := Lib.hid (HS1.out.past hb)
        replace HK2 := Lib.hid (HK2.out.past hb)
        replace HS2 := Lib.hid (HS2.out.past hb)
        replace HKr := Lib.hid (HKr.out.past hb)
        replace HSr := Lib.hid (HSr.out.past hb)
        replace HG1 := Lib.hid (HG1.out.past hb)
        replace HB1 := Lib.hid (belowThen' HB1.out hb)
        clear hb
        obtain ⟨c0, c1, c2, c3⟩ : w7.cell? ⟨sb2, 0, none⟩ = some (.string name) ∧ w7.cell? ⟨sb2, 1, none⟩ = some (.slice (some ⟨cb2, 0, none⟩) a.args.length a.args.length) ∧ w7.cell? ⟨sb2, 2, none⟩ = some (.int .i8 a.tell) ∧ w7.cell? ⟨sb2, 3, none⟩ = some (.func (.func a.gas) #[] #[]) := ⟨HS2.out.cellAt 0, HS2.out.cellAt 1, HS2.out.cellAt 2, HS2.out.cellAt 3⟩
        obtain ⟨r0, r1, r2⟩ : w7.cell? ⟨sbr, 0, none⟩ = some (.string name) ∧ w7.cell? ⟨sbr, 1, none⟩ = some (.slice (some ⟨rb, 0, none⟩) a.args.length a.args.length) ∧ w7.cell? ⟨sbr, 2, none⟩ = some (.int .i8 a.tell) := ⟨HSr.out.cellAt 0, HSr.out.cellAt 1, HSr.out.cellAt 2⟩
        go_wp2_with fail
        clear c0 c1 c2 c3 r0 r1 r2
        refine (HSG.out _ _ _ HK2.out HKr.out).mono ?_
        rintro e w8 ⟨rfl, hb⟩
        replace HK1 := Lib.hid (HK1.out.past hb)
        replace HS1 := Lib.hid (HS1.out.past hb)
        replace HK2 := Lib.hid (HK2.out.past hb)
        replace HS2 := Lib.hid (HS2.out.past hb)
        replace HG1 := Lib.hid (HG1.out.past hb)
        replace HB1 := Lib.hid (belowThen' HB1.out hb)
        clear hb HKr HSr HSG
        have c1 : w8.cell? ⟨sb1, 1, none⟩ = some (.slice (some ⟨cb1, 0, none⟩) a.args.length a.args.length) := HS1.out.cellAt 1
        have hpc : w.heap.size ≠ cb1 ∧ w.heap.size ≠ cb2 := by omega
        go_wp2_with fail
        clear c1
        refine (addTo_any HG1.out HK1.out hal ⟨fun h => by have := HBL.out _ h; omega, by omega⟩ (by omega) (Nat.le_refl _) (by omega)).mono ?_
        rintro e w9 ⟨rfl, ⟨A9, c9, hg9⟩, hb9, hk9⟩
        have HG9 := Lib.hid hg9
        have hS9 : ∀ b, wo.heap.size ≤ b → ¬ (b = w.heap.size ∨ (Value.slice A rows.length c).ownBlock = some b) := fun b hb h => by
          rcases h with h | h
          · omega
          · have := HOB.out b h; omega
        have HS9 := Lib.hid (HS2.out.keeps hk9 (hS9 sb2 (by omega)))
        have HK9 := Lib.hid (HK2.out.keeps hk9 (hS9 cb2 (by omega)))
        have HB9 := Lib.hid (HB1.out.trans hb9)
        have hsz9 := hk9.size
        clear hg9 hb9 hk9 hS9 HG1 HK1 HS1 HK2 HS2 HB1 HOB
        have c1 : w9.cell? ⟨sb2, 1, none⟩ = some (.slice (some ⟨cb2, 0, none⟩) a.args.length a.args.length) := HS9.out.cellAt 1
        have HBL9 : ¬ blks (rows ++ [a.sl cb1]) cb2 := fun h => by
          rcases blks_snoc h with h | h
          · have := HBL.out _ h; omega
          · have := sl_blk h; omega
        go_wp2_with fail
        refine (addTo_any HG9.out HK9.out hal ⟨HBL9, by omega⟩ (by omega) (Nat.le_refl _) (by omega)).mono ?_
        rintro e w10 ⟨rfl, ⟨A10, c10, hg10⟩, hb10, hk10⟩
        have HG10 : Hid (BagOf w w10 w.heap.size (2 * (q + 1)) (rows ++ [a.sl cb1] ++ [a.sl cb2]) A10 c10) := Lib.hid hg10
        have HB10 := Lib.hid (HB9.out.trans hb10)
        have hsz10 := hk10.size
        have hpw2 : w.heap.size < w10.heap.size := hg10.1.hW.inside
        clear hg10 hb10 hk10 HG9 HB9 c1 HBL9
        go_wp2_with fail
        go_roundw
        case rel => exact ⟨q + 1, c10, _, A10, by omega, by go_num, HG10, HB10, hpw2⟩
        case measure => simp [intOf]; omega
      · have hno : ∀ a ∈ tbl q, a.name ≠ name := fun a ha e => hkn (by
          obtain ⟨i, hi⟩ := List.getElem?_of_mem ha
          exact ⟨i, a, hi, e⟩)
        have HF := Lib.hid (fun W => lfind_no q hlt name W hno hx)
        have HRF := Lib.hid (fun W => rfind_no q hlt name W hno)
        have hnn : ∀ w, (binOp .neq 53 .nilFunc .nilFunc).run Tryd.prog w = .ok (.bool false) w := fun w => by kernel_rfl
        clear hkn hno
        go_wp2_with fail
        refine (HF.out _).mono ?_
        rintro e w1 ⟨rfl, hb⟩
        replace HG := Lib.hid (HG.out.past hb)
        replace HB := Lib.hid (belowThen' HB.out hb)
        clear hb
        go_wp2_with fail
        have HS1 := Lib.hid (Whole.made w1 55 #[.string ⟨#[]⟩, .slice none 0 0, .int .i8 0, .nilFunc])
        replace HG := Lib.hid (HG.out.past ((Below.refl _ w1).alloc (Nat.le_refl _) (.cells #[.string ⟨#[]⟩, .slice none 0 0, .int .i8 0, .nilFunc] 55)))
        replace HB := Lib.hid (HB.out.alloc HB.out.size (.cells #[.string ⟨#[]⟩, .slice none 0 0, .int .i8 0, .nilFunc] 55))
        generalize w1.alloc (.cells #[.string ⟨#[]⟩, .slice none 0 0, .int .i8 0, .nilFunc] 55) = w2 at *
        generalize w1.heap.size = sb1 at *
        refine (HF.out _).mono ?_
        rintro e w3 ⟨rfl, hb⟩
        replace HG := Lib.hid (HG.out.past hb)
        replace HB := Lib.hid (belowThen' HB.out hb)
        replace HS1 := Lib.hid (HS1.out.past hb)
        clear hb
        go_wp2_with fail
        replace HS1 := Lib.hid (HS1.out.alloc (.cells #[.string ⟨#[]⟩, .slice none 0 0, .int .i8 0, .nilFunc] 55))
        replace HG := Lib.hid (HG.out.past ((Below.refl _ w3).alloc (Nat.le_refl _) (.cells #[.string ⟨#[]⟩, .slice none 0 0, .int .i8 0, .nilFunc] 55)))
        replace HB := Lib.hid (HB.out.alloc HB.out.size (.cells #[.string ⟨#[]⟩, .slice none 0 0, .int .i8 0, .nilFunc] 55))
        generalize w3.alloc (.cells #[.string ⟨#[]⟩, .slice none 0 0, .int .i8 0, .nilFunc] 55) = w4 at *
        refine (HRF.out _).mono ?_
        rintro e w5 ⟨rfl, hb⟩
        replace HG := Lib.hid (HG.out.past hb)
        replace HB := Lib.hid (belowThen' HB.out hb)
        replace HS1 := Lib.hid (HS1.out.past hb)
        clear hb
        obtain ⟨c0, c1, c2, c3⟩ : w5.cell? ⟨sb1, 0, none⟩ = some (.string ⟨#[]⟩) ∧ w5.cell? ⟨sb1, 1, none⟩ = some (.slice none 0 0) ∧ w5.cell? ⟨sb1, 2, none⟩ = some (.int .i8 0) ∧ w5.cell? ⟨sb1, 3, none⟩ = some .nilFunc := ⟨HS1.out.cellAt 0, HS1.out.cellAt 1, HS1.out.cellAt 2, HS1.out.cellAt 3⟩
        have hin3 := HS1.out.inside
        go_wp2_with fail
        replace HG := Lib.hid (HG.out.past ((Below.refl _ w5).alloc (Nat.le_refl _) (.cells #[.string ⟨#[]⟩, .slice none 0 0, .int .i8 0] 57)))
        replace HB := Lib.hid (HB.out.alloc HB.out.size (.cells #[.string ⟨#[]⟩, .slice none 0 0, .int .i8 0] 57))
        clear c0 c1 c2 c3 HS1 hnn HF HRF
        generalize w5.alloc (.cells #[.string ⟨#[]⟩, .slice none 0 0, .int .i8 0] 57) = w6 at *
        have hg6 := HG.out
        have HG6 : Hid (BagOf w w6 w.heap.size (2 * (q + 1)) rows A c) := Lib.hid ⟨hg6.1, by have := hg6.2.1; omega, hg6.2.2⟩
        have hpw2 : w.heap.size < w6.heap.size := hg6.1.hW.inside
        clear hg6 HG
        go_roundw
        case rel => exact ⟨q + 1, c, rows, A, by omega, by go_num, HG6, HB, hpw2⟩
        case measure => simp [intOf]; omega
    · obtain rfl : q = 3 := by omega
      clear hlt
      go_wp2_with fail
      refine (events_any name _).mono ?_
      rintro e v1 ⟨rfl, hb⟩
      replace HG := Lib.hid (HG.out.past hb)
      replace HB := Lib.hid (belowThen' HB.out hb)
      clear hb
      go_wp2_with fail
      refine (revents_any name _).mono ?_
      rintro e v2 ⟨rfl, hb⟩
      replace HG := Lib.hid (HG.out.past hb)
      replace HB := Lib.hid (belowThen' HB.out hb)
      clear hb
      go_wp2_with fail
      refine (zones_any name _).mono ?_
      rintro e v3 ⟨rfl, hb⟩
      replace HG := Lib.hid (HG.out.past hb)
      replace HB := Lib.hid (belowThen' HB.out hb)
      clear hb
      go_wp2_with fail
      refine (rzones_any name _).mono ?_
      rintro e v4 ⟨rfl, hb⟩
      replace HG := Lib.hid (HG.out.past hb)
      replace HB := Lib.hid (belowThen' HB.out hb)
      clear hb
      go_wp2_with fail
      refine (HG.out.1.apart (by have := HG.out.2.1; omega) (fun k r hr => by have := HG.out.2.2.1 k r hr; omega)).mono ?_
      rintro e v5 ⟨rfl, hk⟩
      have HB5 := Lib.hid (HB.out.trans (hk.below (B := w.heap.size) HB.out.size (fun k h => HG.out.2.2.2 k h)))
      clear hk HG HB
      have hok : ∀ b : Bool, (b == b) = true := fun b => by simp
      generalize amongAt events name = z1 at *
      generalize amongAt zones name = z2 at *
      generalize amongOk events name = b1 at *
      generalize amongOk zones name = b2 at *
      go_wp2_with fail
      refine (words_any name _).mono ?_
      rintro e v6 ⟨rfl, hb⟩
      have HB6 := Lib.hid (belowThen' HB5.out hb)
      clear hb HB5
      go_wp2_with fail
      refine (rword_any name _).mono ?_
      rintro e v7 ⟨rfl, hb⟩
      have HB7 := Lib.hid (belowThen' HB6.out hb)
      clear hb HB6
      generalize amongOk words name = b3 at *
      go_wp2_with fail
      refine (lives_any _).mono ?_
      rintro e v8 ⟨rfl, hb⟩
      have HB8 := Lib.hid (belowThen' HB7.out hb)
      clear hb HB7
      go_wp2_with fail
      go_ret
      exact ⟨rfl, HB8.out⟩
end Go.Proofs.YtfcdbmfdaohpjaaDoor
