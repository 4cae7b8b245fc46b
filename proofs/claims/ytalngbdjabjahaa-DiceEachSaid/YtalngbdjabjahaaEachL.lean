/-
  The law DiceEach: the walk. Conditions: the list takes no more than a process can hold; the numbers are of their kinds.
-/
import Derived.Test.YtalngbdjabjahaaEachB
namespace Go.Proofs.Ytalngbdjabjahaa
open Go.RowKit
set_option maxHeartbeats 4000000 in
set_option maxRecDepth 100000 in
theorem diceEach_any (o : List Int) (A : Option Addr) (cap : Nat) (at_ other : Int) (seed : Int) (w : World) (hl : Lies w w.heap.size A (o.map (Value.int .i64))) (hm : o.length ≤ 140737488351232)
    (hat : -9223372036854775808 ≤ at_ ∧ at_ ≤ 9223372036854775807) (hot : -9223372036854775808 ≤ other ∧ other ≤ 9223372036854775807) (hsd : 0 ≤ seed ∧ seed ≤ 18446744073709551615) :
    Calls Try.prog 4 #[.slice A o.length cap, .int .i64 at_, .int .i64 other, .int .u64 seed] w fun e w' => e = .returned (.bool true) ∧ Below w.heap.size w w' := by
  obtain ⟨z, rfl⟩ := Int.eq_ofNat_of_zero_le hsd.1
  clear hsd
  have HL := Lib.hid hl; clear hl
  by_cases hlong : 4096 < o.length
  · go_enter Try.func4, Try.ntmps4
    go_wp2_with fail
    refine (lives_any _).mono ?_
    rintro e w1 ⟨rfl, hb⟩
    have HB := Lib.hid hb; clear hb
    go_wp2_with fail
    go_ret
    exact ⟨rfl, HB.out⟩
  · by_cases hord : IsOrd o
    · have HOrd := Lib.hid hord
      have HC := Lib.hid (isOrder_any o true ⟨fun _ => hord, fun _ => rfl⟩ A w.heap.size cap w HL.out (Nat.le_refl _) hm)
      have hback := Lib.hid (ord_back hord)
      have hjl := backL_length (o.length - 1) (rng o.length) o
      clear hord
      obtain ⟨js, hjs⟩ : ∃ js, Hid (backL (o.length - 1) (rng o.length) o = js) := ⟨_, Lib.hid rfl⟩
      rw [hjs.out] at hback hjl
      have HJL := Lib.hid hjl
      have hjlb : js.length ≤ 4096 := by omega
      clear hjl
      go_enter Try.func4, Try.ntmps4
      go_wp2_with fail
      refine HC.out.mono ?_
      rintro e w1 ⟨rfl, hk⟩
      have HB1 : Hid (Below w.heap.size w w1) := Lib.hid (hk.below (Nat.le_refl _) (fun _ h => h.elim))
      clear hk HC
      go_wp2_with fail
      refine (answersOf_any o js A w1.heap.size cap w1 (HL.out.past HB1.out) (Nat.le_refl _) (by omega) hjs).mono ?_
      rintro e w2 ⟨A', cap', rfl, hO, hk⟩
      have HO := Lib.hid hO
      have HB2 : Hid (Below w.heap.size w w2) := Lib.hid (belowThen' HB1.out (hk.below (Nat.le_refl _) (fun _ h => h.elim)))
      have hs1 := HB1.out.size
      have hs2 := hk.size
      clear hk hO HB1
      go_wp2_with fail
      have HW3 := Lib.hid (Whole.made w2 34 #[.slice A' js.length cap', .slice none 0 0])
      have HL3 := Lib.hid ((ans_lies HO.out).keeps ((Keeps.refl (fun _ => False) w2).alloc (.cells #[.slice A' js.length cap', .slice none 0 0] 34)) (fun _ _ h => h))
      have HO3 := Lib.hid (own_keepS HO.out ((Keeps.refl (fun _ => False) w2).alloc (.cells #[.slice A' js.length cap', .slice none 0 0] 34)) (fun _ _ _ h => h))
      have HOlt : Hid (∀ b, (Value.slice A' js.length cap').ownBlock = some b → b < w2.heap.size) := Lib.hid fun b hb => (HO.out.lt b hb).2
      have HB3 := Lib.hid (HB2.out.alloc HB2.out.size (.cells #[.slice A' js.length cap', .slice none 0 0] 34))
      have hs3 : (w2.alloc (.cells #[.slice A' js.length cap', .slice none 0 0] 34)).heap.size = w2.heap.size + 1 := World.size_alloc _ _
      have HS3 := Lib.hid hs3
      clear HO HB2 hs3
      generalize w2.alloc (.cells #[.slice A' js.length cap', .slice none 0 0] 34) = w3 at *
      have hs23 : w2.heap.size < w3.heap.size := by have := HS3.out; omega
      generalize w2.heap.size = a at *
      refine (ask_yes a o.length cap' (fun g => g < a) A' js o w3 HJL.out (fun g hg => ⟨Nat.ne_of_lt hg, by omega⟩) HW3.out HL3.out (by omega) hback.out).mono ?_
      rintro e w4 ⟨rfl, hg, _, ⟨A2, c2, hc⟩, hk⟩
      have HG4 := Lib.hid hg
      have HB4 := Lib.hid (HB3.out.trans (hk.below HB3.out.size (fun b e => by omega)))
      have HO4 := Lib.hid (own_keepS HO3.out hk (fun b _ hb e => by have := HOlt.out b hb; omega))
      have hin4 := hg.inside
      have hs4 := hk.size
      clear hg hk HO3 HB3 HW3 HL3
      have HE := Lib.hid (equal_n o.length o.length o o rfl rfl true (by simp) _ _ w4.heap.size w4.heap.size o.length cap w4 (ints_lies (t := 3) HG4.out hin4) (HL.out.past HB4.out) (by omega))
      go_wp2_with fail
      refine HE.out.mono ?_
      rintro e w5 ⟨rfl, q, rfl⟩
      have hc5 : (w4.drewN q).cell? ⟨a, 1, none⟩ = some (.slice A2 js.length c2) := hc
      have HB5 := Lib.hid (belowN HB4.out q)
      have HO5 : Hid ((w4.drewN q).ownsRow w1.heap.size 43 2 (.slice A' js.length cap') js.length (ansCells js)) := HO4
      have hs5 : w3.heap.size ≤ (w4.drewN q).heap.size := hs4
      clear HE HB4 HO4 HG4 hc hin4 hs4
      generalize w4.drewN q = w5 at *
      go_wp2_with fail
      refine (new_rel z _).mono ?_
      rintro e w6 ⟨rfl, hd, hk⟩
      have HD6 := Lib.hid hd
      have HB6 := Lib.hid (belowThen' HB5.out (hk.below (Nat.le_refl _) (fun _ h => h.elim)))
      have HO6 := Lib.hid (own_keepS HO5.out hk (fun _ _ _ h => h))
      have hs6 := hk.size
      clear hd hk HB5 HO5 hc5
      go_wp2_with fail
      refine (order_any _ z o.length _ HD6.out (by omega)).mono ?_
      rintro e w7 ⟨rfl, hg, hgl, _, hk⟩
      have HG7 := Lib.hid hg
      have HB7 := Lib.hid (HB6.out.trans (hk.below HB6.out.size (fun b e => by have := hs1; omega)))
      have HO7 := Lib.hid (own_keepS HO6.out hk (fun b _ hb e => by have := HOlt.out b hb; omega))
      have hin7 := hg.inside
      have hs7 := hk.size
      have HC7 := Lib.hid (isOrder_n o.length (ordOf z o.length) hgl true ⟨fun _ => ordOf_ord z o.length, fun _ => rfl⟩ _ w7.heap.size o.length w7 (ints_lies (t := 3) hg hin7) (Nat.le_refl _) hm)
      clear hg hk HB6 HO6 HD6 HG7 hgl
      go_wp2_with fail
      refine HC7.out.mono ?_
      rintro e w8 ⟨rfl, hk⟩
      have HB8 := Lib.hid (belowThen' HB7.out (hk.below (Nat.le_refl _) (fun _ h => h.elim)))
      have HO8 := Lib.hid (own_keepS HO7.out hk (fun _ _ _ h => h))
      have hs8 := hk.size
      clear hk HB7 HO7 HC7
      by_cases h0 : at_ < 0
      · go_wp2_with fail
        refine (lives_any _).mono ?_
        rintro e w9 ⟨rfl, hb⟩
        have HB9 := Lib.hid (belowThen' HB8.out hb); clear hb
        go_wp2_with fail
        go_ret
        exact ⟨rfl, HB9.out⟩
      · by_cases h1 : (js.length : Int) ≤ at_
        · go_wp2_with fail
          refine (lives_any _).mono ?_
          rintro e w9 ⟨rfl, hb⟩
          have HB9 := Lib.hid (belowThen' HB8.out hb); clear hb
          go_wp2_with fail
          go_ret
          exact ⟨rfl, HB9.out⟩
        · obtain ⟨p, rfl⟩ := Int.eq_ofNat_of_zero_le (show 0 ≤ at_ by omega)
          have hp : p < js.length := by omega
          clear h0 h1 hat
          obtain ⟨gA, rfl, hgb, hgl, c0, f0, hst⟩ := ans_form HO8.out hp
          have hga : gA < a := HOlt.out gA rfl
          have HST := Lib.hid hst
          have hval := Lib.hid (each_valid HJL.out hback.out p other hp)
          have hoth := Lib.hid (fun r hne hr => each_other (r := r) HJL.out hback.out p other hp hne hr)
          clear hst
          generalize js.getD p 0 = y at *
          by_cases hy : y = other
          · subst hy
            go_wp2_with fail
            refine (lives_any _).mono ?_
            rintro e w9 ⟨rfl, hb⟩
            have HB9 := Lib.hid (belowThen' HB8.out hb); clear hb
            go_wp2_with fail
            go_ret
            exact ⟨rfl, HB9.out⟩
          · have HO9 := Lib.hid (HST.out other)
            have HB9 := Lib.hid (HB8.out.setCell (p := ⟨gA, p * 2, none⟩) (by show w.heap.size ≤ gA; omega) (.int .i64 other))
            have hyb : ((y : Int) == other) = false := by simp [hy]
            have hlen9 : (js.set p other).length = js.length := List.length_set ..
            have HJ9 : Hid ((js.set p other).length = o.length - 1) := Lib.hid (hlen9.trans HJL.out)
            have hs9 : (w8.setCell ⟨gA, p * 2, none⟩ (.int .i64 other)).heap.size = w8.heap.size := by simp
            have HS9 := Lib.hid hs9
            have HLn := Lib.hid hlen9.symm
            clear hs9 hlen9 HST HO8 HB8
            go_wp2_with fail
            have hw10 := Whole.made (w8.setCell ⟨gA, p * 2, none⟩ (.int .i64 other)) 34 #[.slice (some ⟨gA, 0, none⟩) js.length cap', .slice none 0 0]
            have hl10 := (ans_lies HO9.out).keeps ((Keeps.refl (fun _ => False) (w8.setCell ⟨gA, p * 2, none⟩ (.int .i64 other))).alloc (.cells #[.slice (some ⟨gA, 0, none⟩) js.length cap', .slice none 0 0] 34)) (fun _ _ h => h)
            have hb10 := HB9.out.alloc HB9.out.size (.cells #[.slice (some ⟨gA, 0, none⟩) js.length cap', .slice none 0 0] 34)
            rw [HS9.out] at hl10 hw10
            rw [HLn.out] at hl10 hb10 hw10 ⊢
            have hs10 : ((w8.setCell ⟨gA, p * 2, none⟩ (.int .i64 other)).alloc (.cells #[.slice (some ⟨gA, 0, none⟩) (js.set p other).length cap', .slice none 0 0] 34)).heap.size = w8.heap.size + 1 := by rw [World.size_alloc, HS9.out]
            have HW10 := Lib.hid hw10; have HL10 := Lib.hid hl10; have HB10 := Lib.hid hb10; have HS10 := Lib.hid hs10
            clear hw10 hl10 hb10 hs10 HB9 HO9 HS9 HLn
            generalize js.set p other = js' at *
            generalize (w8.setCell ⟨gA, p * 2, none⟩ (.int .i64 other)).alloc (.cells #[.slice (some ⟨gA, 0, none⟩) js'.length cap', .slice none 0 0] 34) = w10 at *
            have hs810 : w8.heap.size < w10.heap.size := by have := HS10.out; omega
            obtain ⟨R, hR⟩ : ∃ R, shL (o.length - 1) (rng o.length) js' = R := ⟨_, rfl⟩
            have hR1 := hval.out
            rw [hR] at hR1
            cases R with
            | none =>
              have hcases : other < 0 ∨ ¬ other < 0 ∧ (o.length : Int) - p ≤ other := by
                have : (decide (0 ≤ other) && decide (other < (o.length : Int) - p)) = false := hR1.symm
                simp only [Bool.and_eq_false_iff, decide_eq_false_iff_not] at this
                omega
              have HC := Lib.hid (ask_no w8.heap.size o.length cap' (fun g => g < w8.heap.size) (some ⟨gA, 0, none⟩) js' w10 HJ9.out (fun g hg => ⟨Nat.ne_of_lt hg, by omega⟩) HW10.out HL10.out (by omega) hR)
              clear hR1 hR
              refine HC.out.mono ?_
              rintro e w11 ⟨rfl, hk⟩
              have HB11 := Lib.hid (HB10.out.trans (hk.below HB10.out.size (fun b e => by omega)))
              clear hk HC
              rcases hcases with h0 | ⟨h0, h1⟩
              · go_wp2_with fail
                refine (lives_any _).mono ?_
                rintro e w13 ⟨rfl, hb⟩
                have HB13 := Lib.hid (belowThen' HB11.out hb); clear hb
                go_wp2_with fail
                go_ret
                exact ⟨rfl, HB13.out⟩
              · have hdf : decide (other < (o.length : Int) - (p : Int)) = false := by simp; omega
                go_wp2_with fail
                refine (lives_any _).mono ?_
                rintro e w13 ⟨rfl, hb⟩
                have HB13 := Lib.hid (belowThen' HB11.out hb); clear hb
                go_wp2_with fail
                go_ret
                exact ⟨rfl, HB13.out⟩
            | some r =>
              have hcases : 0 ≤ other ∧ other < (o.length : Int) - p := by
                have : (decide (0 ≤ other) && decide (other < (o.length : Int) - p)) = true := hR1.symm
                simpa using this
              have hne := Lib.hid (hoth.out r hy hR)
              have HC := Lib.hid (ask_yes w8.heap.size o.length cap' (fun g => g < w8.heap.size) (some ⟨gA, 0, none⟩) js' r w10 HJ9.out (fun g hg => ⟨Nat.ne_of_lt hg, by omega⟩) HW10.out HL10.out (by omega) hR)
              clear hR1 hR
              obtain ⟨h0, h1⟩ := hcases
              refine HC.out.mono ?_
              rintro e w11 ⟨rfl, hg, hgl2, _, hk⟩
              have HB11 := Lib.hid (HB10.out.trans (hk.below HB10.out.size (fun b e => by omega)))
              have HE := Lib.hid (equal_n o.length o.length r o hgl2 rfl false (decide_eq_false hne.out) _ _ w11.heap.size w11.heap.size o.length cap w11 (ints_lies (t := 3) hg hg.inside) (HL.out.past HB11.out) (by omega))
              clear hk HC hg hgl2
              go_wp2_with fail
              refine HE.out.mono ?_
              rintro e w12 ⟨rfl, q2, rfl⟩
              have HB12 := Lib.hid (belowN HB11.out q2)
              generalize w11.drewN q2 = w12 at *
              go_wp2_with fail
              refine (lives_any _).mono ?_
              rintro e w13 ⟨rfl, hb⟩
              have HB13 := Lib.hid (belowThen' HB12.out hb); clear hb
              go_wp2_with fail
              go_ret
              exact ⟨rfl, HB13.out⟩
    · have HC := Lib.hid (isOrder_any o false ⟨fun h => absurd h (by simp), fun h => absurd h hord⟩ A w.heap.size cap w HL.out (Nat.le_refl _) hm)
      clear hord
      go_enter Try.func4, Try.ntmps4
      go_wp2_with fail
      refine HC.out.mono ?_
      rintro e w1 ⟨rfl, hk⟩
      have HB1 : Hid (Below w.heap.size w w1) := Lib.hid (hk.below (Nat.le_refl _) (fun _ h => h.elim))
      clear hk
      go_wp2_with fail
      refine (lives_any _).mono ?_
      rintro e w2 ⟨rfl, hb⟩
      have HB2 := Lib.hid (belowThen' HB1.out hb); clear hb
      go_wp2_with fail
      go_ret
      exact ⟨rfl, HB2.out⟩
end Go.Proofs.Ytalngbdjabjahaa
