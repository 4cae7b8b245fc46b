/-
  DiceDraws is proved as given, the card with its tie: for every input the law returns true, and its arguments read behind the call as before; the three listed tables of Go's library are tied to the program's text, and not read on the way. Conditions: None.
-/
import Derived.Test.YtalngbdjabjahaaDoorDrawL
import Derived.Test.YtalngbdjabjahaaDoorLawI
import Derived.Test.YtalngbdjabjahaaDoorLawP
import Derived.Test.YtalngbdjabjahaaDoorCards
import Derived.Test.YtalngbdjabjahaaDoorTie
import Derived.LaidMore
import Derived.Stop.Joined
import Derived.SevenTiedAt
namespace Go.Proofs.YtalngbdjabjahaaDoor.draws
open Go.ChangeShapes Go.WideShapes Go.ChangeAt Go.RowKit

def laidL {H : Type} : List (String × DataW H) := [("math/bits.deBruijn32tab", Rows.laid_math_bits_deBruijn32tab), ("math/bits.deBruijn64tab", Rows.laid_math_bits_deBruijn64tab), ("internal/strconv.uint64pow10", Rows.laid_internal_strconv_uint64pow10)]
/-- The door's own heap meets the condition. -/
theorem door_met (os : Os) (args : Array Value) : laidMetH Tryd.prog laidL ((World.doorLaid Tryd.prog 24 os).forCall (fun _ _ => 0) ⟨#[], args, []⟩).memory :=
  laidMetH_of_parts3 (fuel := 8) (laidMet_of_run' 8 (by kernel_rfl) (by kernel_rfl)) (by kernel_rfl) (by kernel_rfl)

set_option maxRecDepth 100000 in
theorem lifted (os : Os) (started : os.Started) (H : Type) (enc : TypeId × Value → H) :
    ReturnsInHanded {} Tryd.checked os 4 .any (fun w args => (Rows.diceDrawsSpec.pre enc Tryd.prog Tryd.f4 [] false w args ∧ laidMetH Tryd.prog laidL w) ∧ sizedMet enc Tryd.prog Tryd.f4 (OpenSpec.ofChange Rows.diceDrawsSpec) false w args)
      (Rows.diceDrawsSpec.post enc Tryd.prog Tryd.f4 false true false false) := by
  refine returnsInHanded_of_change_and (C := Tryd.checked) (X := fun w _ => laidMetH Tryd.prog laidL w) (fun _ _ _ hh h => h.of_heap hh) law_own started (by kernel_rfl) Tryd.func4
    (ChangeSpec.witness_shaped (enc := enc) (C := Tryd.checked) (os := os) (X := fun w _ => laidMetH Tryd.prog laidL w) false (World.doorLaid Tryd.prog 24 os) #[.int .u64 0, .int .u64 0, .slice none 0 0] 8 rfl (World.shaped_of_RefB (by kernel_rfl) (by kernel_rfl)) (by kernel_rfl) (by kernel_rfl) (by kernel_rfl) (door_met os _)) ?_
  intro W base args ds gs before hval0 hW _ hsz0 _ _
  have hsz : (DataW.weightsEach Tryd.prog (Tryd.f4.params.toList ++ Rows.diceDrawsSpec.plain.varTypes Tryd.prog) (ds ++ gs)).all (· ≤ reachBytes) = true := hsz0
  clear hsz0
  have hval : ∀ (j : Nat) t v, Tryd.f4.params[j]? = some t → args[j]? = some v → Value.okWide Tryd.prog W .any base t v := hval0
  have hW' := hW
  obtain ⟨p, q, hA0, hV, rfl, _, _⟩ := hW
  have hA : DataW.TrodAll enc Tryd.prog W 0 (fun _ => true) true Tryd.f4.params.toList args.toList ds p := hA0
  have hlt : ∀ x ∈ p, x.block < W.heap.size := fun x hx => hW'.lt x (by simp [hx])
  rw [Tryd.params4] at hA hval hsz
  obtain ⟨rfl, rfl⟩ := trodVars_none hV
  obtain ⟨v0, vs0, d0, ds0, p0, q0, e0, rfl, rfl, h0, r0⟩ := trodAll_cons hA
  obtain ⟨v1, vs1, d1, ds1, p1, q1, e1, rfl, rfl, h1, r1⟩ := trodAll_cons r0
  obtain ⟨v2, vs2, d2, ds2, p2, q2, e2, rfl, rfl, h2, r2⟩ := trodAll_cons r1
  obtain ⟨rfl, rfl, rfl⟩ := trodAll_nil r2
  obtain rfl : args = #[v0, v1, v2] := Array.toList_inj.1 (by simp [e0, e1, e2])
  obtain ⟨z0, rfl, rfl, rfl, wm0⟩ := open_int Tryd.underlying61 (hval 0 61 v0 rfl rfl) h0
  have bd0 := bounds_of_u64 wm0
  obtain ⟨one, rfl⟩ : ∃ k : Nat, z0 = k := ⟨z0.toNat, by omega⟩
  obtain ⟨z1, rfl, rfl, rfl, wm1⟩ := open_int Tryd.underlying61 (hval 1 61 v1 rfl rfl) h1
  have bd1 := bounds_of_u64 wm1
  obtain ⟨two, rfl⟩ : ∃ k : Nat, z1 = k := ⟨z1.toNat, by omega⟩
  obtain ⟨A2, len2, cap2, V2, rfl, hF2, _, _, hlen2, hT2⟩ := open_structs Tryd.underlying62 Tryd.underlying70 (by kernel_rfl) (by kernel_rfl) (hval 2 62 v2 rfl rfl) h2 (fun x hx => hlt x (by simp [hx]))
  have hV : ∀ i, i < len2 → ∃ y : Int × Int × Int, (V2 i 0 = .int .i64 y.1 ∧ V2 i 1 = .int .i64 y.2.1 ∧ V2 i 2 = .int .i64 y.2.2) ∧ (-9223372036854775808 ≤ y.2.1 ∧ y.2.1 ≤ 9223372036854775807) ∧ (-9223372036854775808 ≤ y.2.2 ∧ y.2.2 ≤ 9223372036854775807) := fun i hi => by
    obtain ⟨n0, x0, e0⟩ := hT2 i hi 0 _ rfl
    obtain ⟨n1, x1, e1⟩ := hT2 i hi 1 _ rfl
    obtain ⟨n2, x2, e2⟩ := hT2 i hi 2 _ rfl
    obtain ⟨a, ea, _, _⟩ := DataW.trod_int Tryd.underlying3 e0
    obtain ⟨b, eb, _, hb⟩ := DataW.trod_int Tryd.underlying3 e1
    obtain ⟨c, ec, _, hc⟩ := DataW.trod_int Tryd.underlying2 e2
    exact ⟨(a, b, c), ⟨by injection ea, by injection eb, by injection ec⟩, bounds_of_i64 hb, bounds_of_i64 hc⟩
  obtain ⟨y, hy⟩ := Deep.choose_lt hV
  have hL : OpLies W (fun g => g < W.heap.size) A2 len2 (fun i => (y i).1) (fun i => (y i).2.1) (fun i => (y i).2.2) := fun i hi => by
    obtain ⟨g, off, e0, hg, c0⟩ := hF2 i hi 0 (by decide)
    obtain ⟨g', off', e1, _, c1⟩ := hF2 i hi 1 (by decide)
    obtain ⟨g'', off'', e2, _, c2⟩ := hF2 i hi 2 (by decide)
    rw [e0] at e1 e2
    injection e1 with e1
    injection e1 with e1 e3
    injection e2 with e2
    injection e2 with e2 e4
    subst e1; subst e3; subst e2; subst e4
    obtain ⟨⟨y0, y1, y2⟩, b1, b2⟩ := hy i hi
    refine ⟨g, off, e0, hg, hg, ?_, ?_, ?_, b1, b2⟩
    · show _ = some (Value.int .i64 (y i).1)
      rw [← y0]; exact c0
    · show _ = some (Value.int .i64 (y i).2.1)
      rw [← y1]; exact c1
    · show _ = some (Value.int .i64 (y i).2.2)
      rw [← y2]; exact c2
  have hC := diceDraws_any one two A2 len2 cap2 _ _ _ W hL
  refine hC.mono fun e W' ⟨he, hbel⟩ => ?_
  exact ⟨_, he, post_law law_laid (by kernel_rfl) (by kernel_rfl) Tryd.underlying4 rfl hW' rfl hbel⟩

theorem row_holds : Rows.DiceDrawsSaid :=
  OpenClaim.holds_of_wide 4 Tryd.f4 rfl rfl rfl rfl rfl rfl rfl ⟨rfl, rfl, rfl, rfl, rfl⟩ rfl rfl rfl rfl rfl (by kernel_rfl) Tryd.func4 (by kernel_rfl)
    (of_decide_eq_true (by kernel_rfl)) (by unfold Func.isWrapper; first | (rw [if_pos (by decide +kernel)]; kernel_rfl) | (rw [if_neg (by decide +kernel)]; exact ⟨rfl, rfl⟩))
    (fun os started H enc _ => lifted os started H enc)

theorem proved : Rows.DiceDrawsCardSaid :=
  Claim7.holds_tied_plain_at .later [] [.data, .data, .data] true _ false
    row_holds (fun _ h => by cases h) (by kernel_rfl) (fun _ h => by cases h) diceDraws_row_tie rfl ⟨rfl, rfl⟩ (by kernel_rfl) rfl
    (fun f fn hf hfn => by
      obtain rfl : f = 4 := Option.some.inj ((show Tryd.prog.funcNamed "tableau/tableaulaw03.DiceDraws" = some 4 by kernel_rfl).symm.trans hf) |>.symm
      obtain rfl : fn = Tryd.f4 := (Option.some.inj (Tryd.func4.symm.trans hfn)).symm
      exact ⟨by kernel_rfl, fun j t ht => by
        rw [Tryd.params4] at ht
        have hm : t ∈ [61, 61, 62] := by simpa using Array.mem_of_getElem? ht
        have hall : ([61, 61, 62].all fun u => !Tryd.prog.wantsStandIn u) = true := by kernel_rfl
        exact (show Tryd.prog.wantsStandIn t = false by simpa using List.all_eq_true.1 hall t hm)⟩)
    (by kernel_rfl)
end Go.Proofs.YtalngbdjabjahaaDoor.draws
