/-
  RowsOrders is proved as given: for every input the law returns true, and its arguments read behind the call as before. Conditions: none
-/
import Derived.Test.YtbfhbekocgdceaaRoL
import Derived.Test.YtbfhbekocgdceaaLawI
namespace Go.Proofs.Ytbfhbekocgdceaa.orders
open Go.ChangeShapes Go.WideShapes Go.ChangeAt Go.RowKit

set_option maxRecDepth 100000 in
theorem lifted (os : Os) (started : os.Started) (H : Type) (enc : TypeId × Value → H) :
    ReturnsInHanded {} Try.checked os 6 .any (Rows.rowsOrdersSpec.pre6 enc Try.prog Try.f6 Rows.rowsOrdersRow.domain false) (Rows.rowsOrdersSpec.post enc Try.prog Try.f6 false true false false) := by
  refine returnsInHanded_of_change_sized (C := Try.checked) law_own started (by kernel_rfl) Try.func6
    (ChangeSpec.witness6 (enc := enc) (C := Try.checked) false ⟨#[], #[.slice none 0 0, .slice none 0 0], []⟩ 8 (by kernel_rfl) (by kernel_rfl) (by kernel_rfl) (by kernel_rfl)) ?_
  intro W base args ds gs before hval0 hW _ hsz0 _
  have hsz : (DataW.weightsEach Try.prog (Try.f6.params.toList ++ Rows.rowsOrdersSpec.plain.varTypes Try.prog) (ds ++ gs)).all (· ≤ reachBytes) = true := hsz0
  clear hsz0
  have hval : ∀ (j : Nat) t v, Try.f6.params[j]? = some t → args[j]? = some v → Value.okWide Try.prog W .any base t v := hval0
  have hW' := hW
  obtain ⟨p, q, hA0, hV, rfl, _, _⟩ := hW
  have hA : DataW.TrodAll enc Try.prog W 0 (fun _ => true) true Try.f6.params.toList args.toList ds p := hA0
  have hlt : ∀ x ∈ p, x.block < W.heap.size := fun x hx => hW'.lt x (by simp [hx])
  rw [Try.params6] at hA hval hsz
  obtain ⟨rfl, rfl⟩ := trodVars_none hV
  obtain ⟨v0, vs0, d0, ds0, p0, q0, e0, rfl, rfl, h0, r0⟩ := trodAll_cons hA
  obtain ⟨v1, vs1, d1, ds1, p1, q1, e1, rfl, rfl, h1, r1⟩ := trodAll_cons r0
  obtain ⟨rfl, rfl, rfl⟩ := trodAll_nil r1
  obtain rfl : args = #[v0, v1] := Array.toList_inj.1 (by simp [e0, e1])
  obtain ⟨A0, zs0, cap0, rfl, l0, wz0, cl0, _, hlen0⟩ := open_list Try.underlying44 Try.underlying3 (by kernel_rfl) (hval 0 44 v0 rfl rfl) h0 (fun x hx => hlt x (by simp [hx]))
  have m0 := list_reach hsz (j := 0) rfl rfl Try.underlying44 (show Try.prog.bytesOf 3 = 8 by kernel_rfl) hlen0
  obtain ⟨A1, zs1, cap1, rfl, l1, wz1, cl1, _, hlen1⟩ := open_list Try.underlying44 Try.underlying3 (by kernel_rfl) (hval 1 44 v1 rfl rfl) h1 (fun x hx => hlt x (by simp [hx]))
  have m1 := list_reach hsz (j := 1) rfl rfl Try.underlying44 (show Try.prog.bytesOf 3 = 8 by kernel_rfl) hlen1
  refine (rowsOrders_any zs0 zs1 A0 A1 cap0 cap1 W l0 l1 (by omega) (by omega)).mono fun e W' ⟨he, hbel⟩ => ?_
  exact ⟨_, he, post_law law_laid (by kernel_rfl) (by kernel_rfl) Try.underlying4 rfl hW' rfl hbel⟩

theorem proved : Rows.RowsOrdersSaid :=
  OpenClaim.holds_of_wide 6 Try.f6 rfl rfl rfl rfl rfl rfl rfl ⟨rfl, rfl, rfl, rfl, rfl⟩ rfl rfl rfl rfl rfl (by kernel_rfl) Try.func6 (by kernel_rfl)
    (of_decide_eq_true (by kernel_rfl)) (by unfold Func.isWrapper; first | (rw [if_pos (by decide +kernel)]; kernel_rfl) | (rw [if_neg (by decide +kernel)]; exact ⟨rfl, rfl⟩))
    (fun os started H enc _ => lifted os started H enc)
end Go.Proofs.Ytbfhbekocgdceaa.orders
