/-
  RowsBack is proved as given: for every input the law returns true, and its arguments read behind the call as before. Conditions: none
-/
import Derived.Test.YtbfhbekocgdceaaRbL
import Derived.Test.YtbfhbekocgdceaaLawI
namespace Go.Proofs.Ytbfhbekocgdceaa.back
open Go.ChangeShapes Go.WideShapes Go.ChangeAt Go.RowKit

set_option maxRecDepth 100000 in
theorem lifted (os : Os) (started : os.Started) (H : Type) (enc : TypeId × Value → H) :
    ReturnsInHanded {} Try.checked os 9 .any (Rows.rowsBackSpec.pre6 enc Try.prog Try.f9 Rows.rowsBackRow.domain false) (Rows.rowsBackSpec.post enc Try.prog Try.f9 false true false false) := by
  refine returnsInHanded_of_change_sized (C := Try.checked) law_own started (by kernel_rfl) Try.func9
    (ChangeSpec.witness6 (enc := enc) (C := Try.checked) false ⟨#[], #[.slice none 0 0, .int .i64 0, .agg #[.int .i8 0, .string ⟨#[]⟩], .slice none 0 0], []⟩ 8 (by kernel_rfl) (by kernel_rfl) (by kernel_rfl) (by kernel_rfl)) ?_
  intro W base args ds gs before hval0 hW _ hsz0 _
  have hsz : (DataW.weightsEach Try.prog (Try.f9.params.toList ++ Rows.rowsBackSpec.plain.varTypes Try.prog) (ds ++ gs)).all (· ≤ reachBytes) = true := hsz0
  clear hsz0
  have hval : ∀ (j : Nat) t v, Try.f9.params[j]? = some t → args[j]? = some v → Value.okWide Try.prog W .any base t v := hval0
  have hW' := hW
  obtain ⟨p, q, hA0, hV, rfl, _, _⟩ := hW
  have hA : DataW.TrodAll enc Try.prog W 0 (fun _ => true) true Try.f9.params.toList args.toList ds p := hA0
  have hlt : ∀ x ∈ p, x.block < W.heap.size := fun x hx => hW'.lt x (by simp [hx])
  rw [Try.params9] at hA hval hsz
  obtain ⟨rfl, rfl⟩ := trodVars_none hV
  obtain ⟨v0, vs0, d0, ds0, p0, q0, e0, rfl, rfl, h0, r0⟩ := trodAll_cons hA
  obtain ⟨v1, vs1, d1, ds1, p1, q1, e1, rfl, rfl, h1, r1⟩ := trodAll_cons r0
  obtain ⟨v2, vs2, d2, ds2, p2, q2, e2, rfl, rfl, h2, r2⟩ := trodAll_cons r1
  obtain ⟨v3, vs3, d3, ds3, p3, q3, e3, rfl, rfl, h3, r3⟩ := trodAll_cons r2
  obtain ⟨rfl, rfl, rfl⟩ := trodAll_nil r3
  obtain rfl : args = #[v0, v1, v2, v3] := Array.toList_inj.1 (by simp [e0, e1, e2, e3])
  obtain ⟨A0, xs0, cap0, rfl, l0, wz0, cl0, hlen0⟩ := open_pairs (hval 0 43 v0 rfl rfl) h0 (fun x hx => hlt x (by simp [hx]))
  have m0 := list_reach hsz (j := 0) rfl rfl Try.underlying43 (show Try.prog.bytesOf 49 = 24 by kernel_rfl) hlen0
  obtain ⟨z1, rfl, rfl, rfl, wm1⟩ := open_int Try.underlying3 (hval 1 3 v1 rfl rfl) h1
  have bd1 := bounds_of_i64 wm1
  obtain ⟨c2_0, c2_1, y2_0, y2_1, m2, rfl, rfl, rfl, hy2_0, hy2_1⟩ := Joins.open_agg2 Try.underlying49 (by kernel_rfl) (by kernel_rfl) (hval 2 49 v2 rfl rfl) h2
  obtain ⟨z2_0, e2_0, rfl, wm2_0⟩ := DataW.trod_int Try.underlying47 hy2_0
  simp at e2_0
  subst e2_0
  obtain ⟨z2_1, e2_1, rfl, wm2_1⟩ := DataW.trod_string Try.underlying9 hy2_1
  simp at e2_1
  subst e2_1
  obtain ⟨A3, zs3, cap3, rfl, l3, wz3, cl3, _, hlen3⟩ := open_list Try.underlying44 Try.underlying3 (by kernel_rfl) (hval 3 44 v3 rfl rfl) h3 (fun x hx => hlt x (by simp [hx]))
  have m3 := list_reach hsz (j := 3) rfl rfl Try.underlying44 (show Try.prog.bytesOf 3 = 8 by kernel_rfl) hlen3
  refine (rowsBack_any xs0 z1 (z2_0, z2_1) zs3 A0 A3 cap0 cap3 W l0 l3 (slice_addr Try.underlying43 (hval 0 43 _ rfl rfl)) cl0 (by omega) (by omega)).mono fun e W' ⟨he, hbel⟩ => ?_
  exact ⟨_, he, post_law law_laid (by kernel_rfl) (by kernel_rfl) Try.underlying4 rfl hW' rfl hbel⟩

theorem proved : Rows.RowsBackSaid :=
  OpenClaim.holds_of_wide 9 Try.f9 rfl rfl rfl rfl rfl rfl rfl ⟨rfl, rfl, rfl, rfl, rfl⟩ rfl rfl rfl rfl rfl (by kernel_rfl) Try.func9 (by kernel_rfl)
    (of_decide_eq_true (by kernel_rfl)) (by unfold Func.isWrapper; first | (rw [if_pos (by decide +kernel)]; kernel_rfl) | (rw [if_neg (by decide +kernel)]; exact ⟨rfl, rfl⟩))
    (fun os started H enc _ => lifted os started H enc)
end Go.Proofs.Ytbfhbekocgdceaa.back
