/-
  SumsGoes is proved as given: for every input the law returns true, and its arguments read behind the call as before. Conditions: none
-/
import Derived.Test.YtcdolkifahlakaaGoes
import Derived.Test.YtcdolkifahlakaaLawB
namespace Go.Proofs.Ytcdolkifahlakaa.goes
open Go.ChangeShapes Go.WideShapes Go.ChangeAt Go.RowKit

set_option maxRecDepth 100000 in
theorem lifted (os : Os) (started : os.Started) (H : Type) (enc : TypeId × Value → H) :
    ReturnsInHanded {} Try.checked os 8 .any (Rows.sumsGoesSpec.pre6 enc Try.prog Try.f8 Rows.sumsGoesRow.domain false) (Rows.sumsGoesSpec.post enc Try.prog Try.f8 false true false false) := by
  refine returnsInHanded_of_change_sized (C := Try.checked) law_own started (by kernel_rfl) Try.func8
    (ChangeSpec.witness6 (enc := enc) (C := Try.checked) false ⟨#[], #[.slice none 0 0, .slice none 0 0, .slice none 0 0], []⟩ 8 (by kernel_rfl) (by kernel_rfl) (by kernel_rfl) (by kernel_rfl)) ?_
  intro W base args ds gs before hval0 hW _ hsz0 _
  have hsz : (DataW.weightsEach Try.prog (Try.f8.params.toList ++ Rows.sumsGoesSpec.plain.varTypes Try.prog) (ds ++ gs)).all (· ≤ reachBytes) = true := hsz0
  clear hsz0
  have hval : ∀ (j : Nat) t v, Try.f8.params[j]? = some t → args[j]? = some v → Value.okWide Try.prog W .any base t v := hval0
  have hW' := hW
  obtain ⟨p, q, hA0, hV, rfl, _, _⟩ := hW
  have hA : DataW.TrodAll enc Try.prog W 0 (fun _ => true) true Try.f8.params.toList args.toList ds p := hA0
  have hlt : ∀ x ∈ p, x.block < W.heap.size := fun x hx => hW'.lt x (by simp [hx])
  rw [Try.params8] at hA hval hsz
  obtain ⟨rfl, rfl⟩ := trodVars_none hV
  obtain ⟨v0, vs0, d0, ds0, p0, q0, e0, rfl, rfl, h0, r0⟩ := trodAll_cons hA
  obtain ⟨v1, vs1, d1, ds1, p1, q1, e1, rfl, rfl, h1, r1⟩ := trodAll_cons r0
  obtain ⟨v2, vs2, d2, ds2, p2, q2, e2, rfl, rfl, h2, r2⟩ := trodAll_cons r1
  obtain ⟨rfl, rfl, rfl⟩ := trodAll_nil r2
  obtain rfl : args = #[v0, v1, v2] := Array.toList_inj.1 (by simp [e0, e1, e2])
  obtain ⟨A0, zs0, cap0, rfl, l0, wz0, cl0, _, hlen0⟩ := open_list Try.underlying22 Try.underlying5 cells_u8 (hval 0 22 v0 rfl rfl) h0 (fun x hx => hlt x (by simp [hx]))
  have m0 := list_reach hsz (j := 0) rfl rfl Try.underlying22 bytes_u8 hlen0
  obtain ⟨b0, hb0, hz0⟩ := bytes_of zs0 wz0
  rw [hz0] at l0
  rw [← hb0] at m0 hW' cl0 ⊢
  obtain ⟨A1, zs1, cap1, rfl, l1, wz1, cl1, _, hlen1⟩ := open_list Try.underlying22 Try.underlying5 cells_u8 (hval 1 22 v1 rfl rfl) h1 (fun x hx => hlt x (by simp [hx]))
  have m1 := list_reach hsz (j := 1) rfl rfl Try.underlying22 bytes_u8 hlen1
  obtain ⟨b1, hb1, hz1⟩ := bytes_of zs1 wz1
  rw [hz1] at l1
  rw [← hb1] at m1 hW' cl1 ⊢
  obtain ⟨A2, zs2, cap2, rfl, l2, wz2, cl2, _, hlen2⟩ := open_list Try.underlying22 Try.underlying5 cells_u8 (hval 2 22 v2 rfl rfl) h2 (fun x hx => hlt x (by simp [hx]))
  have m2 := list_reach hsz (j := 2) rfl rfl Try.underlying22 bytes_u8 hlen2
  obtain ⟨b2, hb2, hz2⟩ := bytes_of zs2 wz2
  rw [hz2] at l2
  rw [← hb2] at m2 hW' cl2 ⊢
  refine (sumsGoes_any b0 b1 b2 A0 A1 A2 cap0 cap1 cap2 W l0 l1 l2 (by omega) (by omega) (by omega)).mono fun e W' ⟨he, hbel⟩ => ?_
  exact ⟨_, he, post_law law_laid (by kernel_rfl) (by kernel_rfl) Try.underlying4 rfl hW' rfl hbel⟩

theorem proved : Rows.SumsGoesSaid :=
  OpenClaim.holds_of_wide 8 Try.f8 rfl rfl rfl rfl rfl rfl rfl ⟨rfl, rfl, rfl, rfl, rfl⟩ rfl rfl rfl rfl rfl (by kernel_rfl) Try.func8 (by kernel_rfl)
    (of_decide_eq_true (by kernel_rfl)) (by unfold Func.isWrapper; first | (rw [if_pos (by decide +kernel)]; kernel_rfl) | (rw [if_neg (by decide +kernel)]; exact ⟨rfl, rfl⟩))
    (fun os started H enc _ => lifted os started H enc)
end Go.Proofs.Ytcdolkifahlakaa.goes
