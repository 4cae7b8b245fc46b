/-
  rows.Cut and rows.Put, of texts: the walks. Conditions: lengths within 10 ^ 9.
-/
import Derived.Test.YtbfhbekocgdceaaGcT
import Derived.WalkMore
import Derived.Test.YtbfhbekocgdceaaCuI
namespace Go.Proofs.Ytbfhbekocgdceaa
open Go.RowKit
set_option maxRecDepth 100000 in
set_option maxHeartbeats 1000000 in
theorem cutT_in (xs : List Value) (g off cap k : Nat) (w : World) (hx : Lies w w.heap.size (some ⟨g, off, none⟩) xs) (hc : xs.length ≤ cap) (hl : xs.length ≤ 1000000000) (h1 : ∀ u ∈ xs, u.oneCell' = true) (hk : k < xs.length) :
    Calls Try.prog 57 #[.slice (some ⟨g, off, none⟩) xs.length cap, .int .i64 k] w fun e w' => ∃ A' c', e = .returned (.tuple #[.slice A' (xs.length - 1) c', xs[k], .bool true]) ∧ w'.ownsRow w.heap.size 9 1 (.slice A' (xs.length - 1) c') (xs.length - 1) (xs.take k ++ xs.drop (k + 1)) ∧ Keeps (fun _ => False) w w' := by
  have HX := Lib.hid hx
  have H1 := Lib.hid h1
  have hcell : Hid (w.cell? ⟨g, off + k, none⟩ = some xs[k] ∧ g < w.heap.size) := Lib.hid (by
    obtain ⟨g', off', hA, hg, hcc⟩ := hx k xs[k] (List.getElem?_eq_getElem hk)
    injection hA with hA
    injection hA with hA hB
    subst hA hB
    exact ⟨hcc, hg⟩)
  have hone := h1 _ (List.getElem_mem hk)
  have HH : Hid (Lies w w.heap.size (some ⟨g, off, none⟩) (xs.take k)) := Lib.hid (hx.head k)
  obtain ⟨TA, hTA, HT⟩ : ∃ TA, (if cap = k + 1 then some (⟨g, off, none⟩ : Addr) else some ⟨g, off + (k + 1), none⟩) = some TA ∧ Hid (Lies w w.heap.size (some TA) (xs.drop (k + 1))) := by
    have h := hx.tail (k := k + 1) (c := cap) hc
    unfold tailA at h
    by_cases hci : cap = k + 1
    · rw [if_pos hci] at h ⊢; exact ⟨_, rfl, Lib.hid h⟩
    · rw [if_neg hci] at h ⊢
      refine ⟨_, rfl, Lib.hid ?_⟩
      simpa [Addr.add] using h
  have x0 : k ≤ cap := by omega
  have x1 : IntKind.i64.wrap ((k : Int) + 1) = (k : Int) + 1 := by rw [IntKind.wrap_i64]; omega
  have x2 : (0 : Int) ≤ (k : Int) + 1 := by omega
  have x3 : (k : Int) + 1 ≤ (xs.length : Int) := by omega
  have x4 : ((k : Int) + 1).toNat = k + 1 := by omega
  have HF : ∀ w', Keeps (fun _ => False) w w' → w'.cell? ⟨g, off + k, none⟩ = some xs[k] := fun w' hk' => (hk'.cell hcell.out.2 id).trans hcell.out.1
  clear hx h1
  generalize xs[k] = xk at *
  go_enter Try.func57, Try.ntmps57
  go_wp2_with fail
  refine wp_region_held_drew (S := fun w' => Keeps (fun _ => False) w w') (by kernel_rfl) ((Keeps.refl _ w).drew) ?_
  intro hSn
  refine wpAnyH_take (i := 0) (v := ?v1) rfl (by kernel_rfl) (by kernel_rfl) (by kernel_rfl) (fun _ _ _ h => by first | exact h | exact absurd h.1 (fun e => by cases e)) (Or.inl ⟨by rfl, ?hy1⟩) (by assumption) ?rest1
  case hy1 =>
    intro w hSw
    have c0 := HF w hSw
    go_simp
    try with_reducible rfl
  go_simp
  refine wpAnyH_take (i := 1) (v := ?v2) rfl (by kernel_rfl) (by kernel_rfl) (by kernel_rfl) (fun _ _ _ h => by first | exact h | exact absurd h.1 (fun e => by cases e)) (Or.inl ⟨by rfl, ?hy2⟩) (by assumption) ?rest2
  case hy2 =>
    intro w hSw
    have c0 := HF w hSw
    go_simp
    try with_reducible rfl
  go_simp
  refine wpAnyH_take (i := 2) (v := ?v3) rfl (by kernel_rfl) (by kernel_rfl) (by kernel_rfl) (fun _ _ _ h => by first | exact h | exact absurd h.1 (fun e => by cases e)) (Or.inl ⟨by rfl, ?hy3⟩) (by assumption) ?rest3
  case hy3 =>
    intro w hSw
    have c0 := HF w hSw
    go_simp
    try with_reducible rfl
  go_simp
  refine wpAnyH_take (i := 3) (v := ?v4) rfl (by kernel_rfl) (by kernel_rfl) (by kernel_rfl) (fun _ _ _ h => by first | exact h | exact absurd h.1 (fun e => by cases e)) (Or.inl ⟨by rfl, ?hy4⟩) (by assumption) ?rest4
  case hy4 =>
    intro w hSw
    have c0 := HF w hSw
    go_simp
    try with_reducible rfl
  go_simp
  refine wpAnyH_take (i := 4) (v := ?v5) rfl (by kernel_rfl) (by kernel_rfl) (by kernel_rfl) (fun _ _ _ h => by first | exact h | exact absurd h.1 (fun e => by cases e)) (Or.inl ⟨by rfl, ?hy5⟩) (by assumption) ?rest5
  case hy5 =>
    intro w hSw
    have c0 := HF w hSw
    go_simp
    try with_reducible rfl
  go_simp
  refine wpAnyH_take (i := 5) (v := ?v6) rfl (by kernel_rfl) (by kernel_rfl) (by kernel_rfl) (fun _ _ _ h => by first | exact h | exact absurd h.1 (fun e => by cases e)) (Or.inl ⟨by rfl, ?hy6⟩) (by assumption) ?rest6
  case hy6 =>
    intro w hSw
    have c0 := HF w hSw
    go_simp
    try with_reducible rfl
  go_simp
  refine wpAnyH_take (i := 6) (v := ?v7) rfl (by kernel_rfl) (by kernel_rfl) (by kernel_rfl) (fun _ _ _ h => by first | exact h | exact absurd h.1 (fun e => by cases e)) (Or.inl ⟨by rfl, ?hy7⟩) (by assumption) ?rest7
  case hy7 =>
    intro w hSw
    have c0 := HF w hSw
    go_simp
    try with_reducible rfl
  go_simp
  refine wpAnyH_take (i := 9) (v := ?v8) rfl (by kernel_rfl) (by kernel_rfl) (by kernel_rfl) (fun _ _ _ h => by first | exact h | exact absurd h.1 (fun e => by cases e)) (Or.inl ⟨by rfl, ?hy8⟩) (by assumption) ?rest8
  case hy8 =>
    intro w hSw
    have c0 := HF w hSw
    go_simp
    try with_reducible rfl
  go_simp
  refine wpAnyH_take (i := 10) (v := ?v9) rfl (by kernel_rfl) (by kernel_rfl) (by kernel_rfl) (fun _ _ _ h => by first | exact h | exact absurd h.1 (fun e => by cases e)) (Or.inl ⟨by rfl, ?hy9⟩) (by assumption) ?rest9
  case hy9 =>
    intro w hSw
    have c0 := HF w hSw
    go_simp
    try with_reducible rfl
  go_simp
  refine wpAnyH_take (i := 11) (v := ?v10) rfl (by kernel_rfl) (by kernel_rfl) (by kernel_rfl) (fun _ _ _ h => by first | exact h | exact absurd h.1 (fun e => by cases e)) (Or.inl ⟨by rfl, ?hy10⟩) (by assumption) ?rest10
  case hy10 =>
    intro w hSw
    have c0 := HF w hSw
    go_simp
    try with_reducible rfl
  go_simp
  refine wpAnyH_take (i := 12) (v := ?v11) rfl (by kernel_rfl) (by kernel_rfl) (by kernel_rfl) (fun _ _ _ h => by first | exact h | exact absurd h.1 (fun e => by cases e)) (Or.inl ⟨by rfl, ?hy11⟩) (by assumption) ?rest11
  case hy11 =>
    intro w hSw
    have c0 := HF w hSw
    go_simp
    try with_reducible rfl
  go_simp
  have HP : Hid (PartsLie (w.drew.alloc (.cells #[.slice (some ⟨g, off, none⟩) k cap, .slice (some TA) (xs.length - (k + 1)) (cap - (k + 1))] 103)) w.heap.size (some ⟨w.heap.size, 0, none⟩) 1 [(k, xs.take k), (xs.length - (k + 1), xs.drop (k + 1))] → True) := Lib.hid (fun _ => trivial)
  clear HP
  have ka : Keeps (fun _ => False) w (w.drew.alloc (.cells #[.slice (some ⟨g, off, none⟩) k cap, .slice (some TA) (xs.length - (k + 1)) (cap - (k + 1))] 103)) := (Keeps.refl _ w).drew.alloc _
  have hsz : (w.drew.alloc (.cells #[.slice (some ⟨g, off, none⟩) k cap, .slice (some TA) (xs.length - (k + 1)) (cap - (k + 1))] 103)).heap.size = w.heap.size + 1 := by simp
  have HP : Hid (PartsLie (w.drew.alloc (.cells #[.slice (some ⟨g, off, none⟩) k cap, .slice (some TA) (xs.length - (k + 1)) (cap - (k + 1))] 103)) (w.heap.size + 1) (some ⟨w.heap.size, 0, none⟩) 1 [(k, xs.take k), (xs.length - (k + 1), xs.drop (k + 1))]) := Lib.hid (fun i p hi => by
    have hW := Whole.made w.drew 103 #[.slice (some ⟨g, off, none⟩) k cap, .slice (some TA) (xs.length - (k + 1)) (cap - (k + 1))]
    match i, hi with
    | 0, hi => obtain rfl := Option.some.inj hi; exact ⟨w.heap.size, 0, _, _, rfl, Nat.lt_succ_self _, hW.cellAt 0, by simp; omega, (HH.out.keep fun b o hb => ka.cell hb id).more (by omega)⟩
    | 1, hi => obtain rfl := Option.some.inj hi; exact ⟨w.heap.size, 0, _, _, rfl, Nat.lt_succ_self _, hW.cellAt 1, by simp, (HT.out.keep fun b o hb => ka.cell hb id).more (by omega)⟩)
  have KA := Lib.hid ka
  have HSZ := Lib.hid hsz
  clear ka hsz
  refine wpAnyH_ready (rs := [7]) (by kernel_rfl) (by simp) ?_
  refine AllReadyH.cons rfl (fun K hK => ?_) AllReadyH.nil
  go_simp
  refine hK.out _ _ (KA.out) (fun hSn => ?_)
  clear hK K
  go_simp
  refine wpAnyH_ready (rs := [8]) (by kernel_rfl) (by simp) ?_
  refine AllReadyH.cons rfl (fun K hK => ?_) AllReadyH.nil
  go_simp
  refine (concatT_any [(k, xs.take k), (xs.length - (k + 1), xs.drop (k + 1))] _ (w.heap.size + 1) _ _ HP.out (Nat.le_of_eq HSZ.out.symm) (by simp) (by simp [sizes]; omega) ?h1).mono ?_
  case h1 =>
    intro p hp u hu
    simp only [List.mem_cons, List.not_mem_nil, or_false] at hp
    rcases hp with rfl | rfl
    · exact H1.out u (List.mem_of_mem_take hu)
    · exact H1.out u (List.mem_of_mem_drop hu)
  rintro e w5 ⟨A', c', rfl, ho, k5⟩
  have hs1 : sizes [(k, xs.take k), (xs.length - (k + 1), xs.drop (k + 1))] = xs.length - 1 := by simp [sizes]; omega
  have hs2 : cellsOfParts [(k, xs.take k), (xs.length - (k + 1), xs.drop (k + 1))] = xs.take k ++ xs.drop (k + 1) := by simp [cellsOfParts]
  rw [hs1, hs2] at ho
  rw [hs1]
  have HO := Lib.hid ho
  have K5 := Lib.hid (KA.out.trans k5)
  clear ho k5 hs1 hs2 HP
  refine hK.out _ _ (K5.out) (fun hSn => ?_)
  clear hK K
  go_simp
  refine wpAnyH_take (i := 13) (v := ?v12) rfl (by kernel_rfl) (by kernel_rfl) (by kernel_rfl) (fun _ _ _ h => by first | exact h | exact absurd h.1 (fun e => by cases e)) (Or.inl ⟨by rfl, ?hy12⟩) (by assumption) ?rest12
  case hy12 =>
    intro w hSw
    have c0 := HF w hSw
    go_simp
    try with_reducible rfl
  go_simp
  refine wpAnyH_take (i := 14) (v := ?v13) rfl (by kernel_rfl) (by kernel_rfl) (by kernel_rfl) (fun _ _ _ h => by first | exact h | exact absurd h.1 (fun e => by cases e)) (Or.inl ⟨by rfl, ?hy13⟩) (by assumption) ?rest13
  case hy13 =>
    intro w hSw
    have c0 := HF w hSw
    go_simp
    try with_reducible rfl
  go_simp
  refine wpAnyH_take (i := 15) (v := ?v14) rfl (by kernel_rfl) (by kernel_rfl) (by kernel_rfl) (fun _ _ _ h => by first | exact h | exact absurd h.1 (fun e => by cases e)) (Or.inl ⟨by rfl, ?hy14⟩) (by assumption) ?rest14
  case hy14 =>
    intro w hSw
    have c0 := HF w hSw
    go_simp
    try with_reducible rfl
  go_simp
  refine wpAnyH_done (by kernel_rfl) ?_ _
  go_simp
  go_wp2_with fail
  go_ret3
  exact ⟨A', c', rfl, HO.out.mono (by rw [HSZ.out]; omega), K5.out⟩
theorem cutT_out (A : Option Addr) (n cap : Nat) (at_ : Int) (w : World) (h : at_ < 0 ∨ (n : Int) ≤ at_) :
    Calls Try.prog 57 #[.slice A n cap, .int .i64 at_] w fun e w' => e = .returned (.tuple #[.slice none 0 0, (.string ⟨#[]⟩), .bool false]) ∧ w' = w := by
  by_cases h0 : at_ < 0
  · clear h
    go_enter Try.func57, Try.ntmps57
    go_wp2_with fail
    go_ret3
    exact ⟨rfl, rfl⟩
  · have h2 : (n : Int) ≤ at_ := by omega
    clear h
    go_enter Try.func57, Try.ntmps57
    go_wp2_with fail
    go_ret3
    exact ⟨rfl, rfl⟩
end Go.Proofs.Ytbfhbekocgdceaa
