/-
  rows.Cut and rows.Put, of pairs: the walks. Conditions: lengths within 10 ^ 9.
-/
import Derived.Test.YtbfhbekocgdceaaPrA
import Derived.Test.YtbfhbekocgdceaaCuI
namespace Go.Proofs.Ytbfhbekocgdceaa
open Go.RowKit
set_option maxRecDepth 100000 in
set_option maxHeartbeats 1000000 in
theorem putP_out (A : Option Addr) (n cap : Nat) (at_ : Int) (x : Int × ByteArray) (w : World) (h : at_ < 0 ∨ (n : Int) < at_) :
    Calls Try.prog 53 #[.slice A n cap, .int .i64 at_, .agg #[.int .i8 x.1, .string x.2]] w fun e w' => e = .returned (.tuple #[.slice none 0 0, .bool false]) ∧ Keeps (fun _ => False) w w' := by
  by_cases h0 : at_ < 0
  · clear h
    go_enter Try.func53, Try.ntmps53
    go_wp2_with fail
    go_ret2
    exact ⟨rfl, (Keeps.refl _ _).alloc _⟩
  · have h2 : (n : Int) < at_ := by omega
    clear h
    go_enter Try.func53, Try.ntmps53
    go_wp2_with fail
    go_ret2
    exact ⟨rfl, (Keeps.refl _ _).alloc _⟩
set_option maxRecDepth 100000 in
set_option maxHeartbeats 2000000 in
theorem putP_nil (x : Int × ByteArray) (w : World) :
    Calls Try.prog 53 #[.slice none 0 0, .int .i64 0, .agg #[.int .i8 x.1, .string x.2]] w fun e w' => ∃ A' c', e = .returned (.tuple #[.slice A' 1 c', .bool true]) ∧ w'.ownsRow w.heap.size 49 2 (.slice A' 1 c') 1 (flat prC [x]) ∧ Keeps (fun _ => False) w w' := by
  go_enter Try.func53, Try.ntmps53
  go_wp2_with fail
  obtain ⟨w1, hw1⟩ : ∃ z, z = w.alloc (.cells #[.int .i8 x.1, .string x.2] 49) := ⟨_, rfl⟩
  have KX : Hid (Keeps (fun _ => False) w w1) := Lib.hid (by rw [hw1]; exact (Keeps.refl _ _).alloc _)
  have WX : Whole w1 w.heap.size 49 #[.int .i8 x.1, .string x.2] := by rw [hw1]; exact Whole.made _ _ _
  rw [← hw1]
  clear hw1
  obtain ⟨xb, hxb⟩ : ∃ z, z = w.heap.size := ⟨_, rfl⟩
  rw [← hxb] at WX ⊢
  clear hxb
  have HF : ∀ W, Keeps (fun _ => False) w1 W → W.cell? ⟨xb, 0, none⟩ = some (.int .i8 x.1) ∧ W.cell? ⟨xb, 1, none⟩ = some (.string x.2) := fun W hk => ⟨(WX.keeps hk id).cellAt 0, (WX.keeps hk id).cellAt 1⟩
  clear WX
  refine wp_region_held_drew (S := fun w' => Keeps (fun _ => False) w1 w') (by kernel_rfl) ((Keeps.refl _ w1).drew) ?_
  intro hSn
  refine wpAnyH_take (i := 0) (v := ?v1) rfl (by kernel_rfl) (by kernel_rfl) (by kernel_rfl) (fun _ _ _ h => by first | exact h | exact absurd h.1 (fun e => by cases e)) (Or.inl ⟨by rfl, ?hy1⟩) (by assumption) ?rest1
  case hy1 =>
    intro w hSw
    obtain ⟨x0, x1⟩ := HF w hSw
    go_simp
    try with_reducible rfl
  go_simp
  refine wpAnyH_take (i := 1) (v := ?v2) rfl (by kernel_rfl) (by kernel_rfl) (by kernel_rfl) (fun _ _ _ h => by first | exact h | exact absurd h.1 (fun e => by cases e)) (Or.inl ⟨by rfl, ?hy2⟩) (by assumption) ?rest2
  case hy2 =>
    intro w hSw
    obtain ⟨x0, x1⟩ := HF w hSw
    go_simp
    try with_reducible rfl
  go_simp
  refine wpAnyH_take (i := 2) (v := ?v3) rfl (by kernel_rfl) (by kernel_rfl) (by kernel_rfl) (fun _ _ _ h => by first | exact h | exact absurd h.1 (fun e => by cases e)) (Or.inl ⟨by rfl, ?hy3⟩) (by assumption) ?rest3
  case hy3 =>
    intro w hSw
    obtain ⟨x0, x1⟩ := HF w hSw
    go_simp
    try with_reducible rfl
  go_simp
  refine wpAnyH_take (i := 3) (v := ?v4) rfl (by kernel_rfl) (by kernel_rfl) (by kernel_rfl) (fun _ _ _ h => by first | exact h | exact absurd h.1 (fun e => by cases e)) (Or.inl ⟨by rfl, ?hy4⟩) (by assumption) ?rest4
  case hy4 =>
    intro w hSw
    obtain ⟨x0, x1⟩ := HF w hSw
    go_simp
    try with_reducible rfl
  go_simp
  refine wpAnyH_take (i := 5) (v := ?v5) rfl (by kernel_rfl) (by kernel_rfl) (by kernel_rfl) (fun _ _ _ h => by first | exact h | exact absurd h.1 (fun e => by cases e)) (Or.inl ⟨by rfl, ?hy5⟩) (by assumption) ?rest5
  case hy5 =>
    intro w hSw
    obtain ⟨x0, x1⟩ := HF w hSw
    go_simp
    try with_reducible rfl
  go_simp
  refine wpAnyH_take (i := 6) (v := ?v6) rfl (by kernel_rfl) (by kernel_rfl) (by kernel_rfl) (fun _ _ _ h => by first | exact h | exact absurd h.1 (fun e => by cases e)) (Or.inl ⟨by rfl, ?hy6⟩) (by assumption) ?rest6
  case hy6 =>
    intro w hSw
    obtain ⟨x0, x1⟩ := HF w hSw
    go_simp
    try with_reducible rfl
  go_simp
  refine wpAnyH_take (i := 7) (v := ?v7) rfl (by kernel_rfl) (by kernel_rfl) (by kernel_rfl) (fun _ _ _ h => by first | exact h | exact absurd h.1 (fun e => by cases e)) (Or.inl ⟨by rfl, ?hy7⟩) (by assumption) ?rest7
  case hy7 =>
    intro w hSw
    obtain ⟨x0, x1⟩ := HF w hSw
    go_simp
    try with_reducible rfl
  go_simp
  have k0 : Keeps (fun _ => False) w1 (w1.drew.alloc (.cells #[.int .i8 x.1, .string x.2] 49)) := (Keeps.refl _ w1).drew.alloc _
  have ka : Keeps (fun _ => False) w1 ((w1.drew.alloc (.cells #[.int .i8 x.1, .string x.2] 49)).alloc (.cells #[.slice none 0 0, .slice (some ⟨w1.heap.size, 0, none⟩) 1 1, .slice none 0 0] 43)) := k0.alloc _
  have hs0 : (w1.drew.alloc (.cells #[.int .i8 x.1, .string x.2] 49)).heap.size = w1.heap.size + 1 := by simp
  have hsz : ((w1.drew.alloc (.cells #[.int .i8 x.1, .string x.2] 49)).alloc (.cells #[.slice none 0 0, .slice (some ⟨w1.heap.size, 0, none⟩) 1 1, .slice none 0 0] 43)).heap.size = w1.heap.size + 2 := by simp
  have HP : Hid (PartsLie ((w1.drew.alloc (.cells #[.int .i8 x.1, .string x.2] 49)).alloc (.cells #[.slice none 0 0, .slice (some ⟨w1.heap.size, 0, none⟩) 1 1, .slice none 0 0] 43)) (w1.heap.size + 2) (some ⟨w1.heap.size + 1, 0, none⟩) 2 [(0, flat prC ([] : List (Int × ByteArray))), (1, [.int .i8 x.1, .string x.2]), (0, flat prC ([] : List (Int × ByteArray)))]) := Lib.hid (fun i p hi => by
    have hX := (Whole.made w1.drew 49 #[.int .i8 x.1, .string x.2]).alloc (.cells #[.slice none 0 0, .slice (some ⟨w1.heap.size, 0, none⟩) 1 1, .slice none 0 0] 43)
    have hW := Whole.made (w1.drew.alloc (.cells #[.int .i8 x.1, .string x.2] 49)) 43 #[.slice none 0 0, .slice (some ⟨w1.heap.size, 0, none⟩) 1 1, .slice none 0 0]
    rw [hs0] at hW
    match i, hi with
    | 0, hi => obtain rfl := Option.some.inj hi; exact ⟨w1.heap.size + 1, 0, _, _, rfl, Nat.lt_succ_self _, hW.cellAt 0, rfl, Lies.nil⟩
    | 1, hi => obtain rfl := Option.some.inj hi; exact ⟨w1.heap.size + 1, 0, _, _, rfl, Nat.lt_succ_self _, hW.cellAt 1, by simp, Lies.row (fr := (0, 0)) hX (show w1.heap.size < w1.heap.size + 2 by omega)⟩
    | 2, hi => obtain rfl := Option.some.inj hi; exact ⟨w1.heap.size + 1, 0, _, _, rfl, Nat.lt_succ_self _, hW.cellAt 2, rfl, Lies.nil⟩)
  have K0 := Lib.hid k0
  have KA := Lib.hid ka
  have HSZ := Lib.hid hsz
  clear ka hsz k0 hs0
  refine wpAnyH_ready (rs := [4]) (by kernel_rfl) (by simp) ?_
  refine AllReadyH.cons rfl (fun K hK => ?_) AllReadyH.nil
  go_simp
  refine hK.out _ _ (K0.out) (fun hSn => ?_)
  clear hK K
  go_simp
  refine wpAnyH_ready (rs := [8]) (by kernel_rfl) (by simp) ?_
  refine AllReadyH.cons rfl (fun K hK => ?_) AllReadyH.nil
  go_simp
  refine hK.out _ _ (KA.out) (fun hSn => ?_)
  clear hK K
  go_simp
  refine wpAnyH_ready (rs := [9]) (by kernel_rfl) (by simp) ?_
  refine AllReadyH.cons rfl (fun K hK => ?_) AllReadyH.nil
  go_simp
  refine (concatP_any [(0, flat prC ([] : List (Int × ByteArray))), (1, [.int .i8 x.1, .string x.2]), (0, flat prC ([] : List (Int × ByteArray)))] _ (w1.heap.size + 2) _ _ HP.out (Nat.le_of_eq HSZ.out.symm) (by simp) (by simp [sizes]) ?h1).mono ?_
  case h1 =>
    intro p hp u hu
    simp only [List.mem_cons, List.not_mem_nil, or_false] at hp
    rcases hp with rfl | rfl | rfl
    · exact one_pairs _ u hu
    · simp at hu; rcases hu with rfl | rfl <;> rfl
    · exact one_pairs _ u hu
  rintro e w5 ⟨A', c', rfl, ho, k5⟩
  have hs1 : sizes [(0, flat prC ([] : List (Int × ByteArray))), (1, [.int .i8 x.1, .string x.2]), (0, flat prC ([] : List (Int × ByteArray)))] = 1 := by simp [sizes]
  have hs2 : cellsOfParts [(0, flat prC ([] : List (Int × ByteArray))), (1, [.int .i8 x.1, .string x.2]), (0, flat prC ([] : List (Int × ByteArray)))] = flat prC [x] := by simp [cellsOfParts, flat, prC]
  rw [hs1, hs2] at ho
  rw [hs1]
  have HO := Lib.hid ho
  have K5 := Lib.hid (KA.out.trans k5)
  clear ho k5 hs1 hs2 HP
  refine hK.out _ _ (K5.out) (fun hSn => ?_)
  clear hK K
  go_simp
  refine wpAnyH_take (i := 10) (v := ?v8) rfl (by kernel_rfl) (by kernel_rfl) (by kernel_rfl) (fun _ _ _ h => by first | exact h | exact absurd h.1 (fun e => by cases e)) (Or.inl ⟨by rfl, ?hy8⟩) (by assumption) ?rest8
  case hy8 =>
    intro w hSw
    obtain ⟨x0, x1⟩ := HF w hSw
    go_simp
    try with_reducible rfl
  go_simp
  refine wpAnyH_take (i := 11) (v := ?v9) rfl (by kernel_rfl) (by kernel_rfl) (by kernel_rfl) (fun _ _ _ h => by first | exact h | exact absurd h.1 (fun e => by cases e)) (Or.inl ⟨by rfl, ?hy9⟩) (by assumption) ?rest9
  case hy9 =>
    intro w hSw
    obtain ⟨x0, x1⟩ := HF w hSw
    go_simp
    try with_reducible rfl
  go_simp
  refine wpAnyH_done (by kernel_rfl) ?_ _
  go_simp
  go_wp2_with fail
  go_ret2
  exact ⟨A', c', rfl, HO.out.mono (by rw [HSZ.out]; have := KX.out.size; omega), KX.out.trans K5.out⟩
set_option maxRecDepth 100000 in
set_option maxHeartbeats 2000000 in
theorem putP_in (l : List (Int × ByteArray)) (x : Int × ByteArray) (g off cap k : Nat) (w : World) (hx : Lies w w.heap.size (some ⟨g, off, none⟩) (flat prC l)) (hc : l.length ≤ cap) (hl : l.length ≤ 400000000) (hk : k ≤ l.length) :
    Calls Try.prog 53 #[.slice (some ⟨g, off, none⟩) l.length cap, .int .i64 k, .agg #[.int .i8 x.1, .string x.2]] w fun e w' => ∃ A' c', e = .returned (.tuple #[.slice A' (l.length + 1) c', .bool true]) ∧ w'.ownsRow w.heap.size 49 2 (.slice A' (l.length + 1) c') (l.length + 1) (flat prC (l.take k ++ x :: l.drop k)) ∧ Keeps (fun _ => False) w w' := by
  have HH0 : Hid (Lies w w.heap.size (some ⟨g, off, none⟩) (flat prC (l.take k))) := Lib.hid (by rw [flat_take prC_length]; exact hx.head _)
  obtain ⟨TA, hTA, HT0⟩ : ∃ TA, (if cap = k then some (⟨g, off, none⟩ : Addr) else some ⟨g, off + (k) * 2, none⟩) = some TA ∧ Hid (Lies w w.heap.size (some TA) (flat prC (l.drop (k)))) := by
    by_cases hci : cap = k
    · rw [if_pos hci]
      exact ⟨_, rfl, Lib.hid (by rw [List.drop_of_length_le (by omega)]; exact Lies.nil)⟩
    · rw [if_neg hci]
      refine ⟨_, rfl, Lib.hid (fun i u hu => ?_)⟩
      rw [flat_drop prC_length, List.getElem?_drop] at hu
      obtain ⟨g', off', e, hg, hcc⟩ := hx _ u hu
      obtain ⟨rfl, rfl⟩ : g = g' ∧ off = off' := by injection e with e; injection e with e1 e2; exact ⟨e1, e2⟩
      exact ⟨g, off + (k) * 2, rfl, hg, by rw [← hcc]; congr 2; omega⟩
  have x0 : k ≤ cap := by omega
  clear hx
  go_enter Try.func53, Try.ntmps53
  go_wp2_with fail
  obtain ⟨w1, hw1⟩ : ∃ z, z = w.alloc (.cells #[.int .i8 x.1, .string x.2] 49) := ⟨_, rfl⟩
  have KX : Hid (Keeps (fun _ => False) w w1) := Lib.hid (by rw [hw1]; exact (Keeps.refl _ _).alloc _)
  have WX : Whole w1 w.heap.size 49 #[.int .i8 x.1, .string x.2] := by rw [hw1]; exact Whole.made _ _ _
  rw [← hw1]
  clear hw1
  obtain ⟨xb, hxb⟩ : ∃ z, z = w.heap.size := ⟨_, rfl⟩
  rw [← hxb] at WX ⊢
  clear hxb
  have HF : ∀ W, Keeps (fun _ => False) w1 W → W.cell? ⟨xb, 0, none⟩ = some (.int .i8 x.1) ∧ W.cell? ⟨xb, 1, none⟩ = some (.string x.2) := fun W hk => ⟨(WX.keeps hk id).cellAt 0, (WX.keeps hk id).cellAt 1⟩
  clear WX
  have HH : Hid (Lies w1 w1.heap.size (some ⟨g, off, none⟩) (flat prC (l.take k))) := Lib.hid ((HH0.out.keep (fun b o h => KX.out.cell h id)).more KX.out.size)
  have HT : Hid (Lies w1 w1.heap.size (some TA) (flat prC (l.drop k))) := Lib.hid ((HT0.out.keep (fun b o h => KX.out.cell h id)).more KX.out.size)
  clear HH0 HT0
  refine wp_region_held_drew (S := fun w' => Keeps (fun _ => False) w1 w') (by kernel_rfl) ((Keeps.refl _ w1).drew) ?_
  intro hSn
  refine wpAnyH_take (i := 0) (v := ?v10) rfl (by kernel_rfl) (by kernel_rfl) (by kernel_rfl) (fun _ _ _ h => by first | exact h | exact absurd h.1 (fun e => by cases e)) (Or.inl ⟨by rfl, ?hy10⟩) (by assumption) ?rest10
  case hy10 =>
    intro w hSw
    obtain ⟨x0, x1⟩ := HF w hSw
    go_simp
    try with_reducible rfl
  go_simp
  refine wpAnyH_take (i := 1) (v := ?v11) rfl (by kernel_rfl) (by kernel_rfl) (by kernel_rfl) (fun _ _ _ h => by first | exact h | exact absurd h.1 (fun e => by cases e)) (Or.inl ⟨by rfl, ?hy11⟩) (by assumption) ?rest11
  case hy11 =>
    intro w hSw
    obtain ⟨x0, x1⟩ := HF w hSw
    go_simp
    try with_reducible rfl
  go_simp
  refine wpAnyH_take (i := 2) (v := ?v12) rfl (by kernel_rfl) (by kernel_rfl) (by kernel_rfl) (fun _ _ _ h => by first | exact h | exact absurd h.1 (fun e => by cases e)) (Or.inl ⟨by rfl, ?hy12⟩) (by assumption) ?rest12
  case hy12 =>
    intro w hSw
    obtain ⟨x0, x1⟩ := HF w hSw
    go_simp
    try with_reducible rfl
  go_simp
  refine wpAnyH_take (i := 3) (v := ?v13) rfl (by kernel_rfl) (by kernel_rfl) (by kernel_rfl) (fun _ _ _ h => by first | exact h | exact absurd h.1 (fun e => by cases e)) (Or.inl ⟨by rfl, ?hy13⟩) (by assumption) ?rest13
  case hy13 =>
    intro w hSw
    obtain ⟨x0, x1⟩ := HF w hSw
    go_simp
    try with_reducible rfl
  go_simp
  refine wpAnyH_take (i := 5) (v := ?v14) rfl (by kernel_rfl) (by kernel_rfl) (by kernel_rfl) (fun _ _ _ h => by first | exact h | exact absurd h.1 (fun e => by cases e)) (Or.inl ⟨by rfl, ?hy14⟩) (by assumption) ?rest14
  case hy14 =>
    intro w hSw
    obtain ⟨x0, x1⟩ := HF w hSw
    go_simp
    try with_reducible rfl
  go_simp
  refine wpAnyH_take (i := 6) (v := ?v15) rfl (by kernel_rfl) (by kernel_rfl) (by kernel_rfl) (fun _ _ _ h => by first | exact h | exact absurd h.1 (fun e => by cases e)) (Or.inl ⟨by rfl, ?hy15⟩) (by assumption) ?rest15
  case hy15 =>
    intro w hSw
    obtain ⟨x0, x1⟩ := HF w hSw
    go_simp
    try with_reducible rfl
  go_simp
  refine wpAnyH_take (i := 7) (v := ?v16) rfl (by kernel_rfl) (by kernel_rfl) (by kernel_rfl) (fun _ _ _ h => by first | exact h | exact absurd h.1 (fun e => by cases e)) (Or.inl ⟨by rfl, ?hy16⟩) (by assumption) ?rest16
  case hy16 =>
    intro w hSw
    obtain ⟨x0, x1⟩ := HF w hSw
    go_simp
    try with_reducible rfl
  go_simp
  have k0 : Keeps (fun _ => False) w1 (w1.drew.alloc (.cells #[.int .i8 x.1, .string x.2] 49)) := (Keeps.refl _ w1).drew.alloc _
  have ka : Keeps (fun _ => False) w1 ((w1.drew.alloc (.cells #[.int .i8 x.1, .string x.2] 49)).alloc (.cells #[.slice (some ⟨g, off, none⟩) k cap, .slice (some ⟨w1.heap.size, 0, none⟩) 1 1, .slice (some TA) (l.length - k) (cap - k)] 43)) := k0.alloc _
  have hs0 : (w1.drew.alloc (.cells #[.int .i8 x.1, .string x.2] 49)).heap.size = w1.heap.size + 1 := by simp
  have hsz : ((w1.drew.alloc (.cells #[.int .i8 x.1, .string x.2] 49)).alloc (.cells #[.slice (some ⟨g, off, none⟩) k cap, .slice (some ⟨w1.heap.size, 0, none⟩) 1 1, .slice (some TA) (l.length - k) (cap - k)] 43)).heap.size = w1.heap.size + 2 := by simp
  have HP : Hid (PartsLie ((w1.drew.alloc (.cells #[.int .i8 x.1, .string x.2] 49)).alloc (.cells #[.slice (some ⟨g, off, none⟩) k cap, .slice (some ⟨w1.heap.size, 0, none⟩) 1 1, .slice (some TA) (l.length - k) (cap - k)] 43)) (w1.heap.size + 2) (some ⟨w1.heap.size + 1, 0, none⟩) 2 [(k, flat prC (l.take k)), (1, [.int .i8 x.1, .string x.2]), ((l.length - k), flat prC (l.drop k))]) := Lib.hid (fun i p hi => by
    have hX := (Whole.made w1.drew 49 #[.int .i8 x.1, .string x.2]).alloc (.cells #[.slice (some ⟨g, off, none⟩) k cap, .slice (some ⟨w1.heap.size, 0, none⟩) 1 1, .slice (some TA) (l.length - k) (cap - k)] 43)
    have hW := Whole.made (w1.drew.alloc (.cells #[.int .i8 x.1, .string x.2] 49)) 43 #[.slice (some ⟨g, off, none⟩) k cap, .slice (some ⟨w1.heap.size, 0, none⟩) 1 1, .slice (some TA) (l.length - k) (cap - k)]
    rw [hs0] at hW
    match i, hi with
    | 0, hi => obtain rfl := Option.some.inj hi; exact ⟨w1.heap.size + 1, 0, _, _, rfl, Nat.lt_succ_self _, hW.cellAt 0, by rw [flat_length (k := 2) prC_length]; simp; omega, (HH.out.keep fun b o hb => ka.cell hb id).more (by omega)⟩
    | 1, hi => obtain rfl := Option.some.inj hi; exact ⟨w1.heap.size + 1, 0, _, _, rfl, Nat.lt_succ_self _, hW.cellAt 1, by simp, Lies.row (fr := (0, 0)) hX (show w1.heap.size < w1.heap.size + 2 by omega)⟩
    | 2, hi => obtain rfl := Option.some.inj hi; exact ⟨w1.heap.size + 1, 0, _, _, rfl, Nat.lt_succ_self _, hW.cellAt 2, by rw [flat_length (k := 2) prC_length]; simp, (HT.out.keep fun b o hb => ka.cell hb id).more (by omega)⟩)
  have K0 := Lib.hid k0
  have KA := Lib.hid ka
  have HSZ := Lib.hid hsz
  clear ka hsz k0 hs0
  refine wpAnyH_ready (rs := [4]) (by kernel_rfl) (by simp) ?_
  refine AllReadyH.cons rfl (fun K hK => ?_) AllReadyH.nil
  go_simp
  refine hK.out _ _ (K0.out) (fun hSn => ?_)
  clear hK K
  go_simp
  refine wpAnyH_ready (rs := [8]) (by kernel_rfl) (by simp) ?_
  refine AllReadyH.cons rfl (fun K hK => ?_) AllReadyH.nil
  go_simp
  refine hK.out _ _ (KA.out) (fun hSn => ?_)
  clear hK K
  go_simp
  refine wpAnyH_ready (rs := [9]) (by kernel_rfl) (by simp) ?_
  refine AllReadyH.cons rfl (fun K hK => ?_) AllReadyH.nil
  go_simp
  refine (concatP_any [(k, flat prC (l.take k)), (1, [.int .i8 x.1, .string x.2]), ((l.length - k), flat prC (l.drop k))] _ (w1.heap.size + 2) _ _ HP.out (Nat.le_of_eq HSZ.out.symm) (by simp) (by simp [sizes]; omega) ?h1).mono ?_
  case h1 =>
    intro p hp u hu
    simp only [List.mem_cons, List.not_mem_nil, or_false] at hp
    rcases hp with rfl | rfl | rfl
    · exact one_pairs _ u hu
    · simp at hu; rcases hu with rfl | rfl <;> rfl
    · exact one_pairs _ u hu
  rintro e w5 ⟨A', c', rfl, ho, k5⟩
  have hs1 : sizes [(k, flat prC (l.take k)), (1, [.int .i8 x.1, .string x.2]), ((l.length - k), flat prC (l.drop k))] = l.length + 1 := by simp [sizes]; omega
  have hs2 : cellsOfParts [(k, flat prC (l.take k)), (1, [.int .i8 x.1, .string x.2]), ((l.length - k), flat prC (l.drop k))] = flat prC (l.take k ++ x :: l.drop k) := by simp [cellsOfParts, flat, prC]
  rw [hs1, hs2] at ho
  rw [hs1]
  have HO := Lib.hid ho
  have K5 := Lib.hid (KA.out.trans k5)
  clear ho k5 hs1 hs2 HP
  refine hK.out _ _ (K5.out) (fun hSn => ?_)
  clear hK K
  go_simp
  refine wpAnyH_take (i := 10) (v := ?v17) rfl (by kernel_rfl) (by kernel_rfl) (by kernel_rfl) (fun _ _ _ h => by first | exact h | exact absurd h.1 (fun e => by cases e)) (Or.inl ⟨by rfl, ?hy17⟩) (by assumption) ?rest17
  case hy17 =>
    intro w hSw
    obtain ⟨x0, x1⟩ := HF w hSw
    go_simp
    try with_reducible rfl
  go_simp
  refine wpAnyH_take (i := 11) (v := ?v18) rfl (by kernel_rfl) (by kernel_rfl) (by kernel_rfl) (fun _ _ _ h => by first | exact h | exact absurd h.1 (fun e => by cases e)) (Or.inl ⟨by rfl, ?hy18⟩) (by assumption) ?rest18
  case hy18 =>
    intro w hSw
    obtain ⟨x0, x1⟩ := HF w hSw
    go_simp
    try with_reducible rfl
  go_simp
  refine wpAnyH_done (by kernel_rfl) ?_ _
  go_simp
  go_wp2_with fail
  go_ret2
  exact ⟨A', c', rfl, HO.out.mono (by rw [HSZ.out]; have := KX.out.size; omega), KX.out.trans K5.out⟩
set_option maxRecDepth 100000 in
set_option maxHeartbeats 2000000 in
theorem cutP_out (A : Option Addr) (n cap : Nat) (at_ : Int) (w : World) (h : at_ < 0 ∨ (n : Int) ≤ at_) :
    Calls Try.prog 54 #[.slice A n cap, .int .i64 at_] w fun e w' => e = .returned (.tuple #[.slice none 0 0, .agg #[.int .i8 0, .string ⟨#[]⟩], .bool false]) ∧ Keeps (fun _ => False) w w' := by
  by_cases h0 : at_ < 0
  · clear h
    go_enter Try.func54, Try.ntmps54
    go_wp2_with fail
    obtain ⟨w1, hw1⟩ : ∃ z, z = (w.alloc (.cells #[.int .i8 0, .string ⟨#[]⟩] 49)).alloc (.cells #[.int .i8 0, .string ⟨#[]⟩] 49) := ⟨_, rfl⟩
    have KX : Hid (Keeps (fun _ => False) w w1) := Lib.hid (by rw [hw1]; exact ((Keeps.refl _ _).alloc _).alloc _)
    have WR0 : Whole w1 w.heap.size 49 #[.int .i8 0, .string ⟨#[]⟩] := by rw [hw1]; exact (Whole.made _ _ _).alloc _
    have WZ0 : Whole w1 (w.heap.size + 1) 49 #[.int .i8 0, .string ⟨#[]⟩] := by rw [hw1]; have := Whole.made (w.alloc (.cells #[.int .i8 0, .string ⟨#[]⟩] 49)) 49 #[.int .i8 0, .string ⟨#[]⟩]; simpa using this
    rw [← hw1]
    clear hw1
    obtain ⟨rb, hrb⟩ : ∃ z, z = w.heap.size := ⟨_, rfl⟩
    rw [← hrb] at WR0 WZ0 ⊢
    have HRB := Lib.hid hrb
    have WR := Lib.hid WR0
    have WZ := Lib.hid WZ0
    have hrb1 : rb < w1.heap.size := WR0.inside
    clear WR0 WZ0
    clear hrb
    have HZ : ∀ W, Keeps (fun b => b = rb) w1 W → W.cell? ⟨rb + 1, 0, none⟩ = some (.int .i8 0) ∧ W.cell? ⟨rb + 1, 1, none⟩ = some (.string ⟨#[]⟩) := fun W hk => ⟨(WZ.out.keeps hk (by omega)).cellAt 0, (WZ.out.keeps hk (by omega)).cellAt 1⟩
    have HR : Hid (w1.cell? ⟨rb, 0, none⟩ = some (.int .i8 0) ∧ w1.cell? ⟨rb, 1, none⟩ = some (.string ⟨#[]⟩) ∧ w1.frozen? ⟨rb, 0, none⟩ = false ∧ w1.frozen? ⟨rb, 1, none⟩ = false) := Lib.hid ⟨WR.out.cellAt 0, WR.out.cellAt 1, WR.out.free 0, WR.out.free 1⟩
    refine wp_region_held_drew (S := fun W => Keeps (fun b => b = rb) w1 W) (by kernel_rfl) ((Keeps.refl _ w1).drew) ?_
    intro hSn
    refine wpAnyH_take (i := 0) (v := ?v19) rfl (by kernel_rfl) (by kernel_rfl) (by kernel_rfl) (fun _ _ _ h => by first | exact h | exact absurd h.1 (fun e => by cases e)) (Or.inl ⟨by rfl, ?hy19⟩) (by assumption) ?rest19
    case hy19 =>
      intro w hSw
      obtain ⟨z0, z1⟩ := HZ w hSw
      go_simp
      try with_reducible rfl
    go_simp
    refine wpAnyH_take (i := 1) (v := ?v20) rfl (by kernel_rfl) (by kernel_rfl) (by kernel_rfl) (fun _ _ _ h => by first | exact h | exact absurd h.1 (fun e => by cases e)) (Or.inl ⟨by rfl, ?hy20⟩) (by assumption) ?rest20
    case hy20 =>
      intro w hSw
      obtain ⟨z0, z1⟩ := HZ w hSw
      go_simp
      try with_reducible rfl
    go_simp
    refine wpAnyH_ready (rs := [2]) (by kernel_rfl) (by simp) ?_
    refine AllReadyH.cons rfl (fun K hK => ?_) AllReadyH.nil
    obtain ⟨r0, r1, s0, s1⟩ := HR.out
    go_simp
    refine hK.out _ _ (((Keeps.refl (fun b => b = rb) w1).drew.setCell (p := ⟨rb, 0, none⟩) (fun _ => rfl) _).setCell (p := ⟨rb, 1, none⟩) (fun _ => rfl) _) (fun hSn => ?_)
    clear hK K
    go_simp
    refine wpAnyH_take (i := 3) (v := ?v21) rfl (by kernel_rfl) (by kernel_rfl) (by kernel_rfl) (fun _ _ _ h => by first | exact h | exact absurd h.1 (fun e => by cases e)) (Or.inl ⟨by rfl, ?hy21⟩) (by assumption) ?rest21
    case hy21 =>
      intro w hSw
      obtain ⟨z0, z1⟩ := HZ w hSw
      go_simp
      try with_reducible rfl
    go_simp
    refine wpAnyH_done (by kernel_rfl) ?_ _
    go_simp
    have WR5 := WR
    have hq0 : (w1.setCell ⟨rb, 0, none⟩ (.int .i8 0)).cell? ⟨rb, 0, none⟩ = some (.int .i8 0) := by have := ((WR5.out).put 0 (.int .i8 0)).cellAt 0; simpa using this
    have hq1 : ((w1.setCell ⟨rb, 0, none⟩ (.int .i8 0)).setCell ⟨rb, 1, none⟩ (.string ⟨#[]⟩)).cell? ⟨rb, 1, none⟩ = some (.string ⟨#[]⟩) := by have := (((WR5.out).put 0 (.int .i8 0)).put 1 (.string ⟨#[]⟩)).cellAt 1; simpa using this
    go_wp2_with fail
    refine bodyPost_ret (v := .tuple #[.slice none 0 0, .agg #[.int .i8 0, .string ⟨#[]⟩], .bool false]) (by simp [results, Try.results54, go_sem, hq0, hq1]) rfl ⟨rfl, ?_⟩
    exact ((KX.out.setCell (p := ⟨rb, 0, none⟩) (fun h => absurd h (by have := HRB.out; show ¬ rb < _; omega)) _).setCell (p := ⟨rb, 1, none⟩) (fun h => absurd h (by have := HRB.out; show ¬ rb < _; omega)) _).drew
  · have h2 : (n : Int) ≤ at_ := by omega
    clear h
    go_enter Try.func54, Try.ntmps54
    go_wp2_with fail
    obtain ⟨w1, hw1⟩ : ∃ z, z = (w.alloc (.cells #[.int .i8 0, .string ⟨#[]⟩] 49)).alloc (.cells #[.int .i8 0, .string ⟨#[]⟩] 49) := ⟨_, rfl⟩
    have KX : Hid (Keeps (fun _ => False) w w1) := Lib.hid (by rw [hw1]; exact ((Keeps.refl _ _).alloc _).alloc _)
    have WR0 : Whole w1 w.heap.size 49 #[.int .i8 0, .string ⟨#[]⟩] := by rw [hw1]; exact (Whole.made _ _ _).alloc _
    have WZ0 : Whole w1 (w.heap.size + 1) 49 #[.int .i8 0, .string ⟨#[]⟩] := by rw [hw1]; have := Whole.made (w.alloc (.cells #[.int .i8 0, .string ⟨#[]⟩] 49)) 49 #[.int .i8 0, .string ⟨#[]⟩]; simpa using this
    rw [← hw1]
    clear hw1
    obtain ⟨rb, hrb⟩ : ∃ z, z = w.heap.size := ⟨_, rfl⟩
    rw [← hrb] at WR0 WZ0 ⊢
    have HRB := Lib.hid hrb
    have WR := Lib.hid WR0
    have WZ := Lib.hid WZ0
    have hrb1 : rb < w1.heap.size := WR0.inside
    clear WR0 WZ0
    clear hrb
    have HZ : ∀ W, Keeps (fun b => b = rb) w1 W → W.cell? ⟨rb + 1, 0, none⟩ = some (.int .i8 0) ∧ W.cell? ⟨rb + 1, 1, none⟩ = some (.string ⟨#[]⟩) := fun W hk => ⟨(WZ.out.keeps hk (by omega)).cellAt 0, (WZ.out.keeps hk (by omega)).cellAt 1⟩
    have HR : Hid (w1.cell? ⟨rb, 0, none⟩ = some (.int .i8 0) ∧ w1.cell? ⟨rb, 1, none⟩ = some (.string ⟨#[]⟩) ∧ w1.frozen? ⟨rb, 0, none⟩ = false ∧ w1.frozen? ⟨rb, 1, none⟩ = false) := Lib.hid ⟨WR.out.cellAt 0, WR.out.cellAt 1, WR.out.free 0, WR.out.free 1⟩
    refine wp_region_held_drew (S := fun W => Keeps (fun b => b = rb) w1 W) (by kernel_rfl) ((Keeps.refl _ w1).drew) ?_
    intro hSn
    refine wpAnyH_take (i := 0) (v := ?v22) rfl (by kernel_rfl) (by kernel_rfl) (by kernel_rfl) (fun _ _ _ h => by first | exact h | exact absurd h.1 (fun e => by cases e)) (Or.inl ⟨by rfl, ?hy22⟩) (by assumption) ?rest22
    case hy22 =>
      intro w hSw
      obtain ⟨z0, z1⟩ := HZ w hSw
      go_simp
      try with_reducible rfl
    go_simp
    refine wpAnyH_take (i := 1) (v := ?v23) rfl (by kernel_rfl) (by kernel_rfl) (by kernel_rfl) (fun _ _ _ h => by first | exact h | exact absurd h.1 (fun e => by cases e)) (Or.inl ⟨by rfl, ?hy23⟩) (by assumption) ?rest23
    case hy23 =>
      intro w hSw
      obtain ⟨z0, z1⟩ := HZ w hSw
      go_simp
      try with_reducible rfl
    go_simp
    refine wpAnyH_ready (rs := [2]) (by kernel_rfl) (by simp) ?_
    refine AllReadyH.cons rfl (fun K hK => ?_) AllReadyH.nil
    obtain ⟨r0, r1, s0, s1⟩ := HR.out
    go_simp
    refine hK.out _ _ (((Keeps.refl (fun b => b = rb) w1).drew.setCell (p := ⟨rb, 0, none⟩) (fun _ => rfl) _).setCell (p := ⟨rb, 1, none⟩) (fun _ => rfl) _) (fun hSn => ?_)
    clear hK K
    go_simp
    refine wpAnyH_take (i := 3) (v := ?v24) rfl (by kernel_rfl) (by kernel_rfl) (by kernel_rfl) (fun _ _ _ h => by first | exact h | exact absurd h.1 (fun e => by cases e)) (Or.inl ⟨by rfl, ?hy24⟩) (by assumption) ?rest24
    case hy24 =>
      intro w hSw
      obtain ⟨z0, z1⟩ := HZ w hSw
      go_simp
      try with_reducible rfl
    go_simp
    refine wpAnyH_done (by kernel_rfl) ?_ _
    go_simp
    have WR5 := WR
    have hq0 : (w1.setCell ⟨rb, 0, none⟩ (.int .i8 0)).cell? ⟨rb, 0, none⟩ = some (.int .i8 0) := by have := ((WR5.out).put 0 (.int .i8 0)).cellAt 0; simpa using this
    have hq1 : ((w1.setCell ⟨rb, 0, none⟩ (.int .i8 0)).setCell ⟨rb, 1, none⟩ (.string ⟨#[]⟩)).cell? ⟨rb, 1, none⟩ = some (.string ⟨#[]⟩) := by have := (((WR5.out).put 0 (.int .i8 0)).put 1 (.string ⟨#[]⟩)).cellAt 1; simpa using this
    go_wp2_with fail
    refine bodyPost_ret (v := .tuple #[.slice none 0 0, .agg #[.int .i8 0, .string ⟨#[]⟩], .bool false]) (by simp [results, Try.results54, go_sem, hq0, hq1]) rfl ⟨rfl, ?_⟩
    exact ((KX.out.setCell (p := ⟨rb, 0, none⟩) (fun h => absurd h (by have := HRB.out; show ¬ rb < _; omega)) _).setCell (p := ⟨rb, 1, none⟩) (fun h => absurd h (by have := HRB.out; show ¬ rb < _; omega)) _).drew
set_option maxRecDepth 100000 in
set_option maxHeartbeats 2000000 in
theorem cutP_in (l : List (Int × ByteArray)) (x : Int × ByteArray) (g off cap k : Nat) (w : World) (hx : Lies w w.heap.size (some ⟨g, off, none⟩) (flat prC l)) (hc : l.length ≤ cap) (hl : l.length ≤ 400000000) (hk : l[k]? = some x) :
    Calls Try.prog 54 #[.slice (some ⟨g, off, none⟩) l.length cap, .int .i64 k] w fun e w' => ∃ A' c', e = .returned (.tuple #[.slice A' (l.length - 1) c', .agg #[.int .i8 x.1, .string x.2], .bool true]) ∧ w'.ownsRow w.heap.size 49 2 (.slice A' (l.length - 1) c') (l.length - 1) (flat prC (l.take k ++ l.drop (k + 1))) ∧ Keeps (fun _ => False) w w' := by
  have hkl : k < l.length := (List.getElem?_eq_some_iff.1 hk).1
  have HH0 : Hid (Lies w w.heap.size (some ⟨g, off, none⟩) (flat prC (l.take k))) := Lib.hid (by rw [flat_take prC_length]; exact hx.head _)
  obtain ⟨TA, hTA, HT0⟩ : ∃ TA, (if cap = k + 1 then some (⟨g, off, none⟩ : Addr) else some ⟨g, off + (k + 1) * 2, none⟩) = some TA ∧ Hid (Lies w w.heap.size (some TA) (flat prC (l.drop (k + 1)))) := by
    by_cases hci : cap = k + 1
    · rw [if_pos hci]
      exact ⟨_, rfl, Lib.hid (by rw [List.drop_of_length_le (by omega)]; exact Lies.nil)⟩
    · rw [if_neg hci]
      refine ⟨_, rfl, Lib.hid (fun i u hu => ?_)⟩
      rw [flat_drop prC_length, List.getElem?_drop] at hu
      obtain ⟨g', off', e, hg, hcc⟩ := hx _ u hu
      obtain ⟨rfl, rfl⟩ : g = g' ∧ off = off' := by injection e with e; injection e with e1 e2; exact ⟨e1, e2⟩
      exact ⟨g, off + (k + 1) * 2, rfl, hg, by rw [← hcc]; congr 2; omega⟩
  have hcell : g < w.heap.size ∧ w.cell? ⟨g, off + k * 2, none⟩ = some (.int .i8 x.1) ∧ w.cell? ⟨g, off + k * 2 + 1, none⟩ = some (.string x.2) := by
    obtain ⟨g', off', e, hg, c0, c1⟩ := PrLies.of hx k x hk
    obtain ⟨rfl, rfl⟩ : g = g' ∧ off = off' := by injection e with e; injection e with e1 e2; exact ⟨e1, e2⟩
    exact ⟨hg, c0, c1⟩
  have x0 : k ≤ cap := by omega
  have x1 : IntKind.i64.wrap ((k : Int) + 1) = (k : Int) + 1 := by rw [IntKind.wrap_i64]; omega
  have x2 : (0 : Int) ≤ (k : Int) + 1 := by omega
  have x3 : (k : Int) + 1 ≤ (l.length : Int) := by omega
  have x4 : ((k : Int) + 1).toNat = k + 1 := by omega
  have x5 : (k : Int) < (l.length : Int) := by omega
  have HCL := Lib.hid hcell
  clear hx hk hcell
  go_enter Try.func54, Try.ntmps54
  go_wp2_with fail
  obtain ⟨w1, hw1⟩ : ∃ z, z = (w.alloc (.cells #[.int .i8 0, .string ⟨#[]⟩] 49)).alloc (.cells #[.int .i8 0, .string ⟨#[]⟩] 49) := ⟨_, rfl⟩
  have KX : Hid (Keeps (fun _ => False) w w1) := Lib.hid (by rw [hw1]; exact ((Keeps.refl _ _).alloc _).alloc _)
  have WR0 : Whole w1 w.heap.size 49 #[.int .i8 0, .string ⟨#[]⟩] := by rw [hw1]; exact (Whole.made _ _ _).alloc _
  have WZ0 : Whole w1 (w.heap.size + 1) 49 #[.int .i8 0, .string ⟨#[]⟩] := by rw [hw1]; have := Whole.made (w.alloc (.cells #[.int .i8 0, .string ⟨#[]⟩] 49)) 49 #[.int .i8 0, .string ⟨#[]⟩]; simpa using this
  rw [← hw1]
  clear hw1
  obtain ⟨rb, hrb⟩ : ∃ z, z = w.heap.size := ⟨_, rfl⟩
  rw [← hrb] at WR0 WZ0 ⊢
  have HRB := Lib.hid hrb
  have WR := Lib.hid WR0
  have WZ := Lib.hid WZ0
  have hrb1 : rb < w1.heap.size := WR0.inside
  clear WR0 WZ0
  have HF : ∀ W, Keeps (fun b => b = rb) w1 W → W.cell? ⟨g, off + k * 2, none⟩ = some (.int .i8 x.1) ∧ W.cell? ⟨g, off + k * 2 + 1, none⟩ = some (.string x.2) := fun W hk => by
    have hg := HCL.out.1
    have h1 := KX.out.size
    exact ⟨(hk.cell (by omega) (by omega)).trans ((KX.out.cell hg id).trans HCL.out.2.1), (hk.cell (by omega) (by omega)).trans ((KX.out.cell hg id).trans HCL.out.2.2)⟩
  clear hrb
  have HH : Hid (Lies w1 w1.heap.size (some ⟨g, off, none⟩) (flat prC (l.take k))) := Lib.hid ((HH0.out.keep (fun b o h => KX.out.cell h id)).more KX.out.size)
  have HT : Hid (Lies w1 w1.heap.size (some TA) (flat prC (l.drop (k + 1)))) := Lib.hid ((HT0.out.keep (fun b o h => KX.out.cell h id)).more KX.out.size)
  clear HH0 HT0
  refine wp_region_held_drew (S := fun W => Keeps (fun b => b = rb) w1 W) (by kernel_rfl) ((Keeps.refl _ w1).drew) ?_
  intro hSn
  refine wpAnyH_take (i := 0) (v := ?v25) rfl (by kernel_rfl) (by kernel_rfl) (by kernel_rfl) (fun _ _ _ h => by first | exact h | exact absurd h.1 (fun e => by cases e)) (Or.inl ⟨by rfl, ?hy25⟩) (by assumption) ?rest25
  case hy25 =>
    intro w hSw
    obtain ⟨c0, c1⟩ := HF w hSw
    go_simp
    try with_reducible rfl
  go_simp
  refine wpAnyH_take (i := 1) (v := ?v26) rfl (by kernel_rfl) (by kernel_rfl) (by kernel_rfl) (fun _ _ _ h => by first | exact h | exact absurd h.1 (fun e => by cases e)) (Or.inl ⟨by rfl, ?hy26⟩) (by assumption) ?rest26
  case hy26 =>
    intro w hSw
    obtain ⟨c0, c1⟩ := HF w hSw
    go_simp
    try with_reducible rfl
  go_simp
  refine wpAnyH_take (i := 2) (v := ?v27) rfl (by kernel_rfl) (by kernel_rfl) (by kernel_rfl) (fun _ _ _ h => by first | exact h | exact absurd h.1 (fun e => by cases e)) (Or.inl ⟨by rfl, ?hy27⟩) (by assumption) ?rest27
  case hy27 =>
    intro w hSw
    obtain ⟨c0, c1⟩ := HF w hSw
    go_simp
    try with_reducible rfl
  go_simp
  refine wpAnyH_take (i := 3) (v := ?v28) rfl (by kernel_rfl) (by kernel_rfl) (by kernel_rfl) (fun _ _ _ h => by first | exact h | exact absurd h.1 (fun e => by cases e)) (Or.inl ⟨by rfl, ?hy28⟩) (by assumption) ?rest28
  case hy28 =>
    intro w hSw
    obtain ⟨c0, c1⟩ := HF w hSw
    go_simp
    try with_reducible rfl
  go_simp
  refine wpAnyH_take (i := 4) (v := ?v29) rfl (by kernel_rfl) (by kernel_rfl) (by kernel_rfl) (fun _ _ _ h => by first | exact h | exact absurd h.1 (fun e => by cases e)) (Or.inl ⟨by rfl, ?hy29⟩) (by assumption) ?rest29
  case hy29 =>
    intro w hSw
    obtain ⟨c0, c1⟩ := HF w hSw
    go_simp
    try with_reducible rfl
  go_simp
  refine wpAnyH_take (i := 5) (v := ?v30) rfl (by kernel_rfl) (by kernel_rfl) (by kernel_rfl) (fun _ _ _ h => by first | exact h | exact absurd h.1 (fun e => by cases e)) (Or.inl ⟨by rfl, ?hy30⟩) (by assumption) ?rest30
  case hy30 =>
    intro w hSw
    obtain ⟨c0, c1⟩ := HF w hSw
    go_simp
    try with_reducible rfl
  go_simp
  refine wpAnyH_take (i := 6) (v := ?v31) rfl (by kernel_rfl) (by kernel_rfl) (by kernel_rfl) (fun _ _ _ h => by first | exact h | exact absurd h.1 (fun e => by cases e)) (Or.inl ⟨by rfl, ?hy31⟩) (by assumption) ?rest31
  case hy31 =>
    intro w hSw
    obtain ⟨c0, c1⟩ := HF w hSw
    go_simp
    try with_reducible rfl
  go_simp
  refine wpAnyH_take (i := 9) (v := ?v32) rfl (by kernel_rfl) (by kernel_rfl) (by kernel_rfl) (fun _ _ _ h => by first | exact h | exact absurd h.1 (fun e => by cases e)) (Or.inl ⟨by rfl, ?hy32⟩) (by assumption) ?rest32
  case hy32 =>
    intro w hSw
    obtain ⟨c0, c1⟩ := HF w hSw
    go_simp
    try with_reducible rfl
  go_simp
  refine wpAnyH_take (i := 10) (v := ?v33) rfl (by kernel_rfl) (by kernel_rfl) (by kernel_rfl) (fun _ _ _ h => by first | exact h | exact absurd h.1 (fun e => by cases e)) (Or.inl ⟨by rfl, ?hy33⟩) (by assumption) ?rest33
  case hy33 =>
    intro w hSw
    obtain ⟨c0, c1⟩ := HF w hSw
    go_simp
    try with_reducible rfl
  go_simp
  refine wpAnyH_take (i := 11) (v := ?v34) rfl (by kernel_rfl) (by kernel_rfl) (by kernel_rfl) (fun _ _ _ h => by first | exact h | exact absurd h.1 (fun e => by cases e)) (Or.inl ⟨by rfl, ?hy34⟩) (by assumption) ?rest34
  case hy34 =>
    intro w hSw
    obtain ⟨c0, c1⟩ := HF w hSw
    go_simp
    try with_reducible rfl
  go_simp
  refine wpAnyH_take (i := 12) (v := ?v35) rfl (by kernel_rfl) (by kernel_rfl) (by kernel_rfl) (fun _ _ _ h => by first | exact h | exact absurd h.1 (fun e => by cases e)) (Or.inl ⟨by rfl, ?hy35⟩) (by assumption) ?rest35
  case hy35 =>
    intro w hSw
    obtain ⟨c0, c1⟩ := HF w hSw
    go_simp
    try with_reducible rfl
  go_simp
  have ka : Keeps (fun _ => False) w1 (w1.drew.alloc (.cells #[.slice (some ⟨g, off, none⟩) k cap, .slice (some TA) (l.length - (k + 1)) (cap - (k + 1))] 43)) := (Keeps.refl _ w1).drew.alloc _
  have hsz : (w1.drew.alloc (.cells #[.slice (some ⟨g, off, none⟩) k cap, .slice (some TA) (l.length - (k + 1)) (cap - (k + 1))] 43)).heap.size = w1.heap.size + 1 := by simp
  have HP : Hid (PartsLie (w1.drew.alloc (.cells #[.slice (some ⟨g, off, none⟩) k cap, .slice (some TA) (l.length - (k + 1)) (cap - (k + 1))] 43)) (w1.heap.size + 1) (some ⟨w1.heap.size, 0, none⟩) 2 [(k, flat prC (l.take k)), (l.length - (k + 1), flat prC (l.drop (k + 1)))]) := Lib.hid (fun i p hi => by
    have hWW := Whole.made w1.drew 43 #[.slice (some ⟨g, off, none⟩) k cap, .slice (some TA) (l.length - (k + 1)) (cap - (k + 1))]
    match i, hi with
    | 0, hi => obtain rfl := Option.some.inj hi; exact ⟨w1.heap.size, 0, _, _, rfl, Nat.lt_succ_self _, hWW.cellAt 0, by rw [flat_length (k := 2) prC_length]; simp; omega, (HH.out.keep fun b o hb => ka.cell hb id).more (by omega)⟩
    | 1, hi => obtain rfl := Option.some.inj hi; exact ⟨w1.heap.size, 0, _, _, rfl, Nat.lt_succ_self _, hWW.cellAt 1, by rw [flat_length (k := 2) prC_length]; simp, (HT.out.keep fun b o hb => ka.cell hb id).more (by omega)⟩)
  have KA := Lib.hid ka
  have HSZ := Lib.hid hsz
  clear ka hsz
  refine wpAnyH_ready (rs := [7]) (by kernel_rfl) (by simp) ?_
  refine AllReadyH.cons rfl (fun K hK => ?_) AllReadyH.nil
  go_simp
  refine hK.out _ _ (KA.out.mono (fun _ _ h => h.elim)) (fun hSn => ?_)
  clear hK K
  go_simp
  refine wpAnyH_ready (rs := [8]) (by kernel_rfl) (by simp) ?_
  refine AllReadyH.cons rfl (fun K hK => ?_) AllReadyH.nil
  go_simp
  refine (concatP_any [(k, flat prC (l.take k)), (l.length - (k + 1), flat prC (l.drop (k + 1)))] _ (w1.heap.size + 1) _ _ HP.out (Nat.le_of_eq HSZ.out.symm) (by simp) (by simp [sizes]; omega) ?h1).mono ?_
  case h1 =>
    intro p hp u hu
    simp only [List.mem_cons, List.not_mem_nil, or_false] at hp
    rcases hp with rfl | rfl
    · exact one_pairs _ u hu
    · exact one_pairs _ u hu
  rintro e w5 ⟨A', c', rfl, ho, k5⟩
  have hs1 : sizes [(k, flat prC (l.take k)), (l.length - (k + 1), flat prC (l.drop (k + 1)))] = l.length - 1 := by simp [sizes]; omega
  have hs2 : cellsOfParts [(k, flat prC (l.take k)), (l.length - (k + 1), flat prC (l.drop (k + 1)))] = flat prC (l.take k ++ l.drop (k + 1)) := by simp [cellsOfParts, flat]
  rw [hs1, hs2] at ho
  rw [hs1]
  have HO := Lib.hid ho
  have K5 := Lib.hid (KA.out.trans k5)
  clear ho k5 hs1 hs2 HP
  refine hK.out _ _ (K5.out.mono (fun _ _ h => h.elim)) (fun hSn => ?_)
  clear hK K
  go_simp
  refine wpAnyH_take (i := 13) (v := ?v36) rfl (by kernel_rfl) (by kernel_rfl) (by kernel_rfl) (fun _ _ _ h => by first | exact h | exact absurd h.1 (fun e => by cases e)) (Or.inl ⟨by rfl, ?hy36⟩) (by assumption) ?rest36
  case hy36 =>
    intro w hSw
    obtain ⟨c0, c1⟩ := HF w hSw
    go_simp
    try with_reducible rfl
  go_simp
  have WR5 : Hid (Whole w5 rb 49 #[.int .i8 0, .string ⟨#[]⟩]) := Lib.hid (WR.out.keeps K5.out id)
  refine wpAnyH_ready (rs := [14]) (by kernel_rfl) (by simp) ?_
  refine AllReadyH.cons rfl (fun K hK => ?_) AllReadyH.nil
  have r0 := WR5.out.cellAt 0
  have r1 := WR5.out.cellAt 1
  have s0 := WR5.out.free 0
  have s1 := WR5.out.free 1
  simp at r0 r1
  go_simp
  refine hK.out _ _ (((K5.out.mono (T := fun b => b = rb) (fun _ _ h => h.elim)).setCell (p := ⟨rb, 0, none⟩) (fun _ => rfl) _).setCell (p := ⟨rb, 1, none⟩) (fun _ => rfl) _) (fun hSn => ?_)
  clear hK K
  go_simp
  refine wpAnyH_take (i := 15) (v := ?v37) rfl (by kernel_rfl) (by kernel_rfl) (by kernel_rfl) (fun _ _ _ h => by first | exact h | exact absurd h.1 (fun e => by cases e)) (Or.inl ⟨by rfl, ?hy37⟩) (by assumption) ?rest37
  case hy37 =>
    intro w hSw
    obtain ⟨c0, c1⟩ := HF w hSw
    go_simp
    try with_reducible rfl
  go_simp
  refine wpAnyH_done (by kernel_rfl) ?_ _
  go_simp
  have hq0 : (w5.setCell ⟨rb, 0, none⟩ (.int .i8 x.1)).cell? ⟨rb, 0, none⟩ = some (.int .i8 x.1) := by have := ((WR5.out).put 0 (.int .i8 x.1)).cellAt 0; simpa using this
  have hq1 : ((w5.setCell ⟨rb, 0, none⟩ (.int .i8 x.1)).setCell ⟨rb, 1, none⟩ (.string x.2)).cell? ⟨rb, 1, none⟩ = some (.string x.2) := by have := (((WR5.out).put 0 (.int .i8 x.1)).put 1 (.string x.2)).cellAt 1; simpa using this
  clear r0 r1 s0 s1
  go_wp2_with fail
  refine bodyPost_ret (v := .tuple #[.slice A' (l.length - 1) c', .agg #[.int .i8 x.1, .string x.2], .bool true]) (by simp [results, Try.results54, go_sem, hq0, hq1]) rfl ⟨A', c', rfl, ?_, ?_⟩
  · have h1 := HO.out.mono (base' := w.heap.size) (by rw [HSZ.out]; have := KX.out.size; omega)
    have hfar : ∀ b, (Value.slice A' (l.length - 1) c').ownBlock = some b → ¬ (b = rb) := fun b hb e => by
      have := (HO.out.lt b hb).1
      rw [HSZ.out] at this
      omega
    exact own_keepsS h1 (Keeps.setCell (S := fun b => b = rb) (p := ⟨rb, 1, none⟩) (Keeps.setCell (S := fun b => b = rb) (p := ⟨rb, 0, none⟩) (Keeps.refl _ _) (fun _ => rfl) _) (fun _ => rfl) _) hfar
  · exact ((KX.out.trans K5.out).setCell (p := ⟨rb, 0, none⟩) (fun h => absurd h (by have := HRB.out; show ¬ rb < _; omega)) _).setCell (p := ⟨rb, 1, none⟩) (fun h => absurd h (by have := HRB.out; show ¬ rb < _; omega)) _
end Go.Proofs.Ytbfhbekocgdceaa
