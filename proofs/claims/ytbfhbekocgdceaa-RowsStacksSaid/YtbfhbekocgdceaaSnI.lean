/-
  rows.Stack of int: Done and slices.Clone: the walks. Conditions: lengths within 10 ^ 9.
-/
import Derived.Test.YtbfhbekocgdceaaSmI
import Derived.Test.YtbfhbekocgdceaaRoA
import Derived.Test.YtbfhbekocgdceaaSkB
import Derived.Test.YtbfhbekocgdceaaRoB
import Derived.Deep.RegionHeld3
import Derived.WalkSpells
namespace Go.Proofs.Ytbfhbekocgdceaa
open Go.RowKit
set_option maxRecDepth 100000 in
set_option maxHeartbeats 2000000 in
theorem cloneI_any (l : List Int) (g cap : Nat) (w : World) (hx : Lies w w.heap.size (some ⟨g, 0, none⟩) (l.map (Value.int .i64))) (hl : l.length ≤ 1000000000) :
    Calls Try.prog 74 #[.slice (some ⟨g, 0, none⟩) l.length cap] w fun e w' => ∃ A' c', e = .returned (.slice A' l.length c') ∧ Made w w' A' c' l := by
  have HX := Lib.hid hx
  clear hx
  have hq : ∀ w, (binOp .eql 44 (.slice (some ⟨g, 0, none⟩) l.length cap) (.slice none 0 0)).run Try.prog w = .ok (.bool false) w := fun w => by kernel_rfl
  have HO : Hid ((w.alloc (.cells #[] 3)).ownsRow w.heap.size 3 1 (.slice (some ⟨w.heap.size, 0, none⟩) 0 0) 0 []) := Lib.hid (own_made (Whole.made w _ _) (Nat.le_refl _) (Nat.zero_le _) rfl)
  have HL : Hid (Lies (w.alloc (.cells #[] 3)) w.heap.size (some ⟨g, 0, none⟩) (l.map (Value.int .i64))) := Lib.hid (HX.out.alloc (Nat.le_refl _) _)
  go_enter Try.func74, Try.ntmps74
  go_wp2_with (at_builtin; (refine wpList_append_cells _ rfl (.tmp 5) (.tmp 6) 44 rfl w.heap.size 3 (.int .i64 0) 1 8 Try.underlying44 info_cI rfl (by decide) (.slice (some ⟨w.heap.size, 0, none⟩) 0 0) 0 [] rfl HO.out w.heap.size (some ⟨g, 0, none⟩) l.length cap (l.map (Value.int .i64)) rfl HL.out (by simp) (cells_one_k _ l) (by unfold maxLen; omega) (by omega) (by simp) ?_); intro A2 c2 w2 h1 h2 _ _ _; have O2 : Hid (w2.ownsRow w.heap.size 3 1 (.slice A2 l.length c2) l.length (l.map (Value.int .i64))) := Lib.hid (by simpa using h1); have K2 : Hid (Keeps (fun _ => False) w w2) := Lib.hid (((Keeps.refl (fun _ => False) w).alloc _).grown h2 (fun b hb hlt => by have : w.heap.size = b := (by injection hb); omega)); clear h1 h2; simp only [Nat.zero_add])
  go_ret
  exact ⟨A2, c2, rfl, ⟨O2.out, K2.out⟩⟩
set_option maxRecDepth 100000 in
theorem cloneI_nil (w : World) :
    Calls Try.prog 74 #[.slice none 0 0] w fun e w' => e = .returned (.slice none 0 0) ∧ w = w' := by
  have hq : ∀ w, (binOp .eql 44 (.slice none 0 0) (.slice none 0 0)).run Try.prog w = .ok (.bool true) w := fun w => by kernel_rfl
  go_enter Try.func74, Try.ntmps74
  go_wp2_with fail
  go_ret
  exact ⟨rfl, rfl⟩
set_option maxRecDepth 100000 in
set_option maxHeartbeats 2000000 in
theorem doneI_any (p c done : Nat) (most : Int) (A : Option Addr) (l : List Int) (w : World) (h : StackI w p A c l done most) (hl : done ≤ 1000000000) :
    Calls Try.prog 41 #[.pointer (some ⟨p, 0, none⟩)] w fun e w' => ∃ A' c', e = .returned (.slice A' (l.take done).length c') ∧ Made w w' A' c' (l.take done) := by
  have HB := Lib.hid h.box
  have hle := h.le
  have hlt : (l.take done).length = done := by rw [List.length_take]; omega
  have hown := own_prefix h.own h.le
  rw [← List.map_take] at hown
  have HL := Lib.hid (own_lies hown)
  have hcap : l.length ≤ c := by
    obtain ⟨_, _, e, h, _⟩ := own_slice h.own
    injection e with _ _ e
    omega
  have hdc : done ≤ c := by omega
  have hdcI : (done : Int) ≤ (c : Int) := by omega
  have hA : (A = none ∧ done = 0 ∧ c = 0) ∨ ∃ g, A = some ⟨g, 0, none⟩ := by
    rcases h.own.2 with ⟨hv, hn⟩ | ⟨g, cap, cur, hv, _⟩
    · injection hv with h1 h2 h3
      exact .inl ⟨h1, by omega, h3⟩
    · injection hv with h1
      exact .inr ⟨g, h1⟩
  have HF : ∀ W, Keeps (fun _ => False) w W → W.cell? ⟨p, 0, none⟩ = some (.slice A l.length c) ∧ W.cell? ⟨p, 1, none⟩ = some (.int .i64 (done : Int)) := fun W hW => ⟨(HB.out.keeps hW id).cellAt 0, (HB.out.keeps hW id).cellAt 1⟩
  obtain ⟨a0, a1, a2, a3, f0, f1, f2, f3⟩ := four HB.out
  clear h hcap hown
  rcases hA with ⟨rfl, rfl, rfl⟩ | ⟨g, rfl⟩
  · go_enter Try.func41, Try.ntmps41
    go_wp2_with (first | (go_at_call 73; refine (noneI_any p true _ a3).mono ?_; rintro e w' ⟨rfl, rfl⟩))
    refine wp_region_held_drew (S := fun W => Keeps (fun _ => False) w' W) (by kernel_rfl) ((Keeps.refl _ w').drew) ?_
    intro hSn
    refine wpAnyH_take (i := 0) (v := ?v24) rfl (by kernel_rfl) (by kernel_rfl) (by kernel_rfl) (fun _ _ _ h => by first | exact h | exact absurd h.1 (fun e => by cases e)) (Or.inl ⟨by rfl, ?hy24⟩) (by assumption) ?rest24
    case hy24 =>
      intro w hSw
      obtain ⟨a0, a1⟩ := HF w hSw
      go_simp
      try with_reducible rfl
    go_simp
    refine wpAnyH_take (i := 1) (v := ?v25) rfl (by kernel_rfl) (by kernel_rfl) (by kernel_rfl) (fun _ _ _ h => by first | exact h | exact absurd h.1 (fun e => by cases e)) (Or.inl ⟨by rfl, ?hy25⟩) (by assumption) ?rest25
    case hy25 =>
      intro w hSw
      obtain ⟨a0, a1⟩ := HF w hSw
      go_simp
      try with_reducible rfl
    go_simp
    refine wpAnyH_take (i := 2) (v := ?v26) rfl (by kernel_rfl) (by kernel_rfl) (by kernel_rfl) (fun _ _ _ h => by first | exact h | exact absurd h.1 (fun e => by cases e)) (Or.inl ⟨by rfl, ?hy26⟩) (by assumption) ?rest26
    case hy26 =>
      intro w hSw
      obtain ⟨a0, a1⟩ := HF w hSw
      go_simp
      try with_reducible rfl
    go_simp
    refine wpAnyH_take (i := 3) (v := ?v27) rfl (by kernel_rfl) (by kernel_rfl) (by kernel_rfl) (fun _ _ _ h => by first | exact h | exact absurd h.1 (fun e => by cases e)) (Or.inl ⟨by rfl, ?hy27⟩) (by assumption) ?rest27
    case hy27 =>
      intro w hSw
      obtain ⟨a0, a1⟩ := HF w hSw
      go_simp
      try with_reducible rfl
    go_simp
    refine wpAnyH_take (i := 4) (v := ?v28) rfl (by kernel_rfl) (by kernel_rfl) (by kernel_rfl) (fun _ _ _ h => by first | exact h | exact absurd h.1 (fun e => by cases e)) (Or.inl ⟨by rfl, ?hy28⟩) (by assumption) ?rest28
    case hy28 =>
      intro w hSw
      obtain ⟨a0, a1⟩ := HF w hSw
      go_simp
      try with_reducible rfl
    go_simp
    refine wpAnyH_take (i := 5) (v := ?v29) rfl (by kernel_rfl) (by kernel_rfl) (by kernel_rfl) (fun _ _ _ h => by first | exact h | exact absurd h.1 (fun e => by cases e)) (Or.inl ⟨by rfl, ?hy29⟩) (by assumption) ?rest29
    case hy29 =>
      intro w hSw
      obtain ⟨a0, a1⟩ := HF w hSw
      go_simp
      try with_reducible rfl
    go_simp
    refine wpAnyH_take (i := 6) (v := ?v30) rfl (by kernel_rfl) (by kernel_rfl) (by kernel_rfl) (fun _ _ _ h => by first | exact h | exact absurd h.1 (fun e => by cases e)) (Or.inl ⟨by rfl, ?hy30⟩) (by assumption) ?rest30
    case hy30 =>
      intro w hSw
      obtain ⟨a0, a1⟩ := HF w hSw
      go_simp
      try with_reducible rfl
    go_simp
    refine wpAnyH_take (i := 7) (v := ?v31) rfl (by kernel_rfl) (by kernel_rfl) (by kernel_rfl) (fun _ _ _ h => by first | exact h | exact absurd h.1 (fun e => by cases e)) (Or.inl ⟨by rfl, ?hy31⟩) (by assumption) ?rest31
    case hy31 =>
      intro w hSw
      obtain ⟨a0, a1⟩ := HF w hSw
      go_simp
      try with_reducible rfl
    go_simp
    refine wpAnyH_take (i := 8) (v := ?v32) rfl (by kernel_rfl) (by kernel_rfl) (by kernel_rfl) (fun _ _ _ h => by first | exact h | exact absurd h.1 (fun e => by cases e)) (Or.inl ⟨by rfl, ?hy32⟩) (by assumption) ?rest32
    case hy32 =>
      intro w hSw
      obtain ⟨a0, a1⟩ := HF w hSw
      go_simp
      try with_reducible rfl
    go_simp
    refine wpAnyH_ready (rs := [9]) (by kernel_rfl) (by simp) ?_
    refine AllReadyH.cons rfl (fun K hK => ?_) AllReadyH.nil
    go_simp
    refine (cloneI_nil _).mono ?_
    rintro e w3 ⟨rfl, rfl⟩
    refine hK.out _ _ (hSn) (fun hSn => ?_)
    clear hK K
    go_simp
    refine wpAnyH_take (i := 10) (v := ?v33) rfl (by kernel_rfl) (by kernel_rfl) (by kernel_rfl) (fun _ _ _ h => by first | exact h | exact absurd h.1 (fun e => by cases e)) (Or.inl ⟨by rfl, ?hy33⟩) (by assumption) ?rest33
    case hy33 =>
      intro w hSw
      obtain ⟨a0, a1⟩ := HF w hSw
      go_simp
      try with_reducible rfl
    go_simp
    refine wpAnyH_done (by kernel_rfl) ?_ _
    go_simp
    go_wp2_with fail
    go_ret
    exact ⟨none, 0, rfl, ⟨World.ownsRow_nil _ _ _ _, (Keeps.refl _ _).drew⟩⟩
  · have HC := Lib.hid (fun (W : World) (hW : Keeps (fun _ => False) w W) => cloneI_any (l.take done) g c W ((HL.out.keep (fun b o h => hW.cell h id)).more hW.size) (by rw [hlt]; exact hl))
    rw [hlt] at HC
    rw [hlt]
    have HLT := Lib.hid hlt
    clear hlt
    go_enter Try.func41, Try.ntmps41
    go_wp2_with (first | (go_at_call 73; refine (noneI_any p true _ a3).mono ?_; rintro e w' ⟨rfl, rfl⟩))
    refine wp_region_held_drew (S := fun W => Keeps (fun _ => False) w' W) (by kernel_rfl) ((Keeps.refl _ w').drew) ?_
    intro hSn
    refine wpAnyH_take (i := 0) (v := ?v34) rfl (by kernel_rfl) (by kernel_rfl) (by kernel_rfl) (fun _ _ _ h => by first | exact h | exact absurd h.1 (fun e => by cases e)) (Or.inl ⟨by rfl, ?hy34⟩) (by assumption) ?rest34
    case hy34 =>
      intro w hSw
      obtain ⟨a0, a1⟩ := HF w hSw
      go_simp
      try with_reducible rfl
    go_simp
    refine wpAnyH_take (i := 1) (v := ?v35) rfl (by kernel_rfl) (by kernel_rfl) (by kernel_rfl) (fun _ _ _ h => by first | exact h | exact absurd h.1 (fun e => by cases e)) (Or.inl ⟨by rfl, ?hy35⟩) (by assumption) ?rest35
    case hy35 =>
      intro w hSw
      obtain ⟨a0, a1⟩ := HF w hSw
      go_simp
      try with_reducible rfl
    go_simp
    refine wpAnyH_take (i := 2) (v := ?v36) rfl (by kernel_rfl) (by kernel_rfl) (by kernel_rfl) (fun _ _ _ h => by first | exact h | exact absurd h.1 (fun e => by cases e)) (Or.inl ⟨by rfl, ?hy36⟩) (by assumption) ?rest36
    case hy36 =>
      intro w hSw
      obtain ⟨a0, a1⟩ := HF w hSw
      go_simp
      try with_reducible rfl
    go_simp
    refine wpAnyH_take (i := 3) (v := ?v37) rfl (by kernel_rfl) (by kernel_rfl) (by kernel_rfl) (fun _ _ _ h => by first | exact h | exact absurd h.1 (fun e => by cases e)) (Or.inl ⟨by rfl, ?hy37⟩) (by assumption) ?rest37
    case hy37 =>
      intro w hSw
      obtain ⟨a0, a1⟩ := HF w hSw
      go_simp
      try with_reducible rfl
    go_simp
    refine wpAnyH_take (i := 4) (v := ?v38) rfl (by kernel_rfl) (by kernel_rfl) (by kernel_rfl) (fun _ _ _ h => by first | exact h | exact absurd h.1 (fun e => by cases e)) (Or.inl ⟨by rfl, ?hy38⟩) (by assumption) ?rest38
    case hy38 =>
      intro w hSw
      obtain ⟨a0, a1⟩ := HF w hSw
      go_simp
      try with_reducible rfl
    go_simp
    refine wpAnyH_take (i := 5) (v := ?v39) rfl (by kernel_rfl) (by kernel_rfl) (by kernel_rfl) (fun _ _ _ h => by first | exact h | exact absurd h.1 (fun e => by cases e)) (Or.inl ⟨by rfl, ?hy39⟩) (by assumption) ?rest39
    case hy39 =>
      intro w hSw
      obtain ⟨a0, a1⟩ := HF w hSw
      go_simp
      try with_reducible rfl
    go_simp
    refine wpAnyH_take (i := 6) (v := ?v40) rfl (by kernel_rfl) (by kernel_rfl) (by kernel_rfl) (fun _ _ _ h => by first | exact h | exact absurd h.1 (fun e => by cases e)) (Or.inl ⟨by rfl, ?hy40⟩) (by assumption) ?rest40
    case hy40 =>
      intro w hSw
      obtain ⟨a0, a1⟩ := HF w hSw
      go_simp
      try with_reducible rfl
    go_simp
    refine wpAnyH_take (i := 7) (v := ?v41) rfl (by kernel_rfl) (by kernel_rfl) (by kernel_rfl) (fun _ _ _ h => by first | exact h | exact absurd h.1 (fun e => by cases e)) (Or.inl ⟨by rfl, ?hy41⟩) (by assumption) ?rest41
    case hy41 =>
      intro w hSw
      obtain ⟨a0, a1⟩ := HF w hSw
      go_simp
      try with_reducible rfl
    go_simp
    refine wpAnyH_take (i := 8) (v := ?v42) rfl (by kernel_rfl) (by kernel_rfl) (by kernel_rfl) (fun _ _ _ h => by first | exact h | exact absurd h.1 (fun e => by cases e)) (Or.inl ⟨by rfl, ?hy42⟩) (by assumption) ?rest42
    case hy42 =>
      intro w hSw
      obtain ⟨a0, a1⟩ := HF w hSw
      go_simp
      try with_reducible rfl
    go_simp
    refine wpAnyH_ready (rs := [9]) (by kernel_rfl) (by simp) ?_
    refine AllReadyH.cons rfl (fun K hK => ?_) AllReadyH.nil
    go_simp
    refine (HC.out _ (Keeps.refl _ _).drew).mono ?_
    rintro e w3 ⟨A', c', rfl, hm⟩
    have HM := Lib.hid hm
    refine hK.out _ _ (hSn.trans hm.keeps) (fun hSn => ?_)
    clear hK K hm
    go_simp
    refine wpAnyH_take (i := 10) (v := ?v43) rfl (by kernel_rfl) (by kernel_rfl) (by kernel_rfl) (fun _ _ _ h => by first | exact h | exact absurd h.1 (fun e => by cases e)) (Or.inl ⟨by rfl, ?hy43⟩) (by assumption) ?rest43
    case hy43 =>
      intro w hSw
      obtain ⟨a0, a1⟩ := HF w hSw
      go_simp
      try with_reducible rfl
    go_simp
    refine wpAnyH_done (by kernel_rfl) ?_ _
    go_simp
    go_wp2_with fail
    go_ret
    exact ⟨A', c', rfl, ⟨by rw [HLT.out]; have := HM.out.own; rw [HLT.out] at this; exact this, (Keeps.refl _ _).drew.trans HM.out.keeps⟩⟩
end Go.Proofs.Ytbfhbekocgdceaa
