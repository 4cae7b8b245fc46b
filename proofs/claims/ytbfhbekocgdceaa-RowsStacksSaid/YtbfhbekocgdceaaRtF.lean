/-
  RowsStacks: does at a call of Done: the walks. Conditions: lengths within 9 * 10 ^ 8.
-/
import Derived.Test.YtbfhbekocgdceaaRtE
namespace Go.Proofs.Ytbfhbekocgdceaa
open Go.RowKit
set_option maxRecDepth 100000 in
set_option maxHeartbeats 2000000 in
theorem does_done (sp rp hb : Nat) (A : Option Addr) (c : Nat) (l : List Int) (n : Nat) (most : Int) (D : Option Addr) (cd : Nat) (U : Option Addr) (cu : Nat) (rows : List Sl) (HA : Option Addr) (hc : Nat) (on y : Int) (w : World) (h : PairS w sp rp A c l n most D cd U cu) (hh : HeldIn w hb rows HA hc) (hd : ∀ b, PairS.foot sp rp A D U b → ¬ HeldIn.foot hb HA rows b) (hl : l.length < 900000000) (hr : rows.length ≤ 100000) :
    Calls Try.prog 40 #[.pointer (some ⟨sp, 0, none⟩), .pointer (some ⟨rp, 0, none⟩), .agg #[.int .i64 3, .int .i64 on, .int .i64 y], .pointer (some ⟨hb, 0, none⟩)] w fun e w' => e = .returned (.bool true) ∧ ∃ r HA' hc', HeldIn w' hb (rows ++ [r]) HA' hc' ∧ Keeps (HeldIn.foot hb HA rows) w w' ∧ ∀ b, HeldIn.foot hb HA' (rows ++ [r]) b → HeldIn.foot hb HA rows b ∨ w.heap.size ≤ b := by
  have HP := Lib.hid h
  have HH := Lib.hid hh
  have HD := Lib.hid hd
  have hle := h.st.le
  have hln : (l.take n).length = n := by rw [List.length_take]; omega
  have HLN := Lib.hid hln
  clear h hh hd hln
  go_enter Try.func40, Try.ntmps40
  go_wp2_with fail
  have K1 : Hid (Keeps (fun _ => False) w (w.alloc (.cells #[.int .i64 3, .int .i64 on, .int .i64 y] 76))) := Lib.hid ((Keeps.refl _ _).alloc _)
  obtain ⟨wa, hwa⟩ : ∃ z, z = w.alloc (.cells #[.int .i64 3, .int .i64 on, .int .i64 y] 76) := ⟨_, rfl⟩
  rw [← hwa] at K1 ⊢
  clear hwa
  have HP1 := Lib.hid (HP.out.calm K1.out (fun _ _ h => h))
  have HH1 := Lib.hid (HH.out.calm K1.out (fun _ _ h => h))
  refine (doneI_any sp c n most A l _ HP1.out.st (by omega)).mono ?_
  rintro e w1 ⟨A1, c1, rfl, hm⟩
  have HM := Lib.hid hm
  have HP2 := Lib.hid (HP1.out.calm hm.keeps (fun _ _ h => h))
  have HH2 := Lib.hid (HH1.out.calm hm.keeps (fun _ _ h => h))
  have a0 : w1.cell? ⟨hb, 0, none⟩ = some (.slice HA rows.length hc) := HH2.out.hW.cellAt 0
  have f0 : w1.frozen? ⟨hb, 0, none⟩ = false := HH2.out.hW.free 0
  have hbI := HH2.out.hW.inside
  rw [HLN.out]
  clear hm
  go_wp2_with (at_builtin; ((refine wpList_append_cells _ rfl (.tmp 82) (.tmp 84) 63 rfl (hb + 1) 44 (.slice none 0 0) 1 24 Try.underlying63 info_isR rfl (by decide) _ rows.length _ rfl (HH2.out.hO.alloc _) (w1.heap.size + 1) (some ⟨w1.heap.size, 0, none⟩) 1 1 [.slice A1 n c1] rfl (Lies.row (t := 44) (fr := (0, 0)) (heap_alloc_new w1 _) (by simp)) rfl (by simp [Value.oneCell']) (by unfold maxLen; omega) (by omega) (by simp; omega) ?_); intro A' cap' w2 h1 h2 h3 _ _; have HLO := Lib.hid h3; obtain ⟨hA, hB, hC, hD, x, hE⟩ := bag_next (j := 0) HH2.out.hW HH2.out.hO (Nat.lt_succ_self _) (by simp) h1 h2; have HA2 := Lib.hid hA; have HB2 := Lib.hid hB; have HC2 := Lib.hid hC; have HP3 := Lib.hid (HP2.out.calm hC (fun b hb1 hb2 => HD.out b hb1 (by rcases hb2 with hb2 | hb2; exact .inl hb2; exact .inr (.inl (by rw [own_any HA 0 rows.length 0 hc]; exact hb2))))); have b1 : (w2.setCell ⟨hb, 0, none⟩ (.slice A' (rows.length + 1) cap')).cell? ⟨rp, 1, none⟩ = some (.slice D n cd) := (by have h : (w2.setCell ⟨hb, 0, none⟩ (.slice A' (rows.length + 1) cap')).cell? ⟨rp, 1, none⟩ = some (.slice D (l.take n).length cd) := HP3.out.re.box.cellAt 1; rw [HLN.out] at h; exact h); clear hA hB hC h1 h2 h3 a0 f0))
  obtain ⟨w3, hw3⟩ : ∃ z, z = w2.setCell ⟨hb, 0, none⟩ (.slice A' (rows.length + 1) cap') := ⟨_, rfl⟩
  rw [← hw3] at HA2 HB2 HC2 HP3 ⊢
  clear hw3 b1
  have HM3 : Hid (w3.ownsRow wa.heap.size 3 1 (.slice A1 (l.take n).length c1) (l.take n).length ((l.take n).map (Value.int .i64))) := Lib.hid (own_keepsS HM.out.own HC2.out (fun b hb1 hb2 => by
    have h1 := (HM.out.own.lt b hb1).1
    have h2 := HH1.out.lt (b := b) (by rcases hb2 with hb2 | hb2; exact .inl hb2; exact .inr (.inl (by rw [own_any HA 0 rows.length 0 hc]; exact hb2)))
    omega))
  have HS := rsame_eq (l.take n) A1 D w3.heap.size w3.heap.size c1 cd w3 (own_lies HM3.out) (own_lies HP3.out.re.done) (by have := HLN.out; omega)
  rw [HLN.out] at HS
  refine HS.mono ?_
  rintro e w4 ⟨rfl, k4⟩
  clear HS
  have HF : Hid (HeldIn w4 hb (rows ++ [⟨A1, n, c1⟩]) A' cap') := Lib.hid ((HH2.out.more (w0 := wa) (r := ⟨A1, n, c1⟩) (xs := (l.take n).map (Value.int .i64)) (by have h := HM.out.own; rw [HLN.out] at h; exact h) (by show n ≤ 1000000000; omega) (fun b hb => HH1.out.lt hb) HA2.out HB2.out HC2.out).calm k4 (fun _ _ h => h))
  have HK : Hid (Keeps (HeldIn.foot hb HA rows) w w4) := Lib.hid ((((K1.out.trans HM.out.keeps).mono (T := HeldIn.foot hb HA rows) (fun _ _ h => h.elim)).trans (HC2.out.mono (T := HeldIn.foot hb HA rows) (fun b _ h => by rcases h with h | h; exact .inl h; exact .inr (.inl (by rw [own_any HA 0 rows.length 0 hc]; exact h))))).trans (k4.mono (T := HeldIn.foot hb HA rows) (fun _ _ h => h.elim)))
  have HN : Hid (∀ b, HeldIn.foot hb A' (rows ++ [⟨A1, n, c1⟩]) b → HeldIn.foot hb HA rows b ∨ w.heap.size ≤ b) := Lib.hid (fun b h => by
    have s1 := K1.out.size
    rcases h with h | h | h
    · exact .inl (.inl h)
    · rcases HLO.out with h2 | h2
      · rw [own_any A' 0 (rows.length + 1) 0 cap', h2] at h
        exact .inl (.inr (.inl (by rw [own_any HA 0 rows.length 0 hc]; exact h)))
      · rw [own_any A' 0 (rows.length + 1) 0 cap', h2] at h
        injection h with h
        have s2 := HM.out.keeps.size
        have : (w1.alloc (.cells #[.slice A1 n c1] 44)).heap.size = w1.heap.size + 1 := by simp
        exact .inr (by omega)
    · rcases blks_snoc h with h | h
      · exact .inl (.inr (.inr h))
      · have h1 := (HM.out.own.lt b (by rw [own_any A1 (l.take n).length n c1 c1]; exact h)).1
        exact .inr (by omega))
  clear k4
  go_wp2_with fail
  go_ret
  exact ⟨rfl, _, _, _, HF.out, HK.out, HN.out⟩
set_option maxRecDepth 100000 in
set_option maxHeartbeats 2000000 in
theorem does_done_nil (hb : Nat) (rows : List Sl) (HA : Option Addr) (hc : Nat) (on y : Int) (w : World) (hh : HeldIn w hb rows HA hc) (hr : rows.length ≤ 100000) :
    Calls Try.prog 40 #[.pointer none, .pointer none, .agg #[.int .i64 3, .int .i64 on, .int .i64 y], .pointer (some ⟨hb, 0, none⟩)] w fun e w' => e = .returned (.bool true) ∧ ∃ r HA' hc', HeldIn w' hb (rows ++ [r]) HA' hc' ∧ Keeps (HeldIn.foot hb HA rows) w w' ∧ ∀ b, HeldIn.foot hb HA' (rows ++ [r]) b → HeldIn.foot hb HA rows b ∨ w.heap.size ≤ b := by
  have HH := Lib.hid hh
  clear hh
  go_enter Try.func40, Try.ntmps40
  go_wp2_with fail
  have K1 : Hid (Keeps (fun _ => False) w (w.alloc (.cells #[.int .i64 3, .int .i64 on, .int .i64 y] 76))) := Lib.hid ((Keeps.refl _ _).alloc _)
  obtain ⟨wa, hwa⟩ : ∃ z, z = w.alloc (.cells #[.int .i64 3, .int .i64 on, .int .i64 y] 76) := ⟨_, rfl⟩
  rw [← hwa] at K1 ⊢
  clear hwa
  have HH1 := Lib.hid (HH.out.calm K1.out (fun _ _ h => h))
  refine (doneI_nil _).mono ?_
  rintro e w1 ⟨rfl, rfl⟩
  have a0 : w1.cell? ⟨hb, 0, none⟩ = some (.slice HA rows.length hc) := HH1.out.hW.cellAt 0
  have f0 : w1.frozen? ⟨hb, 0, none⟩ = false := HH1.out.hW.free 0
  have hbI := HH1.out.hW.inside
  go_wp2_with (at_builtin; ((refine wpList_append_cells _ rfl (.tmp 82) (.tmp 84) 63 rfl (hb + 1) 44 (.slice none 0 0) 1 24 Try.underlying63 info_isR rfl (by decide) _ rows.length _ rfl (HH1.out.hO.alloc _) (w1.heap.size + 1) (some ⟨w1.heap.size, 0, none⟩) 1 1 [.slice none 0 0] rfl (Lies.row (t := 44) (fr := (0, 0)) (heap_alloc_new w1 _) (by simp)) rfl (by simp [Value.oneCell']) (by unfold maxLen; omega) (by omega) (by simp; omega) ?_); intro A' cap' w2 h1 h2 h3 _ _; have HLO := Lib.hid h3; obtain ⟨hA, hB, hC, hD, x, hE⟩ := bag_next (j := 0) HH1.out.hW HH1.out.hO (Nat.lt_succ_self _) (by simp) h1 h2; have HA2 := Lib.hid hA; have HB2 := Lib.hid hB; have HC2 := Lib.hid hC; clear hA hB hC h1 h2 h3 a0 f0))
  go_ret
  have HF : Hid (HeldIn (w2.setCell ⟨hb, 0, none⟩ (.slice A' (rows.length + 1) cap')) hb (rows ++ [⟨none, 0, 0⟩]) A' cap') := Lib.hid (HH1.out.more (w0 := w1) (r := ⟨none, 0, 0⟩) (xs := []) (World.ownsRow_nil _ _ _ _) (Nat.zero_le _) (fun b hb => HH1.out.lt hb) HA2.out HB2.out HC2.out)
  refine ⟨rfl, _, _, _, HF.out, (K1.out.mono (T := HeldIn.foot hb HA rows) (fun _ _ h => h.elim)).trans (HC2.out.mono (T := HeldIn.foot hb HA rows) (fun b _ h => by rcases h with h | h; exact .inl h; exact .inr (.inl (by rw [own_any HA 0 rows.length 0 hc]; exact h)))), fun b h => ?_⟩
  have s1 := K1.out.size
  rcases h with h | h | h
  · exact .inl (.inl h)
  · rcases HLO.out with h2 | h2
    · rw [own_any A' 0 (rows.length + 1) 0 cap', h2] at h
      exact .inl (.inr (.inl (by rw [own_any HA 0 rows.length 0 hc]; exact h)))
    · rw [own_any A' 0 (rows.length + 1) 0 cap', h2] at h
      injection h with h
      have : (w1.alloc (.cells #[.slice none 0 0] 44)).heap.size = w1.heap.size + 1 := by simp
      exact .inr (by omega)
  · rcases blks_snoc h with h | h
    · exact .inl (.inr (.inr h))
    · cases h
end Go.Proofs.Ytbfhbekocgdceaa
