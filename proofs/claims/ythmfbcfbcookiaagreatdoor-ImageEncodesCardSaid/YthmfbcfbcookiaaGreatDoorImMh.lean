/-
  Chapter 7's small state: the walk. Conditions: none.
-/
import Derived.Test.YthmfbcfbcookiaaGreatDoorImD
import Derived.Test.YthmfbcfbcookiaaGreatDoorImS
import Derived.Test.YthmfbcfbcookiaaGreatDoorWMh
namespace Go.Proofs.YthmfbcfbcookiaaGreatDoor
open Go.RowKit
def smallSt : St := ⟨[⟨0, 0, false⟩, ⟨0, 0, false⟩], [⟨3, 0, 0, 0, 0, 0⟩, ⟨0, 1, 0, 0, 0, 0⟩], [[0], [], [], [], [], [], [1], []], 1, 0, 0, 0⟩
theorem small_check : (checkP smallSt).1 = 0 := by decide
theorem small_len : (img smallSt).length = 91 := by decide
set_option maxRecDepth 100000 in
set_option maxHeartbeats 4000000 in
theorem small_any (w : World) : Calls Tryz.prog 17 #[] w fun e w' => ∃ (Ap Ac Az : Option Addr) (cp cc cz : Nat), e = .returned (stV smallSt Ap Ac Az cp cc cz) ∧ StIn w' w'.heap.size smallSt Ap Ac Az ∧ Keeps (fun _ => False) w w' := by
  have hmk : ∀ w : World, (Instr.makeSlice 22 (.int .i64 2) (.int .i64 2)).run Tryz.prog w = .ok (.slice (some ⟨w.heap.size, 0, none⟩) 2 2) (w.alloc (.cells #[.int .i32 0, .int .i32 0, .bool false, .int .i32 0, .int .i32 0, .bool false] 44)) := fun w => by
    have h := make_rows 22 44 (.agg #[.int .i32 0, .int .i32 0, .bool false]) 3 12 Tryz.underlying22 info_pl 2 (by decide) (by decide) w
    have e : madeCells (Value.agg #[.int .i32 0, .int .i32 0, .bool false]).cells (2 * 3) = #[.int .i32 0, .int .i32 0, .bool false, .int .i32 0, .int .i32 0, .bool false] := by kernel_rfl
    rw [e] at h
    exact h
  have m0 := Whole.made w 27 #[.slice (some ⟨w.heap.size + 1, 0, none⟩) 2 2, .slice (some ⟨w.heap.size + 1 + 1, 0, none⟩) 2 2, .slice (some ⟨w.heap.size + 1 + 1 + 1 + 1 + 1, 0, none⟩) 8 8, .int .i32 1, .int .i64 0, .int .i8 0, .int .i64 0]
  obtain ⟨w0, hw0⟩ : ∃ z, z = (w.alloc (.cells #[.slice (some ⟨w.heap.size + 1, 0, none⟩) 2 2, .slice (some ⟨w.heap.size + 1 + 1, 0, none⟩) 2 2, .slice (some ⟨w.heap.size + 1 + 1 + 1 + 1 + 1, 0, none⟩) 8 8, .int .i32 1, .int .i64 0, .int .i8 0, .int .i64 0] 27)) := ⟨_, rfl⟩
  have z0 : w0.heap.size = w.heap.size + 1 := by rw [hw0]; simp
  have k0 : Keeps (fun _ => False) w w0 := by rw [hw0]; exact (Keeps.refl _ _).alloc _
  rw [← hw0] at m0
  have m1 := Whole.made w0 44 #[.int .i32 0, .int .i32 0, .bool false, .int .i32 0, .int .i32 0, .bool false]
  obtain ⟨w1, hw1⟩ : ∃ z, z = w0.alloc (.cells #[.int .i32 0, .int .i32 0, .bool false, .int .i32 0, .int .i32 0, .bool false] 44) := ⟨_, rfl⟩
  have z1 : w1.heap.size = w.heap.size + 1 + 1 := by rw [hw1, World.size_alloc, z0]
  have k1 : Keeps (fun _ => False) w0 w1 := by rw [hw1]; exact (Keeps.refl _ _).alloc _
  rw [← hw1, z0] at m1
  have m2 := Whole.made w1 42 #[.int .i64 3, .int .i64 0, .int .i32 0, .int .i32 0, .int .i32 0, .int .i32 0, .int .i64 0, .int .i64 1, .int .i32 0, .int .i32 0, .int .i32 0, .int .i32 0]
  obtain ⟨w2, hw2⟩ : ∃ z, z = w1.alloc (.cells #[.int .i64 3, .int .i64 0, .int .i32 0, .int .i32 0, .int .i32 0, .int .i32 0, .int .i64 0, .int .i64 1, .int .i32 0, .int .i32 0, .int .i32 0, .int .i32 0] 42) := ⟨_, rfl⟩
  have z2 : w2.heap.size = w.heap.size + 1 + 1 + 1 := by rw [hw2, World.size_alloc, z1]
  have k2 : Keeps (fun _ => False) w1 w2 := by rw [hw2]; exact (Keeps.refl _ _).alloc _
  rw [← hw2, z1] at m2
  have m3 := Whole.made w2 3 #[.int .i64 0]
  obtain ⟨w3, hw3⟩ : ∃ z, z = w2.alloc (.cells #[.int .i64 0] 3) := ⟨_, rfl⟩
  have z3 : w3.heap.size = w.heap.size + 1 + 1 + 1 + 1 := by rw [hw3, World.size_alloc, z2]
  have k3 : Keeps (fun _ => False) w2 w3 := by rw [hw3]; exact (Keeps.refl _ _).alloc _
  rw [← hw3, z2] at m3
  have m4 := Whole.made w3 3 #[.int .i64 1]
  obtain ⟨w4, hw4⟩ : ∃ z, z = w3.alloc (.cells #[.int .i64 1] 3) := ⟨_, rfl⟩
  have z4 : w4.heap.size = w.heap.size + 1 + 1 + 1 + 1 + 1 := by rw [hw4, World.size_alloc, z3]
  have k4 : Keeps (fun _ => False) w3 w4 := by rw [hw4]; exact (Keeps.refl _ _).alloc _
  rw [← hw4, z3] at m4
  have m5 := Whole.made w4 90 #[.slice (some ⟨w.heap.size + 1 + 1 + 1, 0, none⟩) 1 1, .slice none 0 0, .slice none 0 0, .slice none 0 0, .slice none 0 0, .slice none 0 0, .slice (some ⟨w.heap.size + 1 + 1 + 1 + 1, 0, none⟩) 1 1, .slice none 0 0]
  obtain ⟨w5, hw5⟩ : ∃ z, z = w4.alloc (.cells #[.slice (some ⟨w.heap.size + 1 + 1 + 1, 0, none⟩) 1 1, .slice none 0 0, .slice none 0 0, .slice none 0 0, .slice none 0 0, .slice none 0 0, .slice (some ⟨w.heap.size + 1 + 1 + 1 + 1, 0, none⟩) 1 1, .slice none 0 0] 90) := ⟨_, rfl⟩
  have z5 : w5.heap.size = w.heap.size + 1 + 1 + 1 + 1 + 1 + 1 := by rw [hw5, World.size_alloc, z4]
  have k5 : Keeps (fun _ => False) w4 w5 := by rw [hw5]; exact (Keeps.refl _ _).alloc _
  rw [← hw5, z4] at m5
  have M0 := Lib.hid (((((m0.keeps k1 id).keeps k2 id).keeps k3 id).keeps k4 id).keeps k5 id)
  have M1 := Lib.hid ((((m1.keeps k2 id).keeps k3 id).keeps k4 id).keeps k5 id)
  have M2 := Lib.hid (((m2.keeps k3 id).keeps k4 id).keeps k5 id)
  have M3 := Lib.hid ((m3.keeps k4 id).keeps k5 id)
  have M4 := Lib.hid (m4.keeps k5 id)
  have M5 := Lib.hid m5
  have HK := Lib.hid (((((k0.trans k1).trans k2).trans k3).trans k4).trans k5)
  have HW := Lib.hid hw5
  have HZ := Lib.hid z5
  rw [hw4, hw3, hw2, hw1, hw0] at HW
  clear m0 m1 m2 m3 m4 m5 k0 k1 k2 k3 k4 k5 hw0 hw1 hw2 hw3 hw4 hw5 z0 z1 z2 z3 z4 z5
  go_enter Tryz.func17, Tryz.ntmps17
  go_wp2_with fail
  rw [← HW.out]
  refine bodyPost_ret (results_cell (by rfl) _ w.heap.size (by rfl) _ _ M0.out _ Tryz.underlying27 rfl sizeSt) rfl ⟨some ⟨w.heap.size + 1, 0, none⟩, some ⟨w.heap.size + 1 + 1, 0, none⟩, some ⟨w.heap.size + 1 + 1 + 1 + 1 + 1, 0, none⟩, 2, 2, 8, rfl, ⟨?_, ?_, ?_⟩, HK.out⟩
  · exact Lies.flies (fun _ => rfl) (by decide) (Lies.row (xs := flat Pl.cells smallSt.players) M1.out M1.out.inside)
  · exact Lies.flies (fun _ => rfl) (by decide) (Lies.row (xs := flat Cd.cells smallSt.cards) M2.out M2.out.inside)
  · have hz := HZ.out
    intro i r hi
    have hi8 : i < 8 := (List.getElem?_eq_some_iff.1 hi).1
    have hn : ∀ (c : Nat), w5.cell? ⟨w.heap.size + 1 + 1 + 1 + 1 + 1, 0 + i, none⟩ = some (.slice none 0 c) → r = [] → ∃ g off Ai ci, some (⟨w.heap.size + 1 + 1 + 1 + 1 + 1, 0, none⟩ : Addr) = some ⟨g, off, none⟩ ∧ g < w5.heap.size ∧ w5.cell? ⟨g, off + i, none⟩ = some (.slice Ai r.length ci) ∧ Lies w5 w5.heap.size Ai (r.map (Value.int .i64)) := fun c h e => by
      subst e
      exact ⟨_, 0, none, c, rfl, by omega, h, Lies.nil⟩
    rcases (show i = 0 ∨ i = 1 ∨ i = 2 ∨ i = 3 ∨ i = 4 ∨ i = 5 ∨ i = 6 ∨ i = 7 by omega) with rfl | rfl | rfl | rfl | rfl | rfl | rfl | rfl
    · obtain rfl : [0] = r := Option.some.inj hi
      exact ⟨_, 0, some ⟨w.heap.size + 1 + 1 + 1, 0, none⟩, 1, rfl, by omega, M5.out.cellAt 0, Lies.row (xs := [.int .i64 0]) M3.out M3.out.inside⟩
    · exact hn 0 (M5.out.cellAt 1) (Option.some.inj hi).symm
    · exact hn 0 (M5.out.cellAt 2) (Option.some.inj hi).symm
    · exact hn 0 (M5.out.cellAt 3) (Option.some.inj hi).symm
    · exact hn 0 (M5.out.cellAt 4) (Option.some.inj hi).symm
    · exact hn 0 (M5.out.cellAt 5) (Option.some.inj hi).symm
    · obtain rfl : [1] = r := Option.some.inj hi
      exact ⟨_, 0, some ⟨w.heap.size + 1 + 1 + 1 + 1, 0, none⟩, 1, rfl, by omega, M5.out.cellAt 6, Lies.row (xs := [.int .i64 1]) M4.out M4.out.inside⟩
    · exact hn 0 (M5.out.cellAt 7) (Option.some.inj hi).symm
end Go.Proofs.YthmfbcfbcookiaaGreatDoor
/-
  Chapter 7's works: the walk. Conditions: none.
-/
namespace Go.Proofs.YthmfbcfbcookiaaGreatDoor
open Go.RowKit
theorem own_cap {w : World} {base size n cap : Nat} {e : TypeId} {A : Option Addr} {xs : List Value} (h : w.ownsRow base e size (.slice A n cap) n xs) : n ≤ cap := by
  rcases h.2 with ⟨h1, h2⟩ | ⟨g, cap', cur, hv, _, _, hc, _⟩
  · omega
  · injection hv with _ _ h3
    omega
theorem small_small : StSmall smallSt := ⟨by decide, by decide, by decide, by decide⟩
theorem small_good : GoodSt smallSt := (mayI small_check).good ⟨by decide, by decide⟩
set_option maxRecDepth 100000 in
set_option maxHeartbeats 4000000 in
theorem works07_any (w : World) : Calls Tryz.prog 4 #[] w fun e w' => e = .returned (.bool true) ∧ Keeps (fun _ => False) w w' := by
  obtain ⟨s0, HA, HSM, HG, HCK, HTU, hn0⟩ : ∃ s0 : St, Hid (∀ w, Calls Tryz.prog 17 #[] w fun e w' => ∃ (Ap Ac Az : Option Addr) (cp cc cz : Nat), e = .returned (stV s0 Ap Ac Az cp cc cz) ∧ StIn w' w'.heap.size s0 Ap Ac Az ∧ Keeps (fun _ => False) w w') ∧ Hid (StSmall s0) ∧ Hid (GoodSt s0) ∧ Hid ((checkP s0).1 = 0) ∧ Hid (in32 s0.turn) ∧ (img s0).length = 91 :=
    ⟨smallSt, Lib.hid small_any, Lib.hid small_small, Lib.hid small_good, Lib.hid small_check, Lib.hid ⟨by decide, by decide⟩, small_len⟩
  obtain ⟨n, hn⟩ : ∃ n, n = (img s0).length := ⟨_, rfl⟩
  have HN91 := Lib.hid (hn.trans hn0)
  have HN := Lib.hid hn
  clear hn0
  go_enter Tryz.func4, Tryz.ntmps4
  clear hn
  go_wp2_with fail
  refine (HA.out w).mono ?_
  rintro e w1 ⟨Ap, Ac, Az, cp, cc, cz, rfl, h1, k1⟩
  have HE := encode_yes s0 Ap Ac Az w1.heap.size cp cc cz w1 h1 (Nat.le_refl _) HSM.out HCK.out HTU.out
  rw [← HN.out] at HE
  have K1 := Lib.hid k1
  clear h1 k1
  go_wp2_with fail
  refine HE.mono ?_
  clear HE
  rintro e w2 ⟨A, cap, rfl, own2, k2⟩
  have K2 := Lib.hid (K1.out.trans k2)
  have hcap := own_cap own2
  have HD := decode_yes A w2.heap.size cap (img s0) s0 _ w2 (own_lies own2) (Nat.le_refl _) (by rw [← HN.out]; exact hcap) (by rw [← HN.out, HN91.out]; decide) (read_img HG.out) HCK.out
  rw [← HN.out] at HD
  clear own2 k2 K1 hcap
  go_wp2_with fail
  refine HD.mono ?_
  clear HD
  rintro e w3 ⟨Ap, Ac, Az, cp, cc, cz, cells, rfl, c3, _, k3⟩
  obtain ⟨w4, hw4⟩ : ∃ z, z = w3.alloc (.cells (stC s0 Ap Ac Az cp cc cz) 27) := ⟨_, rfl⟩
  have k4 : Keeps (fun _ => False) w3 w4 := by rw [hw4]; exact (Keeps.refl _ _).alloc _
  have B4 : Hid (Whole w4 w3.heap.size 27 (stC s0 Ap Ac Az cp cc cz)) := Lib.hid (by rw [hw4]; exact Whole.made _ _ _)
  have L4 := Lib.hid (c3.lies.past k4)
  have K4 := Lib.hid ((K2.out.trans k3).trans k4)
  unfold stC at hw4 B4
  clear k3 k4 K2 c3
  show _
  unfold stC
  go_wp2_with fail
  rw [← hw4]
  clear hw4
  refine (HA.out w4).mono ?_
  rintro e w5 ⟨Bp, Bc, Bz, dp, dc, dz, rfl, h5, k5⟩
  have HS := imSum_yes s0 Bp Bc Bz w5.heap.size dp dc dz w5 h5 (Nat.le_refl _) HSM.out HCK.out HTU.out
  have B5 := Lib.hid (B4.out.keeps k5 id)
  have L5 := Lib.hid (L4.out.past k5)
  have K5 := Lib.hid (K4.out.trans k5)
  clear h5 k5 B4 L4 K4
  go_wp2_with fail
  refine HS.mono ?_
  clear HS
  rintro e w6 ⟨rfl, k6⟩
  have B6 := Lib.hid (B5.out.keeps k6 id)
  have L6 := Lib.hid (L5.out.past k6)
  have K6 := Lib.hid (K5.out.trans k6)
  clear k6 B5 L5 K5
  have HFs : ∀ W, Keeps (fun _ => False) w6 W → W.cell? ⟨w3.heap.size, 0, none⟩ = some (.slice Ap s0.players.length cp) ∧ W.cell? ⟨w3.heap.size, 1, none⟩ = some (.slice Ac s0.cards.length cc) ∧ W.cell? ⟨w3.heap.size, 2, none⟩ = some (.slice Az s0.zones.length cz) ∧ W.cell? ⟨w3.heap.size, 3, none⟩ = some (.int .i32 s0.turn) ∧ W.cell? ⟨w3.heap.size, 4, none⟩ = some (.int .i64 s0.whose) ∧ W.cell? ⟨w3.heap.size, 5, none⟩ = some (.int .i8 s0.fin) ∧ W.cell? ⟨w3.heap.size, 6, none⟩ = some (.int .i64 s0.winner) := fun W hW => by
    obtain ⟨h0, h1, h2, h3, h4, h5, h6, _⟩ := seven (B6.out.keeps hW id)
    exact ⟨h0, h1, h2, h3, h4, h5, h6⟩
  have hcmp : ((n : Int) == 91) = true := by rw [HN91.out]; rfl
  go_wp2_with fail
  refine wp_region_held_drew (S := fun W => Keeps (fun _ => False) w6 W) (by kernel_rfl) ((Keeps.refl _ w6).drew) ?_
  intro hSn
  refine wpAnyH_take (i := 0) (v := ?v1) rfl (by kernel_rfl) (by kernel_rfl) (by kernel_rfl) (fun _ _ _ h => by first | exact h | exact absurd h.1 (fun e => by cases e)) (Or.inl ⟨by rfl, ?hy1⟩) (by assumption) ?rest1
  case hy1 =>
    intro w hSw
    skip
    go_simp
    try with_reducible rfl
  go_simp
  refine wpAnyH_take (i := 1) (v := ?v2) rfl (by kernel_rfl) (by kernel_rfl) (by kernel_rfl) (fun _ _ _ h => by first | exact h | exact absurd h.1 (fun e => by cases e)) (Or.inl ⟨by rfl, ?hy2⟩) (by assumption) ?rest2
  case hy2 =>
    intro w hSw
    skip
    go_simp
    try with_reducible rfl
  go_simp
  refine wpAnyH_take (i := 2) (v := ?v3) rfl (by kernel_rfl) (by kernel_rfl) (by kernel_rfl) (fun _ _ _ h => by first | exact h | exact absurd h.1 (fun e => by cases e)) (Or.inl ⟨by rfl, ?hy3⟩) (by assumption) ?rest3
  case hy3 =>
    intro w hSw
    skip
    go_simp
    try with_reducible rfl
  go_simp
  refine wpAnyH_take (i := 3) (v := ?v4) rfl (by kernel_rfl) (by kernel_rfl) (by kernel_rfl) (fun _ _ _ h => by first | exact h | exact absurd h.1 (fun e => by cases e)) (Or.inl ⟨by rfl, ?hy4⟩) (by assumption) ?rest4
  case hy4 =>
    intro w hSw
    skip
    go_simp
    try with_reducible rfl
  go_simp
  refine wpAnyH_take (i := 4) (v := ?v5) rfl (by kernel_rfl) (by kernel_rfl) (by kernel_rfl) (fun _ _ _ h => by first | exact h | exact absurd h.1 (fun e => by cases e)) (Or.inl ⟨by rfl, ?hy5⟩) (by assumption) ?rest5
  case hy5 =>
    intro w hSw
    skip
    go_simp
    try with_reducible rfl
  go_simp
  refine wpAnyH_take (i := 5) (v := ?v6) rfl (by kernel_rfl) (by kernel_rfl) (by kernel_rfl) (fun _ _ _ h => by first | exact h | exact absurd h.1 (fun e => by cases e)) (Or.inl ⟨by rfl, ?hy6⟩) (by assumption) ?rest6
  case hy6 =>
    intro w hSw
    skip
    go_simp
    try with_reducible rfl
  go_simp
  refine wpAnyH_take (i := 6) (v := ?v7) rfl (by kernel_rfl) (by kernel_rfl) (by kernel_rfl) (fun _ _ _ h => by first | exact h | exact absurd h.1 (fun e => by cases e)) (Or.inl ⟨by rfl, ?hy7⟩) (by assumption) ?rest7
  case hy7 =>
    intro w hSw
    skip
    go_simp
    try with_reducible rfl
  go_simp
  refine wpAnyH_take (i := 7) (v := ?v8) rfl (by kernel_rfl) (by kernel_rfl) (by kernel_rfl) (fun _ _ _ h => by first | exact h | exact absurd h.1 (fun e => by cases e)) (Or.inl ⟨by rfl, ?hy8⟩) (by assumption) ?rest8
  case hy8 =>
    intro w hSw
    skip
    go_simp
    try with_reducible rfl
  go_simp
  refine wpAnyH_take (i := 8) (v := ?v9) rfl (by kernel_rfl) (by kernel_rfl) (by kernel_rfl) (fun _ _ _ h => by first | exact h | exact absurd h.1 (fun e => by cases e)) (Or.inl ⟨by rfl, ?hy9⟩) (by assumption) ?rest9
  case hy9 =>
    intro w hSw
    skip
    go_simp
    try with_reducible rfl
  go_simp
  refine wpAnyH_take (i := 9) (v := ?v10) rfl (by kernel_rfl) (by kernel_rfl) (by kernel_rfl) (fun _ _ _ h => by first | exact h | exact absurd h.1 (fun e => by cases e)) (Or.inl ⟨by rfl, ?hy10⟩) (by assumption) ?rest10
  case hy10 =>
    intro w hSw
    skip
    go_simp
    try with_reducible rfl
  go_simp
  refine wpAnyH_take (i := 10) (v := ?v11) rfl (by kernel_rfl) (by kernel_rfl) (by kernel_rfl) (fun _ _ _ h => by first | exact h | exact absurd h.1 (fun e => by cases e)) (Or.inl ⟨by rfl, ?hy11⟩) (by assumption) ?rest11
  case hy11 =>
    intro w hSw
    skip
    go_simp
    try with_reducible rfl
  go_simp
  refine wpAnyH_take (i := 11) (v := ?v12) rfl (by kernel_rfl) (by kernel_rfl) (by kernel_rfl) (fun _ _ _ h => by first | exact h | exact absurd h.1 (fun e => by cases e)) (Or.inl ⟨by rfl, ?hy12⟩) (by assumption) ?rest12
  case hy12 =>
    intro w hSw
    skip
    go_simp
    try with_reducible rfl
  go_simp
  refine wpAnyH_take (i := 12) (v := ?v13) rfl (by kernel_rfl) (by kernel_rfl) (by kernel_rfl) (fun _ _ _ h => by first | exact h | exact absurd h.1 (fun e => by cases e)) (Or.inl ⟨by rfl, ?hy13⟩) (by assumption) ?rest13
  case hy13 =>
    intro w hSw
    skip
    go_simp
    try with_reducible rfl
  go_simp
  refine wpAnyH_take (i := 13) (v := ?v14) rfl (by kernel_rfl) (by kernel_rfl) (by kernel_rfl) (fun _ _ _ h => by first | exact h | exact absurd h.1 (fun e => by cases e)) (Or.inl ⟨by rfl, ?hy14⟩) (by assumption) ?rest14
  case hy14 =>
    intro w hSw
    skip
    go_simp
    try with_reducible rfl
  go_simp
  refine wpAnyH_take (i := 14) (v := ?v15) rfl (by kernel_rfl) (by kernel_rfl) (by kernel_rfl) (fun _ _ _ h => by first | exact h | exact absurd h.1 (fun e => by cases e)) (Or.inl ⟨by rfl, ?hy15⟩) (by assumption) ?rest15
  case hy15 =>
    intro w hSw
    skip
    go_simp
    try with_reducible rfl
  go_simp
  refine wpAnyH_take (i := 15) (v := ?v16) rfl (by kernel_rfl) (by kernel_rfl) (by kernel_rfl) (fun _ _ _ h => by first | exact h | exact absurd h.1 (fun e => by cases e)) (Or.inl ⟨by rfl, ?hy16⟩) (by assumption) ?rest16
  case hy16 =>
    intro w hSw
    skip
    go_simp
    try with_reducible rfl
  go_simp
  refine wpAnyH_take (i := 16) (v := .agg #[.slice Ap s0.players.length cp, .slice Ac s0.cards.length cc, .slice Az s0.zones.length cz, .int .i32 s0.turn, .int .i64 s0.whose, .int .i8 s0.fin, .int .i64 s0.winner]) rfl (by kernel_rfl) (by kernel_rfl) (by kernel_rfl) (fun _ _ _ h => by first | exact h | exact absurd h.1 (fun e => by cases e)) (Or.inl ⟨by rfl, ?hyL⟩) (by assumption) ?restL
  case hyL =>
    intro w hSw
    obtain ⟨m0, m1, m2, m3, m4, m5, m6⟩ := HFs w hSw
    go_simp
    try with_reducible rfl
  go_simp
  refine wpAnyH_ready (rs := [17]) (by kernel_rfl) (by simp) ?_
  refine AllReadyH.cons rfl (fun K hK => ?_) AllReadyH.nil
  go_simp
  refine (HA.out _).mono ?_
  rintro e w7 ⟨Cp, Cc, Cz, ep, ec, ez, rfl, h7, k7⟩
  have H7 := Lib.hid h7
  have hS7 := hSn.trans k7
  clear h7
  refine hK.out _ _ (hSn.trans k7) (fun hSn => ?_)
  clear hK K
  go_simp
  refine wpAnyH_ready (rs := [18]) (by kernel_rfl) (by simp) ?_
  refine AllReadyH.cons rfl (fun K hK => ?_) AllReadyH.nil
  go_simp
  refine (eqState_any s0 s0 Ap Ac Az Cp Cc Cz _ cp cc cz ep ec ez _ (L6.out.past hSn) H7.out (Nat.le_refl _) HSM.out).mono ?_
  rintro e w8 ⟨rfl, k8⟩
  refine hK.out _ _ (hSn.trans k8) (fun hSn => ?_)
  clear hK K
  go_simp
  refine wpAnyH_take (i := 19) (v := ?v17) rfl (by kernel_rfl) (by kernel_rfl) (by kernel_rfl) (fun _ _ _ h => by first | exact h | exact absurd h.1 (fun e => by cases e)) (Or.inl ⟨by rfl, ?hy17⟩) (by assumption) ?rest17
  case hy17 =>
    intro w hSw
    skip
    go_simp
    try with_reducible rfl
  go_simp
  refine wpAnyH_take (i := 20) (v := ?v18) rfl (by kernel_rfl) (by kernel_rfl) (by kernel_rfl) (fun _ _ _ h => by first | exact h | exact absurd h.1 (fun e => by cases e)) (Or.inl ⟨by rfl, ?hy18⟩) (by assumption) ?rest18
  case hy18 =>
    intro w hSw
    skip
    go_simp
    try with_reducible rfl
  go_simp
  refine wpAnyH_done (by kernel_rfl) ?_ _
  go_wp2_with fail
  go_ret
  exact ⟨rfl, K6.out.trans hSn⟩
end Go.Proofs.YthmfbcfbcookiaaGreatDoor
