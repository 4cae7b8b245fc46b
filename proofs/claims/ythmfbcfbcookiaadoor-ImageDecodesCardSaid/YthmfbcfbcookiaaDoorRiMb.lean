/-
  The reference's Decode: the walk; what both Decode answer. Conditions: lengths within 2 ^ 40.
-/
import Derived.Test.YthmfbcfbcookiaaDoorRiC
import Derived.Test.YthmfbcfbcookiaaDoorImD
import Derived.Test.YthmfbcfbcookiaaDoorChE
import Derived.Test.YthmfbcfbcookiaaDoorStMd
namespace Go.Proofs.YthmfbcfbcookiaaDoor
open Go.RowKit
theorem flat_le_mul (k : Nat) : ∀ l : List (List Int), (∀ r ∈ l, r.length ≤ k) → l.flatten.length ≤ l.length * k := by
  intro l
  induction l with
  | nil => intro _; simp
  | cons a l ih =>
    intro h
    rw [List.flatten_cons, List.length_append, List.length_cons, Nat.succ_mul]
    have h1 := h a (by simp)
    have h2 := ih fun r hr => h r (by simp [hr])
    omega
theorem GoodSt.flat {s : St} (h : GoodSt s) : s.zones.flatten.length ≤ 1000000000 := by
  have h1 := h.np
  have h3 := h.nz
  have h4 := flat_le_mul 65535 s.zones (fun r hr => by have := (h.zn r hr).1; omega)
  omega
set_option maxRecDepth 100000 in
set_option maxHeartbeats 4000000 in
theorem refDecode_bad (A : Option Addr) (B cap : Nat) (b : List Oct) (q : Nat) (w : World) (hx : Lies w B A (bytesV b)) (hB : B ≤ w.heap.size) (hcap : b.length ≤ cap) (hl : b.length ≤ 1099511627776) (hq : readP b = .bad q) :
    Calls Tryd.prog 19 #[.slice A b.length cap] w fun e w' => e = .returned (.tuple #[.agg #[.slice none 0 0, .slice none 0 0, .slice none 0 0, .int .i32 0, .int .i64 0, .int .i8 0, .int .i64 0], .int .i64 12, .int .i64 q]) ∧ Keeps (fun _ => False) w w' := by
  have k0 := (Keeps.refl (fun _ => False) w).alloc (.cells #[.slice none 0 0, .slice none 0 0, .slice none 0 0, .int .i32 0, .int .i64 0, .int .i8 0, .int .i64 0] 27)
  have k1 := k0.alloc (.cells (rdC A b.length cap 0 false) 107)
  have m1 := Whole.made (w.alloc (.cells #[.slice none 0 0, .slice none 0 0, .slice none 0 0, .int .i32 0, .int .i64 0, .int .i8 0, .int .i64 0] 27)) 107 (rdC A b.length cap 0 false)
  rw [World.size_alloc] at m1
  have HR : Hid (RrAt ((w.alloc (.cells #[.slice none 0 0, .slice none 0 0, .slice none 0 0, .int .i32 0, .int .i64 0, .int .i8 0, .int .i64 0] 27)).alloc (.cells (rdC A b.length cap 0 false) 107)) (w.heap.size + 1) B A cap b 0 false) := Lib.hid ⟨m1, hx.keeps k1 (fun _ _ => id) hB, by omega, Nat.zero_le _, hcap⟩
  have HRES : Hid (Whole ((w.alloc (.cells #[.slice none 0 0, .slice none 0 0, .slice none 0 0, .int .i32 0, .int .i64 0, .int .i8 0, .int .i64 0] 27)).alloc (.cells (rdC A b.length cap 0 false) 107)) w.heap.size 27 #[.slice none 0 0, .slice none 0 0, .slice none 0 0, .int .i32 0, .int .i64 0, .int .i8 0, .int .i64 0]) := Lib.hid ((Whole.made w _ _).alloc _)
  have HC := refState_any (w.heap.size + 1) B A cap b _ HR.out hl
  have K1 := Lib.hid k1
  have HQ := Lib.hid hq
  unfold rdC at HR HRES HC K1
  clear hx k0 k1 m1 hq
  go_enter Tryd.func19, Tryd.ntmps19
  go_wp2_with fail
  refine HC.mono ?_
  rintro e w2 ⟨x, Ap, Ac, Az, cp, cc, cz, cells, hv, rfl, hr, hcp, hk⟩
  rw [HQ.out] at hr
  have H2 := Lib.hid hr
  have R2 := Lib.hid (HRES.out.keeps hk (by omega))
  have K2 : Hid (Keeps (fun _ => False) w w2) := Lib.hid (K1.out.and hk (fun k hk e => by omega))
  have hsz2 : w.heap.size ≤ w2.heap.size := K2.out.size
  have C2 : Hid (CopyIn w2 w.heap.size x Ap Ac Az cp cc cz cells) := Lib.hid ⟨own_base hcp.players (fun k hk => Nat.le_trans K1.out.size (hcp.players.lt k hk).1), own_base hcp.cards (fun k hk => Nat.le_trans K1.out.size (hcp.cards.lt k hk).1), RowsOwn.mono hcp.zones K1.out.size⟩
  clear hr hcp hk hv K1 HR HRES HC
  obtain ⟨z, hz⟩ : ∃ z, z = w2.alloc (.cells (stC x Ap Ac Az cp cc cz) 27) := ⟨_, rfl⟩
  have kz : Keeps (fun _ => False) w2 z := by rw [hz]; exact (Keeps.refl _ _).alloc _
  have ZB : Hid (Whole z w2.heap.size 27 (stC x Ap Ac Az cp cc cz)) := Lib.hid (by rw [hz]; exact Whole.made _ _ _)
  have H3 := Lib.hid (H2.out.keeps kz id (fun _ _ => id))
  have R3 := Lib.hid (R2.out.keeps kz id)
  have K3 := Lib.hid (K2.out.trans kz)
  have C3 := Lib.hid (C2.out.keeps kz (fun _ _ => id))
  unfold stC at hz
  have q1 : z.cell? ⟨w.heap.size + 1, 1, none⟩ = some (.int .i64 q) := H3.out.box.cellAt 1
  have q2 : z.cell? ⟨w.heap.size + 1, 2, none⟩ = some (.bool true) := H3.out.box.cellAt 2
  obtain ⟨a0, a1, a2, a3, a4, a5, a6, f0, f1, f2, f3, f4, f5, f6⟩ := seven R3.out
  rw [hz] at q2
  clear H2 R2 K2 kz C2
  show _
  unfold stC
  go_wp2_with fail
  rw [← hz]
  clear hz q2
  go_region
  all_goals
    go_wp2_with fail
    refine bodyPost_ret (results_cell3 (by rfl) _ w.heap.size (by rfl) #[.slice none 0 0, .slice none 0 0, .slice none 0 0, .int .i32 0, .int .i64 0, .int .i8 0, .int .i64 0] (.int .i64 12) (.int .i64 q) (by rfl) (by rfl) _ ((((((((R3.out.put 0 (.slice none 0 0)).put 1 (.slice none 0 0)).put 2 (.slice none 0 0)).put 3 (.int .i32 0)).put 4 (.int .i64 0)).put 5 (.int .i8 0)).put 6 (.int .i64 0))).drew _ Tryd.underlying27 rfl sizeSt) rfl ⟨rfl, (set7 K3.out (Nat.le_refl _) _ _ _ _ _ _ _).drew⟩
set_option maxRecDepth 100000 in
set_option maxHeartbeats 4000000 in
theorem refDecode_no (A : Option Addr) (B cap : Nat) (b : List Oct) (s : St) (j : Nat) (w : World) (hx : Lies w B A (bytesV b)) (hB : B ≤ w.heap.size) (hcap : b.length ≤ cap) (hl : b.length ≤ 1099511627776) (hq : readP b = .ok s j) (hc : (checkP s).1 = 10) :
    Calls Tryd.prog 19 #[.slice A b.length cap] w fun e w' => e = .returned (.tuple #[.agg #[.slice none 0 0, .slice none 0 0, .slice none 0 0, .int .i32 0, .int .i64 0, .int .i8 0, .int .i64 0], .int .i64 10, .int .i64 (checkP s).2]) ∧ Keeps (fun _ => False) w w' := by
  have k0 := (Keeps.refl (fun _ => False) w).alloc (.cells #[.slice none 0 0, .slice none 0 0, .slice none 0 0, .int .i32 0, .int .i64 0, .int .i8 0, .int .i64 0] 27)
  have k1 := k0.alloc (.cells (rdC A b.length cap 0 false) 107)
  have m1 := Whole.made (w.alloc (.cells #[.slice none 0 0, .slice none 0 0, .slice none 0 0, .int .i32 0, .int .i64 0, .int .i8 0, .int .i64 0] 27)) 107 (rdC A b.length cap 0 false)
  rw [World.size_alloc] at m1
  have HR : Hid (RrAt ((w.alloc (.cells #[.slice none 0 0, .slice none 0 0, .slice none 0 0, .int .i32 0, .int .i64 0, .int .i8 0, .int .i64 0] 27)).alloc (.cells (rdC A b.length cap 0 false) 107)) (w.heap.size + 1) B A cap b 0 false) := Lib.hid ⟨m1, hx.keeps k1 (fun _ _ => id) hB, by omega, Nat.zero_le _, hcap⟩
  have HRES : Hid (Whole ((w.alloc (.cells #[.slice none 0 0, .slice none 0 0, .slice none 0 0, .int .i32 0, .int .i64 0, .int .i8 0, .int .i64 0] 27)).alloc (.cells (rdC A b.length cap 0 false) 107)) w.heap.size 27 #[.slice none 0 0, .slice none 0 0, .slice none 0 0, .int .i32 0, .int .i64 0, .int .i8 0, .int .i64 0]) := Lib.hid ((Whole.made w _ _).alloc _)
  have HC := refState_any (w.heap.size + 1) B A cap b _ HR.out hl
  have K1 := Lib.hid k1
  have HQ := Lib.hid hq
  have HCK := Lib.hid hc
  clear hc
  unfold rdC at HR HRES HC K1
  clear hx k0 k1 m1 hq
  go_enter Tryd.func19, Tryd.ntmps19
  go_wp2_with fail
  refine HC.mono ?_
  rintro e w2 ⟨x, Ap, Ac, Az, cp, cc, cz, cells, hv, rfl, hr, hcp, hk⟩
  rw [HQ.out] at hr
  have H2 := Lib.hid hr
  have R2 := Lib.hid (HRES.out.keeps hk (by omega))
  have K2 : Hid (Keeps (fun _ => False) w w2) := Lib.hid (K1.out.and hk (fun k hk e => by omega))
  have hsz2 : w.heap.size ≤ w2.heap.size := K2.out.size
  have C2 : Hid (CopyIn w2 w.heap.size x Ap Ac Az cp cc cz cells) := Lib.hid ⟨own_base hcp.players (fun k hk => Nat.le_trans K1.out.size (hcp.players.lt k hk).1), own_base hcp.cards (fun k hk => Nat.le_trans K1.out.size (hcp.cards.lt k hk).1), RowsOwn.mono hcp.zones K1.out.size⟩
  clear hr hcp hk K1 HR HRES HC
  obtain rfl : x = s := hv s j HQ.out
  have hg := read_sound HQ.out
  have HG := Lib.hid hg.1.small
  have HFT := Lib.hid (GoodSt.flat hg.1)
  clear hg hv
  obtain ⟨z, hz⟩ : ∃ z, z = w2.alloc (.cells (stC x Ap Ac Az cp cc cz) 27) := ⟨_, rfl⟩
  have kz : Keeps (fun _ => False) w2 z := by rw [hz]; exact (Keeps.refl _ _).alloc _
  have ZB : Hid (Whole z w2.heap.size 27 (stC x Ap Ac Az cp cc cz)) := Lib.hid (by rw [hz]; exact Whole.made _ _ _)
  have H3 := Lib.hid (H2.out.keeps kz id (fun _ _ => id))
  have R3 := Lib.hid (R2.out.keeps kz id)
  have K3 := Lib.hid (K2.out.trans kz)
  have C3 := Lib.hid (C2.out.keeps kz (fun _ _ => id))
  unfold stC at hz
  have q2 : z.cell? ⟨w.heap.size + 1, 2, none⟩ = some (.bool false) := H3.out.box.cellAt 2
  obtain ⟨a0, a1, a2, a3, a4, a5, a6, f0, f1, f2, f3, f4, f5, f6⟩ := seven ZB.out
  rw [hz] at q2 a0 a1 a2 a3 a4 a5 a6
  have HK := refCheck_any x Ap Ac Az z.heap.size cp cc cz z C3.out.lies (Nat.le_refl _) HG.out HFT.out
  unfold stV at HK
  clear H2 R2 K2 kz C2
  show _
  unfold stC
  go_wp2_with fail
  rw [← hz]
  clear hz q2 a0 a1 a2 a3 a4 a5 a6 f0 f1 f2 f3 f4 f5 f6
  rw [HCK.out] at HK
  refine HK.mono ?_
  rintro e w4 ⟨rfl, k4⟩
  have R4 := Lib.hid (R3.out.keeps k4 id)
  have K4 := Lib.hid (K3.out.trans k4)
  clear k4 R3 K3 C3 H3 ZB
  obtain ⟨a0, a1, a2, a3, a4, a5, a6, f0, f1, f2, f3, f4, f5, f6⟩ := seven R4.out
  go_wp2_with fail
  refine bodyPost_ret (results_cell3 (by rfl) _ w.heap.size (by rfl) #[.slice none 0 0, .slice none 0 0, .slice none 0 0, .int .i32 0, .int .i64 0, .int .i8 0, .int .i64 0] (.int .i64 10) (.int .i64 (checkP x).2) (by rfl) (by rfl) _ (((((((R4.out.put 0 (.slice none 0 0)).put 1 (.slice none 0 0)).put 2 (.slice none 0 0)).put 3 (.int .i32 0)).put 4 (.int .i64 0)).put 5 (.int .i8 0)).put 6 (.int .i64 0)) _ Tryd.underlying27 rfl sizeSt) rfl ⟨rfl, set7 K4.out (Nat.le_refl _) _ _ _ _ _ _ _⟩
set_option maxRecDepth 100000 in
set_option maxHeartbeats 4000000 in
theorem refDecode_yes (A : Option Addr) (B cap : Nat) (b : List Oct) (s : St) (j : Nat) (w : World) (hx : Lies w B A (bytesV b)) (hB : B ≤ w.heap.size) (hcap : b.length ≤ cap) (hl : b.length ≤ 1099511627776) (hq : readP b = .ok s j) (hc : (checkP s).1 = 0) :
    Calls Tryd.prog 19 #[.slice A b.length cap] w fun e w' => ∃ (Ap Ac Az : Option Addr) (cp cc cz : Nat) (cells : List Value), e = .returned (.tuple #[.agg (stC s Ap Ac Az cp cc cz), .int .i64 0, .int .i64 0]) ∧ CopyIn w' w.heap.size s Ap Ac Az cp cc cz cells ∧ Keeps (fun _ => False) w w' := by
  have k0 := (Keeps.refl (fun _ => False) w).alloc (.cells #[.slice none 0 0, .slice none 0 0, .slice none 0 0, .int .i32 0, .int .i64 0, .int .i8 0, .int .i64 0] 27)
  have k1 := k0.alloc (.cells (rdC A b.length cap 0 false) 107)
  have m1 := Whole.made (w.alloc (.cells #[.slice none 0 0, .slice none 0 0, .slice none 0 0, .int .i32 0, .int .i64 0, .int .i8 0, .int .i64 0] 27)) 107 (rdC A b.length cap 0 false)
  rw [World.size_alloc] at m1
  have HR : Hid (RrAt ((w.alloc (.cells #[.slice none 0 0, .slice none 0 0, .slice none 0 0, .int .i32 0, .int .i64 0, .int .i8 0, .int .i64 0] 27)).alloc (.cells (rdC A b.length cap 0 false) 107)) (w.heap.size + 1) B A cap b 0 false) := Lib.hid ⟨m1, hx.keeps k1 (fun _ _ => id) hB, by omega, Nat.zero_le _, hcap⟩
  have HRES : Hid (Whole ((w.alloc (.cells #[.slice none 0 0, .slice none 0 0, .slice none 0 0, .int .i32 0, .int .i64 0, .int .i8 0, .int .i64 0] 27)).alloc (.cells (rdC A b.length cap 0 false) 107)) w.heap.size 27 #[.slice none 0 0, .slice none 0 0, .slice none 0 0, .int .i32 0, .int .i64 0, .int .i8 0, .int .i64 0]) := Lib.hid ((Whole.made w _ _).alloc _)
  have HC := refState_any (w.heap.size + 1) B A cap b _ HR.out hl
  have K1 := Lib.hid k1
  have HQ := Lib.hid hq
  have HCK := Lib.hid hc
  clear hc
  unfold rdC at HR HRES HC K1
  clear hx k0 k1 m1 hq
  go_enter Tryd.func19, Tryd.ntmps19
  go_wp2_with fail
  refine HC.mono ?_
  rintro e w2 ⟨x, Ap, Ac, Az, cp, cc, cz, cells, hv, rfl, hr, hcp, hk⟩
  rw [HQ.out] at hr
  have H2 := Lib.hid hr
  have R2 := Lib.hid (HRES.out.keeps hk (by omega))
  have K2 : Hid (Keeps (fun _ => False) w w2) := Lib.hid (K1.out.and hk (fun k hk e => by omega))
  have hsz2 : w.heap.size ≤ w2.heap.size := K2.out.size
  have C2 : Hid (CopyIn w2 w.heap.size x Ap Ac Az cp cc cz cells) := Lib.hid ⟨own_base hcp.players (fun k hk => Nat.le_trans K1.out.size (hcp.players.lt k hk).1), own_base hcp.cards (fun k hk => Nat.le_trans K1.out.size (hcp.cards.lt k hk).1), RowsOwn.mono hcp.zones K1.out.size⟩
  clear hr hcp hk K1 HR HRES HC
  obtain rfl : x = s := hv s j HQ.out
  have hg := read_sound HQ.out
  have HG := Lib.hid hg.1.small
  have HFT := Lib.hid (GoodSt.flat hg.1)
  clear hg hv
  obtain ⟨z, hz⟩ : ∃ z, z = w2.alloc (.cells (stC x Ap Ac Az cp cc cz) 27) := ⟨_, rfl⟩
  have kz : Keeps (fun _ => False) w2 z := by rw [hz]; exact (Keeps.refl _ _).alloc _
  have ZB : Hid (Whole z w2.heap.size 27 (stC x Ap Ac Az cp cc cz)) := Lib.hid (by rw [hz]; exact Whole.made _ _ _)
  have H3 := Lib.hid (H2.out.keeps kz id (fun _ _ => id))
  have R3 := Lib.hid (R2.out.keeps kz id)
  have K3 := Lib.hid (K2.out.trans kz)
  have C3 := Lib.hid (C2.out.keeps kz (fun _ _ => id))
  unfold stC at hz
  have q2 : z.cell? ⟨w.heap.size + 1, 2, none⟩ = some (.bool false) := H3.out.box.cellAt 2
  obtain ⟨a0, a1, a2, a3, a4, a5, a6, f0, f1, f2, f3, f4, f5, f6⟩ := seven ZB.out
  rw [hz] at q2 a0 a1 a2 a3 a4 a5 a6
  have HK := refCheck_any x Ap Ac Az z.heap.size cp cc cz z C3.out.lies (Nat.le_refl _) HG.out HFT.out
  unfold stV at HK
  clear H2 R2 K2 kz C2
  show _
  unfold stC
  go_wp2_with fail
  rw [← hz]
  clear hz q2 a0 a1 a2 a3 a4 a5 a6 f0 f1 f2 f3 f4 f5 f6
  rw [HCK.out, (checkP_ok HCK.out).2] at HK
  refine HK.mono ?_
  rintro e w4 ⟨rfl, k4⟩
  have R4 := Lib.hid (R3.out.keeps k4 id)
  have K4 := Lib.hid (K3.out.trans k4)
  have C4 := Lib.hid (C3.out.keeps k4 (fun _ _ => id))
  have Z4 := Lib.hid (ZB.out.keeps k4 id)
  clear k4 R3 K3 C3 H3 ZB
  unfold stC at Z4
  obtain ⟨a0, a1, a2, a3, a4, a5, a6, f0, f1, f2, f3, f4, f5, f6⟩ := seven R4.out
  obtain ⟨b0, b1, b2, b3, b4, b5, b6, g0, g1, g2, g3, g4, g5, g6⟩ := seven Z4.out
  clear g0 g1 g2 g3 g4 g5 g6
  go_wp2_with fail
  have hkw : Keeps (fun k => k = w.heap.size) w4 (((((((w4.setCell ⟨w.heap.size, 0, none⟩ (.slice Ap x.players.length cp)).setCell ⟨w.heap.size, 1, none⟩ (.slice Ac x.cards.length cc)).setCell ⟨w.heap.size, 2, none⟩ (.slice Az x.zones.length cz)).setCell ⟨w.heap.size, 3, none⟩ (.int .i32 x.turn)).setCell ⟨w.heap.size, 4, none⟩ (.int .i64 x.whose)).setCell ⟨w.heap.size, 5, none⟩ (.int .i8 x.fin)).setCell ⟨w.heap.size, 6, none⟩ (.int .i64 x.winner)) :=
    ((((((Keeps.setCell (S := fun k => k = w.heap.size) (Keeps.refl _ w4) (p := ⟨w.heap.size, 0, none⟩) (fun _ => rfl) _).setCell (p := ⟨w.heap.size, 1, none⟩) (fun _ => rfl) _).setCell (p := ⟨w.heap.size, 2, none⟩) (fun _ => rfl) _).setCell (p := ⟨w.heap.size, 3, none⟩) (fun _ => rfl) _).setCell (p := ⟨w.heap.size, 4, none⟩) (fun _ => rfl) _).setCell (p := ⟨w.heap.size, 5, none⟩) (fun _ => rfl) _).setCell (p := ⟨w.heap.size, 6, none⟩) (fun _ => rfl) _
  have hT := whole_ofKind R4.out
  refine bodyPost_ret (results_cell3 (by rfl) _ w.heap.size (by rfl) (stC x Ap Ac Az cp cc cz) (.int .i64 0) (.int .i64 0) (by rfl) (by rfl) _ (((((((R4.out.put 0 (.slice Ap x.players.length cp)).put 1 (.slice Ac x.cards.length cc)).put 2 (.slice Az x.zones.length cz)).put 3 (.int .i32 x.turn)).put 4 (.int .i64 x.whose)).put 5 (.int .i8 x.fin)).put 6 (.int .i64 x.winner)) _ Tryd.underlying27 rfl sizeSt) rfl ⟨Ap, Ac, Az, cp, cc, cz, cells, rfl, ?_, set7 K4.out (Nat.le_refl _) _ _ _ _ _ _ _⟩
  exact ⟨own_keepsT C4.out.players hkw hT (by decide), own_keepsT C4.out.cards hkw hT (by decide), rows_keepsT C4.out.zones hkw hT (by decide) (by decide)⟩
/-- What both Decode answer: the state, the error, the place. -/
def dS (b : List Oct) : St := match readP b with
  | .bad _ => zeroSt
  | .ok s _ => if (checkP s).1 = 0 then s else zeroSt
def dE (b : List Oct) : Int := match readP b with
  | .bad _ => 12
  | .ok s _ => if (checkP s).1 = 0 then 0 else 10
def dP (b : List Oct) : Int := match readP b with
  | .bad q => q
  | .ok s _ => if (checkP s).1 = 0 then 0 else (checkP s).2
theorem dS_small (b : List Oct) : StSmall (dS b) := by
  have hz : StSmall zeroSt := ⟨by decide, by decide, by decide, fun r hr => by cases hr⟩
  unfold dS
  cases hq : readP b with
  | bad q => exact hz
  | ok s j =>
    simp only
    split
    · exact (read_sound hq).1.small
    · exact hz
theorem copyIn_none (w : World) (lo : Nat) : CopyIn w lo zeroSt none none none 0 0 0 [] := ⟨World.ownsRow_nil _ _ _ _, World.ownsRow_nil _ _ _ _, RowsOwn.nil _ _⟩
theorem decodeAll_any (A : Option Addr) (B cap : Nat) (b : List Oct) (w : World) (hx : Lies w B A (bytesV b)) (hB : B ≤ w.heap.size) (hcap : b.length ≤ cap) (hl : b.length ≤ 1099511627776) :
    Calls Tryd.prog 12 #[.slice A b.length cap] w fun e w' => ∃ (Ap Ac Az : Option Addr) (cp cc cz : Nat) (cells : List Value), e = .returned (.tuple #[.agg (stC (dS b) Ap Ac Az cp cc cz), .int .i64 (dE b), .int .i64 (dP b)]) ∧ CopyIn w' w.heap.size (dS b) Ap Ac Az cp cc cz cells ∧ Apt cells ∧ Keeps (fun _ => False) w w' := by
  unfold dS dE dP
  cases hq : readP b with
  | bad q =>
    refine (decode_bad A B cap b q w hx hB hcap hl hq).mono ?_
    rintro e w' ⟨rfl, hk⟩
    exact ⟨none, none, none, 0, 0, 0, [], rfl, copyIn_none _ _, fun i j u v b hu => by simp at hu, hk⟩
  | ok s j =>
    simp only
    by_cases hc : (checkP s).1 = 0
    · rw [if_pos hc, if_pos hc, if_pos hc]
      exact decode_yes A B cap b s j w hx hB hcap hl hq hc
    · rw [if_neg hc, if_neg hc, if_neg hc]
      refine (decode_no A B cap b s j w hx hB hcap hl hq ((checkP_fst s).resolve_left hc)).mono ?_
      rintro e w' ⟨rfl, hk⟩
      exact ⟨none, none, none, 0, 0, 0, [], rfl, copyIn_none _ _, fun i j u v b hu => by simp at hu, hk⟩
theorem refDecodeAll_any (A : Option Addr) (B cap : Nat) (b : List Oct) (w : World) (hx : Lies w B A (bytesV b)) (hB : B ≤ w.heap.size) (hcap : b.length ≤ cap) (hl : b.length ≤ 1099511627776) :
    Calls Tryd.prog 19 #[.slice A b.length cap] w fun e w' => ∃ (Ap Ac Az : Option Addr) (cp cc cz : Nat) (cells : List Value), e = .returned (.tuple #[.agg (stC (dS b) Ap Ac Az cp cc cz), .int .i64 (dE b), .int .i64 (dP b)]) ∧ CopyIn w' w.heap.size (dS b) Ap Ac Az cp cc cz cells ∧ Keeps (fun _ => False) w w' := by
  unfold dS dE dP
  cases hq : readP b with
  | bad q =>
    refine (refDecode_bad A B cap b q w hx hB hcap hl hq).mono ?_
    rintro e w' ⟨rfl, hk⟩
    exact ⟨none, none, none, 0, 0, 0, [], rfl, copyIn_none _ _, hk⟩
  | ok s j =>
    simp only
    by_cases hc : (checkP s).1 = 0
    · rw [if_pos hc, if_pos hc, if_pos hc]
      exact refDecode_yes A B cap b s j w hx hB hcap hl hq hc
    · rw [if_neg hc, if_neg hc, if_neg hc]
      refine (refDecode_no A B cap b s j w hx hB hcap hl hq ((checkP_fst s).resolve_left hc)).mono ?_
      rintro e w' ⟨rfl, hk⟩
      exact ⟨none, none, none, 0, 0, 0, [], rfl, copyIn_none _ _, hk⟩
end Go.Proofs.YthmfbcfbcookiaaDoor
/-
  Two states that were read, in boxes, while bytes are written over: plain laws. Conditions: none.
-/
namespace Go.Proofs.YthmfbcfbcookiaaDoor
open Go.RowKit
def lsD (s : St) (Ap Ac Az : Option Addr) (cp cc cz : Nat) (cells : List Value) : Lists := ⟨⟨Ap, s.players.length, cp⟩, ⟨Ac, s.cards.length, cc⟩, ⟨Az, s.zones.length, cz⟩, cells.map slOf⟩
theorem ListsAt.keepsT {S : Nat → Prop} {w w' : World} {lo hi : Nat} {x : Lists} (h : ListsAt w lo hi x) (hk : Keeps S w w') (hS : OfKind w 5 S) : ListsAt w' lo hi x := by
  refine ⟨?_, ?_, ?_, fun i q hq => ?_, h.ap, h.bps, h.bcs, h.bzs, h.len, fun k u hu => ?_, h.lps, h.lcs, h.lzs⟩
  · obtain ⟨xs, hx⟩ := h.ps; exact ⟨xs, own_keepsT hx hk hS (by decide)⟩
  · obtain ⟨xs, hx⟩ := h.cs; exact ⟨xs, own_keepsT hx hk hS (by decide)⟩
  · obtain ⟨xs, hx⟩ := h.zs; exact ⟨xs, own_keepsT hx hk hS (by decide)⟩
  · obtain ⟨⟨xs, hx⟩, h2⟩ := h.rows i q hq; exact ⟨⟨xs, own_keepsT hx hk hS (by decide)⟩, h2⟩
  · obtain ⟨b, off, he, hb, hc⟩ := h.lies k u hu
    obtain ⟨xs, hx⟩ := h.zs
    have hbk : x.zs.val.ownBlock = some b := by unfold Sl.val; rw [he]; rfl
    obtain ⟨cs, fr, hg⟩ := own_ofKind hx b hbk
    refine ⟨b, off, he, hb, (hk.cell (hx.lt b hbk).2 fun hs => ?_).trans hc⟩
    obtain ⟨cs', fr', hg'⟩ := hS b hs
    rw [hg] at hg'
    injection hg' with hg'
    injection hg' with _ e _
    exact absurd e (by decide)
theorem CopyIn.keepsT {S : Nat → Prop} {w w' : World} {lo : Nat} {s : St} {Ap Ac Az : Option Addr} {cp cc cz : Nat} {cells : List Value} (h : CopyIn w lo s Ap Ac Az cp cc cz cells) (hk : Keeps S w w') (hS : OfKind w 5 S) : CopyIn w' lo s Ap Ac Az cp cc cz cells :=
  ⟨own_keepsT h.players hk hS (by decide), own_keepsT h.cards hk hS (by decide), rows_keepsT h.zones hk hS (by decide) (by decide)⟩
/-- A state in a box, its lists in a stretch of memory. -/
structure Dc (W : World) (bx lo hi : Nat) (s : St) (Ap Ac Az : Option Addr) (cp cc cz : Nat) (cells : List Value) : Prop where
  box : Whole W bx 27 (stC s Ap Ac Az cp cc cz)
  lists : ListsAt W lo hi (lsD s Ap Ac Az cp cc cz cells)
  copy : CopyIn W lo s Ap Ac Az cp cc cz cells
  inside : hi ≤ W.heap.size
section
variable {W W' : World} {bx lo hi : Nat} {s : St} {Ap Ac Az : Option Addr} {cp cc cz : Nat} {cells : List Value}
theorem Dc.calm (h : Dc W bx lo hi s Ap Ac Az cp cc cz cells) (hk : Keeps (fun _ => False) W W') : Dc W' bx lo hi s Ap Ac Az cp cc cz cells :=
  ⟨h.box.keeps hk id, h.lists.calm hk h.inside, h.copy.keeps hk (fun _ _ => id), Nat.le_trans h.inside hk.size⟩
theorem Dc.over {S : Nat → Prop} (h : Dc W bx lo hi s Ap Ac Az cp cc cz cells) (hk : Keeps S W W') (hS : OfKind W 5 S) : Dc W' bx lo hi s Ap Ac Az cp cc cz cells :=
  ⟨whole_keepsT h.box hk hS (by decide), h.lists.keepsT hk hS, h.copy.keepsT hk hS, Nat.le_trans h.inside hk.size⟩
theorem Dc.made (h : CopyIn W lo s Ap Ac Az cp cc cz cells) (ha : Apt cells) (hs : StSmall s) : Dc (W.alloc (.cells (stC s Ap Ac Az cp cc cz) 27)) W.heap.size lo W.heap.size s Ap Ac Az cp cc cz cells := by
  have hk : Keeps (fun _ => False) W (W.alloc (.cells (stC s Ap Ac Az cp cc cz) 27)) := (Keeps.refl _ _).alloc _
  exact ⟨Whole.made _ _ _, (ListsAt.of_copy h ha hs).calm hk (Nat.le_refl _), h.keeps hk (fun _ _ => id), hk.size⟩
end
/-- The answer that was wanted, in a box. -/
structure Dw (W : World) (bx lo : Nat) (s : St) (Ap Ac Az : Option Addr) (cp cc cz : Nat) (cells : List Value) : Prop where
  box : Whole W bx 27 (stC s Ap Ac Az cp cc cz)
  copy : CopyIn W lo s Ap Ac Az cp cc cz cells
section
variable {W W' : World} {bx lo : Nat} {s : St} {Ap Ac Az : Option Addr} {cp cc cz : Nat} {cells : List Value}
theorem Dw.calm (h : Dw W bx lo s Ap Ac Az cp cc cz cells) (hk : Keeps (fun _ => False) W W') : Dw W' bx lo s Ap Ac Az cp cc cz cells := ⟨h.box.keeps hk id, h.copy.keeps hk (fun _ _ => id)⟩
theorem Dw.over {S : Nat → Prop} (h : Dw W bx lo s Ap Ac Az cp cc cz cells) (hk : Keeps S W W') (hS : OfKind W 5 S) : Dw W' bx lo s Ap Ac Az cp cc cz cells := ⟨whole_keepsT h.box hk hS (by decide), h.copy.keepsT hk hS⟩
theorem Dw.made (h : CopyIn W lo s Ap Ac Az cp cc cz cells) : Dw (W.alloc (.cells (stC s Ap Ac Az cp cc cz) 27)) W.heap.size lo s Ap Ac Az cp cc cz cells := by
  have hk : Keeps (fun _ => False) W (W.alloc (.cells (stC s Ap Ac Az cp cc cz) 27)) := (Keeps.refl _ _).alloc _
  exact ⟨Whole.made _ _ _, h.keeps hk (fun _ _ => id)⟩
end
theorem ofKind_one {w : World} {g : Nat} {t : TypeId} {cs : Array Value} (h : Whole w g t cs) : OfKind w t (fun b => b = g) := whole_ofKind h
end Go.Proofs.YthmfbcfbcookiaaDoor
