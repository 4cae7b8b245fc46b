/-
  image.Decode: the walk. Conditions: lengths within 2 ^ 40.
-/
import Derived.Test.YthmfbcfbcookiaaGreatDoorImMe
import Derived.Test.YthmfbcfbcookiaaGreatDoorImMa
import Derived.Test.YthmfbcfbcookiaaGreatDoorChB
namespace Go.Proofs.YthmfbcfbcookiaaGreatDoor
open Go.RowKit
theorem GoodSt.small {s : St} (h : GoodSt s) : StSmall s := by
  have h1 := h.np
  have h2 := h.nc
  have h3 := h.nz
  exact ⟨by omega, by omega, by omega, fun r hr => by have := (h.zn r hr).1; omega⟩
theorem results_cell3 {P : Program} {fn : Func} {a b c : Tmp} {t : TypeId} (h : fn.results = #[.cell a t, .tmp b, .tmp c]) (tmps : Array Value) (g : Nat) (hp : tmps.getD a undef = .pointer (some ⟨g, 0, none⟩)) (cs : Array Value) (v u : Value) (hb : tmps.getD b undef = v) (hc : tmps.getD c undef = u) (w : World) (hW : Whole w g t cs) (d : TypeDesc) (hu : P.underlying t = some d)
    (hd : (match d with | .struct _ | .array _ _ => true | _ => false) = true) (hi : (P.info? t).map (·.size) = some cs.size) : (results fn tmps).run P w = .ok (.tuple #[.agg cs, v, u]) w := by
  have hl := run_loadVar_row (P := P) w g t t cs (0, 0) d hW hu hd hi
  have hp' : tmps[a]?.getD undef = .pointer (some ⟨g, 0, none⟩) := by rw [← Array.getD_eq_getD_getElem?]; exact hp
  have hb' : tmps[b]?.getD undef = v := by rw [← Array.getD_eq_getD_getElem?]; exact hb
  have hc' : tmps[c]?.getD undef = u := by rw [← Array.getD_eq_getD_getElem?]; exact hc
  simp [results, h, hp', hb', hc', asAddr, hl]
theorem set7 {z : Nat} {w w' : World} (h : Keeps (fun _ => False) w w') (hz : w.heap.size ≤ z) (a b c d e f g : Value) : Keeps (fun _ => False) w (((((((w'.setCell ⟨z, 0, none⟩ a).setCell ⟨z, 1, none⟩ b).setCell ⟨z, 2, none⟩ c).setCell ⟨z, 3, none⟩ d).setCell ⟨z, 4, none⟩ e).setCell ⟨z, 5, none⟩ f).setCell ⟨z, 6, none⟩ g) := by
  have hh : ∀ k, (⟨z, k, none⟩ : Addr).block < w.heap.size → False := fun k h => absurd h (by show ¬ z < _; omega)
  exact ((((((h.setCell (p := ⟨z, 0, none⟩) (hh 0) a).setCell (p := ⟨z, 1, none⟩) (hh 1) b).setCell (p := ⟨z, 2, none⟩) (hh 2) c).setCell (p := ⟨z, 3, none⟩) (hh 3) d).setCell (p := ⟨z, 4, none⟩) (hh 4) e).setCell (p := ⟨z, 5, none⟩) (hh 5) f).setCell (p := ⟨z, 6, none⟩) (hh 6) g
set_option maxRecDepth 100000 in
set_option maxHeartbeats 4000000 in
theorem decode_bad (A : Option Addr) (B cap : Nat) (b : List Oct) (q : Nat) (w : World) (hx : Lies w B A (bytesV b)) (hB : B ≤ w.heap.size) (hcap : b.length ≤ cap) (hl : b.length ≤ 1099511627776) (hq : readP b = .bad q) :
    Calls Tryz.prog 18 #[.slice A b.length cap] w fun e w' => e = .returned (.tuple #[.agg #[.slice none 0 0, .slice none 0 0, .slice none 0 0, .int .i32 0, .int .i64 0, .int .i8 0, .int .i64 0], .int .i64 12, .int .i64 q]) ∧ Keeps (fun _ => False) w w' := by
  have k0 := (Keeps.refl (fun _ => False) w).alloc (.cells #[.slice none 0 0, .slice none 0 0, .slice none 0 0, .int .i32 0, .int .i64 0, .int .i8 0, .int .i64 0] 27)
  have k1 := k0.alloc (.cells (rdC A b.length cap 0 false) 103)
  have m1 := Whole.made (w.alloc (.cells #[.slice none 0 0, .slice none 0 0, .slice none 0 0, .int .i32 0, .int .i64 0, .int .i8 0, .int .i64 0] 27)) 103 (rdC A b.length cap 0 false)
  rw [World.size_alloc] at m1
  have HR : Hid (RdAt ((w.alloc (.cells #[.slice none 0 0, .slice none 0 0, .slice none 0 0, .int .i32 0, .int .i64 0, .int .i8 0, .int .i64 0] 27)).alloc (.cells (rdC A b.length cap 0 false) 103)) (w.heap.size + 1) B A cap b 0 false) := Lib.hid ⟨m1, hx.keeps k1 (fun _ _ => id) hB, by omega, Nat.zero_le _, hcap⟩
  have HRES : Hid (Whole ((w.alloc (.cells #[.slice none 0 0, .slice none 0 0, .slice none 0 0, .int .i32 0, .int .i64 0, .int .i8 0, .int .i64 0] 27)).alloc (.cells (rdC A b.length cap 0 false) 103)) w.heap.size 27 #[.slice none 0 0, .slice none 0 0, .slice none 0 0, .int .i32 0, .int .i64 0, .int .i8 0, .int .i64 0]) := Lib.hid ((Whole.made w _ _).alloc _)
  have HC := readState_any (w.heap.size + 1) B A cap b _ HR.out hl
  have K1 := Lib.hid k1
  have HQ := Lib.hid hq
  unfold rdC at HR HRES HC K1
  clear hx k0 k1 m1 hq
  go_enter Tryz.func18, Tryz.ntmps18
  go_wp2_with fail
  refine HC.mono ?_
  rintro e w2 ⟨x, Ap, Ac, Az, cp, cc, cz, cells, hv, rfl, hr, hcp, hap, hk⟩
  rw [HQ.out] at hr
  have H2 := Lib.hid hr
  have R2 := Lib.hid (HRES.out.keeps hk (by omega))
  have K2 : Hid (Keeps (fun _ => False) w w2) := Lib.hid (K1.out.and hk (fun k hk e => by omega))
  have hsz2 : w.heap.size ≤ w2.heap.size := K2.out.size
  have C2 : Hid (CopyIn w2 w.heap.size x Ap Ac Az cp cc cz cells) := Lib.hid ⟨own_base hcp.players (fun k hk => Nat.le_trans K1.out.size (hcp.players.lt k hk).1), own_base hcp.cards (fun k hk => Nat.le_trans K1.out.size (hcp.cards.lt k hk).1), RowsOwn.mono hcp.zones K1.out.size⟩
  have HAP := Lib.hid hap
  clear hr hcp hap hk hv K1 HR HRES HC
  obtain ⟨z, hz⟩ : ∃ z, z = w2.alloc (.cells (stC x Ap Ac Az cp cc cz) 27) := ⟨_, rfl⟩
  have kz : Keeps (fun _ => False) w2 z := by rw [hz]; exact (Keeps.refl _ _).alloc _
  have ZB : Hid (Whole z w2.heap.size 27 (stC x Ap Ac Az cp cc cz)) := Lib.hid (by rw [hz]; exact Whole.made _ _ _)
  have H3 := Lib.hid (H2.out.keeps kz id (fun _ _ => id))
  have R3 := Lib.hid (R2.out.keeps kz id)
  have K3 := Lib.hid (K2.out.trans kz)
  have C3 := Lib.hid (C2.out.keeps kz (fun _ _ => id))
  unfold stC at hz
  have q1 : z.cell? ⟨w.heap.size + 1, 1, none⟩ = some (.int .i64 q) := H3.out.box.cellAt 1
  have q2 : z.cell? ⟨w.heap.size + 1, 2, none⟩ = some (.bool true) := H3.out.box.cellAt 2
  obtain ⟨a0, a1, a2, a3, a4, a5, a6, f0, f1, f2, f3, f4, f5, f6⟩ := seven R3.out
  rw [hz] at q2
  clear H2 R2 K2 kz C2
  show _
  unfold stC
  go_wp2_with fail
  rw [← hz]
  clear hz q2
  go_region
  all_goals
    go_wp2_with fail
    refine bodyPost_ret (results_cell3 (by rfl) _ w.heap.size (by rfl) #[.slice none 0 0, .slice none 0 0, .slice none 0 0, .int .i32 0, .int .i64 0, .int .i8 0, .int .i64 0] (.int .i64 12) (.int .i64 q) (by rfl) (by rfl) _ ((((((((R3.out.put 0 (.slice none 0 0)).put 1 (.slice none 0 0)).put 2 (.slice none 0 0)).put 3 (.int .i32 0)).put 4 (.int .i64 0)).put 5 (.int .i8 0)).put 6 (.int .i64 0))).drew _ Tryz.underlying27 rfl sizeSt) rfl ⟨rfl, (set7 K3.out (Nat.le_refl _) _ _ _ _ _ _ _).drew⟩
set_option maxRecDepth 100000 in
set_option maxHeartbeats 4000000 in
theorem decode_no (A : Option Addr) (B cap : Nat) (b : List Oct) (s : St) (j : Nat) (w : World) (hx : Lies w B A (bytesV b)) (hB : B ≤ w.heap.size) (hcap : b.length ≤ cap) (hl : b.length ≤ 1099511627776) (hq : readP b = .ok s j) (hc : (checkP s).1 = 10) :
    Calls Tryz.prog 18 #[.slice A b.length cap] w fun e w' => e = .returned (.tuple #[.agg #[.slice none 0 0, .slice none 0 0, .slice none 0 0, .int .i32 0, .int .i64 0, .int .i8 0, .int .i64 0], .int .i64 10, .int .i64 (checkP s).2]) ∧ Keeps (fun _ => False) w w' := by
  have k0 := (Keeps.refl (fun _ => False) w).alloc (.cells #[.slice none 0 0, .slice none 0 0, .slice none 0 0, .int .i32 0, .int .i64 0, .int .i8 0, .int .i64 0] 27)
  have k1 := k0.alloc (.cells (rdC A b.length cap 0 false) 103)
  have m1 := Whole.made (w.alloc (.cells #[.slice none 0 0, .slice none 0 0, .slice none 0 0, .int .i32 0, .int .i64 0, .int .i8 0, .int .i64 0] 27)) 103 (rdC A b.length cap 0 false)
  rw [World.size_alloc] at m1
  have HR : Hid (RdAt ((w.alloc (.cells #[.slice none 0 0, .slice none 0 0, .slice none 0 0, .int .i32 0, .int .i64 0, .int .i8 0, .int .i64 0] 27)).alloc (.cells (rdC A b.length cap 0 false) 103)) (w.heap.size + 1) B A cap b 0 false) := Lib.hid ⟨m1, hx.keeps k1 (fun _ _ => id) hB, by omega, Nat.zero_le _, hcap⟩
  have HRES : Hid (Whole ((w.alloc (.cells #[.slice none 0 0, .slice none 0 0, .slice none 0 0, .int .i32 0, .int .i64 0, .int .i8 0, .int .i64 0] 27)).alloc (.cells (rdC A b.length cap 0 false) 103)) w.heap.size 27 #[.slice none 0 0, .slice none 0 0, .slice none 0 0, .int .i32 0, .int .i64 0, .int .i8 0, .int .i64 0]) := Lib.hid ((Whole.made w _ _).alloc _)
  have HC := readState_any (w.heap.size + 1) B A cap b _ HR.out hl
  have K1 := Lib.hid k1
  have HQ := Lib.hid hq
  have HCK := Lib.hid hc
  clear hc
  unfold rdC at HR HRES HC K1
  clear hx k0 k1 m1 hq
  go_enter Tryz.func18, Tryz.ntmps18
  go_wp2_with fail
  refine HC.mono ?_
  rintro e w2 ⟨x, Ap, Ac, Az, cp, cc, cz, cells, hv, rfl, hr, hcp, hap, hk⟩
  rw [HQ.out] at hr
  have H2 := Lib.hid hr
  have R2 := Lib.hid (HRES.out.keeps hk (by omega))
  have K2 : Hid (Keeps (fun _ => False) w w2) := Lib.hid (K1.out.and hk (fun k hk e => by omega))
  have hsz2 : w.heap.size ≤ w2.heap.size := K2.out.size
  have C2 : Hid (CopyIn w2 w.heap.size x Ap Ac Az cp cc cz cells) := Lib.hid ⟨own_base hcp.players (fun k hk => Nat.le_trans K1.out.size (hcp.players.lt k hk).1), own_base hcp.cards (fun k hk => Nat.le_trans K1.out.size (hcp.cards.lt k hk).1), RowsOwn.mono hcp.zones K1.out.size⟩
  have HAP := Lib.hid hap
  clear hr hcp hap hk K1 HR HRES HC
  obtain rfl : x = s := hv s j HQ.out
  have hg := read_sound HQ.out
  have HG := Lib.hid hg.1.small
  clear hg hv
  obtain ⟨z, hz⟩ : ∃ z, z = w2.alloc (.cells (stC x Ap Ac Az cp cc cz) 27) := ⟨_, rfl⟩
  have kz : Keeps (fun _ => False) w2 z := by rw [hz]; exact (Keeps.refl _ _).alloc _
  have ZB : Hid (Whole z w2.heap.size 27 (stC x Ap Ac Az cp cc cz)) := Lib.hid (by rw [hz]; exact Whole.made _ _ _)
  have H3 := Lib.hid (H2.out.keeps kz id (fun _ _ => id))
  have R3 := Lib.hid (R2.out.keeps kz id)
  have K3 := Lib.hid (K2.out.trans kz)
  have C3 := Lib.hid (C2.out.keeps kz (fun _ _ => id))
  unfold stC at hz
  have q2 : z.cell? ⟨w.heap.size + 1, 2, none⟩ = some (.bool false) := H3.out.box.cellAt 2
  obtain ⟨a0, a1, a2, a3, a4, a5, a6, f0, f1, f2, f3, f4, f5, f6⟩ := seven ZB.out
  rw [hz] at q2 a0 a1 a2 a3 a4 a5 a6
  have HK := check_any x Ap Ac Az z.heap.size cp cc cz z C3.out.lies (Nat.le_refl _) HG.out
  unfold stV at HK
  clear H2 R2 K2 kz C2
  show _
  unfold stC
  go_wp2_with fail
  rw [← hz]
  clear hz q2 a0 a1 a2 a3 a4 a5 a6 f0 f1 f2 f3 f4 f5 f6
  rw [HCK.out] at HK
  refine HK.mono ?_
  rintro e w4 ⟨rfl, k4⟩
  have R4 := Lib.hid (R3.out.keeps k4 id)
  have K4 := Lib.hid (K3.out.trans k4)
  clear k4 R3 K3 C3 H3 ZB
  obtain ⟨a0, a1, a2, a3, a4, a5, a6, f0, f1, f2, f3, f4, f5, f6⟩ := seven R4.out
  go_wp2_with fail
  refine bodyPost_ret (results_cell3 (by rfl) _ w.heap.size (by rfl) #[.slice none 0 0, .slice none 0 0, .slice none 0 0, .int .i32 0, .int .i64 0, .int .i8 0, .int .i64 0] (.int .i64 10) (.int .i64 (checkP x).2) (by rfl) (by rfl) _ (((((((R4.out.put 0 (.slice none 0 0)).put 1 (.slice none 0 0)).put 2 (.slice none 0 0)).put 3 (.int .i32 0)).put 4 (.int .i64 0)).put 5 (.int .i8 0)).put 6 (.int .i64 0)) _ Tryz.underlying27 rfl sizeSt) rfl ⟨rfl, set7 K4.out (Nat.le_refl _) _ _ _ _ _ _ _⟩
set_option maxRecDepth 100000 in
set_option maxHeartbeats 4000000 in
theorem decode_yes (A : Option Addr) (B cap : Nat) (b : List Oct) (s : St) (j : Nat) (w : World) (hx : Lies w B A (bytesV b)) (hB : B ≤ w.heap.size) (hcap : b.length ≤ cap) (hl : b.length ≤ 1099511627776) (hq : readP b = .ok s j) (hc : (checkP s).1 = 0) :
    Calls Tryz.prog 18 #[.slice A b.length cap] w fun e w' => ∃ (Ap Ac Az : Option Addr) (cp cc cz : Nat) (cells : List Value), e = .returned (.tuple #[.agg (stC s Ap Ac Az cp cc cz), .int .i64 0, .int .i64 0]) ∧ CopyIn w' w.heap.size s Ap Ac Az cp cc cz cells ∧ Apt cells ∧ Keeps (fun _ => False) w w' := by
  have k0 := (Keeps.refl (fun _ => False) w).alloc (.cells #[.slice none 0 0, .slice none 0 0, .slice none 0 0, .int .i32 0, .int .i64 0, .int .i8 0, .int .i64 0] 27)
  have k1 := k0.alloc (.cells (rdC A b.length cap 0 false) 103)
  have m1 := Whole.made (w.alloc (.cells #[.slice none 0 0, .slice none 0 0, .slice none 0 0, .int .i32 0, .int .i64 0, .int .i8 0, .int .i64 0] 27)) 103 (rdC A b.length cap 0 false)
  rw [World.size_alloc] at m1
  have HR : Hid (RdAt ((w.alloc (.cells #[.slice none 0 0, .slice none 0 0, .slice none 0 0, .int .i32 0, .int .i64 0, .int .i8 0, .int .i64 0] 27)).alloc (.cells (rdC A b.length cap 0 false) 103)) (w.heap.size + 1) B A cap b 0 false) := Lib.hid ⟨m1, hx.keeps k1 (fun _ _ => id) hB, by omega, Nat.zero_le _, hcap⟩
  have HRES : Hid (Whole ((w.alloc (.cells #[.slice none 0 0, .slice none 0 0, .slice none 0 0, .int .i32 0, .int .i64 0, .int .i8 0, .int .i64 0] 27)).alloc (.cells (rdC A b.length cap 0 false) 103)) w.heap.size 27 #[.slice none 0 0, .slice none 0 0, .slice none 0 0, .int .i32 0, .int .i64 0, .int .i8 0, .int .i64 0]) := Lib.hid ((Whole.made w _ _).alloc _)
  have HC := readState_any (w.heap.size + 1) B A cap b _ HR.out hl
  have K1 := Lib.hid k1
  have HQ := Lib.hid hq
  have HCK := Lib.hid hc
  clear hc
  unfold rdC at HR HRES HC K1
  clear hx k0 k1 m1 hq
  go_enter Tryz.func18, Tryz.ntmps18
  go_wp2_with fail
  refine HC.mono ?_
  rintro e w2 ⟨x, Ap, Ac, Az, cp, cc, cz, cells, hv, rfl, hr, hcp, hap, hk⟩
  rw [HQ.out] at hr
  have H2 := Lib.hid hr
  have R2 := Lib.hid (HRES.out.keeps hk (by omega))
  have K2 : Hid (Keeps (fun _ => False) w w2) := Lib.hid (K1.out.and hk (fun k hk e => by omega))
  have hsz2 : w.heap.size ≤ w2.heap.size := K2.out.size
  have C2 : Hid (CopyIn w2 w.heap.size x Ap Ac Az cp cc cz cells) := Lib.hid ⟨own_base hcp.players (fun k hk => Nat.le_trans K1.out.size (hcp.players.lt k hk).1), own_base hcp.cards (fun k hk => Nat.le_trans K1.out.size (hcp.cards.lt k hk).1), RowsOwn.mono hcp.zones K1.out.size⟩
  have HAP := Lib.hid hap
  clear hr hcp hap hk K1 HR HRES HC
  obtain rfl : x = s := hv s j HQ.out
  have hg := read_sound HQ.out
  have HG := Lib.hid hg.1.small
  clear hg hv
  obtain ⟨z, hz⟩ : ∃ z, z = w2.alloc (.cells (stC x Ap Ac Az cp cc cz) 27) := ⟨_, rfl⟩
  have kz : Keeps (fun _ => False) w2 z := by rw [hz]; exact (Keeps.refl _ _).alloc _
  have ZB : Hid (Whole z w2.heap.size 27 (stC x Ap Ac Az cp cc cz)) := Lib.hid (by rw [hz]; exact Whole.made _ _ _)
  have H3 := Lib.hid (H2.out.keeps kz id (fun _ _ => id))
  have R3 := Lib.hid (R2.out.keeps kz id)
  have K3 := Lib.hid (K2.out.trans kz)
  have C3 := Lib.hid (C2.out.keeps kz (fun _ _ => id))
  unfold stC at hz
  have q2 : z.cell? ⟨w.heap.size + 1, 2, none⟩ = some (.bool false) := H3.out.box.cellAt 2
  obtain ⟨a0, a1, a2, a3, a4, a5, a6, f0, f1, f2, f3, f4, f5, f6⟩ := seven ZB.out
  rw [hz] at q2 a0 a1 a2 a3 a4 a5 a6
  have HK := check_any x Ap Ac Az z.heap.size cp cc cz z C3.out.lies (Nat.le_refl _) HG.out
  unfold stV at HK
  clear H2 R2 K2 kz C2
  show _
  unfold stC
  go_wp2_with fail
  rw [← hz]
  clear hz q2 a0 a1 a2 a3 a4 a5 a6 f0 f1 f2 f3 f4 f5 f6
  rw [HCK.out, (checkP_ok HCK.out).2] at HK
  refine HK.mono ?_
  rintro e w4 ⟨rfl, k4⟩
  have R4 := Lib.hid (R3.out.keeps k4 id)
  have K4 := Lib.hid (K3.out.trans k4)
  have C4 := Lib.hid (C3.out.keeps k4 (fun _ _ => id))
  have Z4 := Lib.hid (ZB.out.keeps k4 id)
  clear k4 R3 K3 C3 H3 ZB
  unfold stC at Z4
  obtain ⟨a0, a1, a2, a3, a4, a5, a6, f0, f1, f2, f3, f4, f5, f6⟩ := seven R4.out
  obtain ⟨b0, b1, b2, b3, b4, b5, b6, g0, g1, g2, g3, g4, g5, g6⟩ := seven Z4.out
  clear g0 g1 g2 g3 g4 g5 g6
  go_wp2_with fail
  have hkw : Keeps (fun k => k = w.heap.size) w4 (((((((w4.setCell ⟨w.heap.size, 0, none⟩ (.slice Ap x.players.length cp)).setCell ⟨w.heap.size, 1, none⟩ (.slice Ac x.cards.length cc)).setCell ⟨w.heap.size, 2, none⟩ (.slice Az x.zones.length cz)).setCell ⟨w.heap.size, 3, none⟩ (.int .i32 x.turn)).setCell ⟨w.heap.size, 4, none⟩ (.int .i64 x.whose)).setCell ⟨w.heap.size, 5, none⟩ (.int .i8 x.fin)).setCell ⟨w.heap.size, 6, none⟩ (.int .i64 x.winner)) :=
    ((((((Keeps.setCell (S := fun k => k = w.heap.size) (Keeps.refl _ w4) (p := ⟨w.heap.size, 0, none⟩) (fun _ => rfl) _).setCell (p := ⟨w.heap.size, 1, none⟩) (fun _ => rfl) _).setCell (p := ⟨w.heap.size, 2, none⟩) (fun _ => rfl) _).setCell (p := ⟨w.heap.size, 3, none⟩) (fun _ => rfl) _).setCell (p := ⟨w.heap.size, 4, none⟩) (fun _ => rfl) _).setCell (p := ⟨w.heap.size, 5, none⟩) (fun _ => rfl) _).setCell (p := ⟨w.heap.size, 6, none⟩) (fun _ => rfl) _
  have hT := whole_ofKind R4.out
  refine bodyPost_ret (results_cell3 (by rfl) _ w.heap.size (by rfl) (stC x Ap Ac Az cp cc cz) (.int .i64 0) (.int .i64 0) (by rfl) (by rfl) _ (((((((R4.out.put 0 (.slice Ap x.players.length cp)).put 1 (.slice Ac x.cards.length cc)).put 2 (.slice Az x.zones.length cz)).put 3 (.int .i32 x.turn)).put 4 (.int .i64 x.whose)).put 5 (.int .i8 x.fin)).put 6 (.int .i64 x.winner)) _ Tryz.underlying27 rfl sizeSt) rfl ⟨Ap, Ac, Az, cp, cc, cz, cells, rfl, ?_, HAP.out, set7 K4.out (Nat.le_refl _) _ _ _ _ _ _ _⟩
  exact ⟨own_keepsT C4.out.players hkw hT (by decide), own_keepsT C4.out.cards hkw hT (by decide), rows_keepsT C4.out.zones hkw hT (by decide) (by decide)⟩
end Go.Proofs.YthmfbcfbcookiaaGreatDoor
