/-
  The law ImageBack: the walk. Conditions: lengths within 10 ^ 15; a turn of 32 bits.
-/
import Derived.Test.YthmfbcfbcookiaaDoorImMh
import Derived.Test.YthmfbcfbcookiaaDoorStB
namespace Go.Proofs.YthmfbcfbcookiaaDoor
open Go.RowKit
/-- The state's box, and the bytes that came in. -/
structure Bk (w W : World) (s : St) (Ap Ac Az : Option Addr) (cp cc cz : Nat) (A : Option Addr) (b : List Byte) : Prop where
  keeps : Keeps (fun _ => False) w W
  box : Whole W w.heap.size 27 (stC s Ap Ac Az cp cc cz)
  lies : StIn W W.heap.size s Ap Ac Az
  bytes : Lies W W.heap.size A (bytesV b)
theorem Bk.calm {w W W' : World} {s : St} {Ap Ac Az : Option Addr} {cp cc cz : Nat} {A : Option Addr} {b : List Byte} (h : Bk w W s Ap Ac Az cp cc cz A b) (hk : Keeps (fun _ => False) W W') : Bk w W' s Ap Ac Az cp cc cz A b :=
  ⟨h.keeps.trans hk, h.box.keeps hk id, h.lies.past hk, (h.bytes.keep fun _ _ hb => hk.cell hb id).more hk.size⟩
theorem zero_in (w : World) : StIn w w.heap.size zeroSt none none none := ⟨fun i c h => (by simp [zeroSt] at h), fun i c h => (by simp [zeroSt] at h), fun i c h => (by simp [zeroSt] at h)⟩
theorem zero_small : StSmall zeroSt := ⟨by decide, by decide, by decide, fun r hr => (by simp [zeroSt] at hr)⟩
theorem eqZero_any (w : World) : Calls Tryd.prog 13 #[.agg #[.slice none 0 0, .slice none 0 0, .slice none 0 0, .int .i32 0, .int .i64 0, .int .i8 0, .int .i64 0], .agg #[.slice none 0 0, .slice none 0 0, .slice none 0 0, .int .i32 0, .int .i64 0, .int .i8 0, .int .i64 0]] w fun e w' => e = .returned (.bool true) ∧ Keeps (fun _ => False) w w' := by
  have h := eqState_any zeroSt zeroSt none none none none none none w.heap.size 0 0 0 0 0 0 w (zero_in w) (zero_in w) (Nat.le_refl _) zero_small
  rw [decide_eq_true (show zeroSt = zeroSt from rfl)] at h
  exact h
set_option maxRecDepth 100000 in
set_option maxHeartbeats 8000000 in
theorem imageBack_any (s : St) (Ap Ac Az : Option Addr) (cp cc cz : Nat) (A : Option Addr) (cap : Nat) (b : List Byte) (w : World) (hx : StIn w w.heap.size s Ap Ac Az) (hs : StBig s) (ht : in32 s.turn) (hm : Lies w w.heap.size A (bytesV b)) (hcap : b.length ≤ cap) :
    Calls Tryd.prog 3 #[stV s Ap Ac Az cp cc cz, .slice A b.length cap] w fun e w' => e = .returned (.bool true) ∧ Keeps (fun _ => False) w w' := by
  have k0 := (Keeps.refl (fun _ => False) w).alloc (.cells (stC s Ap Ac Az cp cc cz) 27)
  obtain ⟨w0, hw0⟩ : ∃ z, z = w.alloc (.cells (stC s Ap Ac Az cp cc cz) 27) := ⟨_, rfl⟩
  have m0 := Whole.made w 27 (stC s Ap Ac Az cp cc cz)
  rw [← hw0] at k0 m0
  have S0 : Hid (Bk w w0 s Ap Ac Az cp cc cz A b) := Lib.hid ⟨k0, m0, hx.past k0, (hm.keep fun _ _ hb => k0.cell hb id).more k0.size⟩
  have HS := Lib.hid hs
  have HT := Lib.hid ht
  clear k0 m0 hx hm hs ht
  unfold stV
  unfold stC at hw0
  go_enter Tryd.func3, Tryd.ntmps3
  go_wp2_with fail
  rw [← hw0]
  clear hw0
  refine (works07_any w0).mono ?_
  rintro e w1 ⟨rfl, k1⟩
  have S1 := Lib.hid (S0.out.calm k1)
  clear k1 S0
  have HZ := sizeState_any s Ap Ac Az w1.heap.size cp cc cz w1 S1.out.lies (Nat.le_refl _) HS.out.players HS.out.cards HS.out.zones HS.out.rows
  unfold stV at HZ
  obtain ⟨a0, a1, a2, a3, a4, a5, a6, f0, f1, f2, f3, f4, f5, f6⟩ := seven S1.out.box
  clear f0 f1 f2 f3 f4 f5 f6
  go_wp2_with fail
  clear a0 a1 a2 a3 a4 a5 a6
  refine HZ.mono ?_
  rintro e w2 ⟨rfl, k2⟩
  have S2 := Lib.hid (S1.out.calm k2)
  clear k2 S1 HZ
  by_cases hb : 4194304 < (stSizeTo s : Int)
  · have hd : decide (4194304 < (stSizeTo s : Int)) = true := decide_eq_true hb
    clear hb
    go_wp2_with fail
    go_ret
    exact ⟨rfl, S2.out.keeps⟩
  have hd : decide (4194304 < (stSizeTo s : Int)) = false := decide_eq_false hb
  have SM := Lib.hid (small_of_size (stSizeTo_small (s := s) (by omega)))
  clear hb
  by_cases hml : 4194304 < (b.length : Int)
  · have hd2 : decide (4194304 < (b.length : Int)) = true := decide_eq_true hml
    go_wp2_with fail
    go_ret
    exact ⟨rfl, S2.out.keeps⟩
  have hd2 : decide (4194304 < (b.length : Int)) = false := decide_eq_false hml
  obtain ⟨a0, a1, a2, a3, a4, a5, a6, f0, f1, f2, f3, f4, f5, f6⟩ := seven S2.out.box
  clear f0 f1 f2 f3 f4 f5 f6
  have HE := check_any s Ap Ac Az w2.heap.size cp cc cz w2 S2.out.lies (Nat.le_refl _) SM.out
  unfold stV at HE
  rcases checkP_fst s with hc | hc
  rotate_left
  · rw [hc] at HE
    obtain ⟨za, hza⟩ : ∃ z, z = (checkP s).2 := ⟨_, rfl⟩
    rw [← hza] at HE
    clear hza
    go_wp2_with fail
    refine HE.mono ?_
    rintro e w3 ⟨rfl, k3⟩
    have S3 := Lib.hid (S2.out.calm k3)
    clear HE k3 S2 a0 a1 a2 a3 a4 a5 a6
    obtain ⟨a0, a1, a2, a3, a4, a5, a6, f0, f1, f2, f3, f4, f5, f6⟩ := seven S3.out.box
    clear f0 f1 f2 f3 f4 f5 f6
    have HE := encode_no s Ap Ac Az w3.heap.size cp cc cz w3 S3.out.lies (Nat.le_refl _) SM.out hc
    unfold stV at HE
    have HCS := Lib.hid hc
    clear hc
    go_wp2_with fail
    refine HE.mono ?_
    rintro e w4 ⟨rfl, k4⟩
    have S4 := Lib.hid (S3.out.calm k4)
    clear HE k4 S3 a0 a1 a2 a3 a4 a5 a6
    obtain ⟨a0, a1, a2, a3, a4, a5, a6, f0, f1, f2, f3, f4, f5, f6⟩ := seven S4.out.box
    clear f0 f1 f2 f3 f4 f5 f6
    have HE := imSum_no s Ap Ac Az w4.heap.size cp cc cz w4 S4.out.lies (Nat.le_refl _) SM.out HCS.out
    unfold stV at HE
    go_wp2_with fail
    refine HE.mono ?_
    rintro e w5 ⟨rfl, k5⟩
    have S5 := Lib.hid (S4.out.calm k5)
    clear HE k5 S4 HCS a0 a1 a2 a3 a4 a5 a6
    cases hr : readP b with
    | bad q =>
      have hqb := read_bad hr
      have HD := decode_bad A w5.heap.size cap b q w5 S5.out.bytes (Nat.le_refl _) hcap (by omega) hr
      have hg0 : decide (0 ≤ (q : Int)) = true := decide_eq_true (by omega)
      have hg1 : decide ((q : Int) ≤ (b.length : Int)) = true := decide_eq_true (by omega)
      have hg2 : decide (q ≤ b.length) = true := decide_eq_true hqb
      clear hr hqb
      go_wp2_with fail
      refine HD.mono ?_
      rintro e w6 ⟨rfl, k6⟩
      have S6 := Lib.hid (S5.out.keeps.trans (k6.alloc (.cells #[.slice none 0 0, .slice none 0 0, .slice none 0 0, .int .i32 0, .int .i64 0, .int .i8 0, .int .i64 0] 27)))
      clear HD k6
      go_wp2_with fail
      refine (eqZero_any _).mono ?_
      rintro e w7 ⟨rfl, k7⟩
      have K7 := Lib.hid (S6.out.trans k7)
      clear k7 S6
      go_wp2_with fail
      go_ret
      exact ⟨rfl, K7.out⟩
    | ok t j =>
      rcases checkP_fst t with hc | hc
      rotate_left
      · have HD := decode_no A w5.heap.size cap b t j w5 S5.out.bytes (Nat.le_refl _) hcap (by omega) hr hc
        have hge := checkP_at t
        obtain ⟨z, hz⟩ : ∃ z, z = (checkP t).2 := ⟨_, rfl⟩
        rw [← hz] at HD hge
        have hg0 : decide (0 ≤ z) = true := decide_eq_true hge
        clear hr hc hz hge
        go_wp2_with fail
        refine HD.mono ?_
        rintro e w6 ⟨rfl, k6⟩
        have S6 := Lib.hid (S5.out.keeps.trans (k6.alloc (.cells #[.slice none 0 0, .slice none 0 0, .slice none 0 0, .int .i32 0, .int .i64 0, .int .i8 0, .int .i64 0] 27)))
        clear HD k6
        go_wp2_with fail
        refine (eqZero_any _).mono ?_
        rintro e w7 ⟨rfl, k7⟩
        have K7 := Lib.hid (S6.out.trans k7)
        clear k7 S6
        go_wp2_with fail
        go_ret
        exact ⟨rfl, K7.out⟩
      have hsound := read_sound hr
      have GT := Lib.hid hsound.1
      have HB := Lib.hid hsound.2
      have HD := decode_yes A w5.heap.size cap b t j w5 S5.out.bytes (Nat.le_refl _) hcap (by omega) hr hc
      have HC := Lib.hid hc
      clear hsound hr hc
      go_wp2_with fail
      refine HD.mono ?_
      rintro e w6 ⟨Bp, Bc, Bz, dp, dc, dz, cells, rfl, c6, _, k6⟩
      obtain ⟨w7, hw7⟩ : ∃ z, z = w6.alloc (.cells (stC t Bp Bc Bz dp dc dz) 27) := ⟨_, rfl⟩
      have k7 : Keeps (fun _ => False) w6 w7 := by rw [hw7]; exact (Keeps.refl _ _).alloc _
      have S7 := Lib.hid (S5.out.calm (k6.trans k7))
      have B7 : Hid (Whole w7 w6.heap.size 27 (stC t Bp Bc Bz dp dc dz)) := Lib.hid (by rw [hw7]; exact Whole.made _ _ _)
      have L7 := Lib.hid (c6.lies.past k7)
      clear HD k6 k7 c6
      unfold stC at hw7
      obtain ⟨a0, a1, a2, a3, a4, a5, a6, f0, f1, f2, f3, f4, f5, f6⟩ := seven B7.out
      clear f0 f1 f2 f3 f4 f5 f6
      rw [hw7] at a0 a1 a2 a3 a4 a5 a6
      show _
      unfold stC
      go_wp2_with fail
      rw [← hw7]
      rw [← hw7] at a0 a1 a2 a3 a4 a5 a6
      clear hw7
      have HE := check_any t Bp Bc Bz w7.heap.size dp dc dz w7 L7.out (Nat.le_refl _) GT.out.small
      unfold stV at HE
      rw [HC.out, (checkP_ok HC.out).2] at HE
      refine HE.mono ?_
      rintro e w8 ⟨rfl, k8⟩
      have S8 := Lib.hid (S7.out.calm k8)
      have B8 := Lib.hid (B7.out.keeps k8 id)
      have L8 := Lib.hid (L7.out.past k8)
      clear HE k8 S7 B7 L7 a0 a1 a2 a3 a4 a5 a6
      obtain ⟨a0, a1, a2, a3, a4, a5, a6, f0, f1, f2, f3, f4, f5, f6⟩ := seven B8.out
      clear f0 f1 f2 f3 f4 f5 f6
      have HE := encode_yes t Bp Bc Bz w8.heap.size dp dc dz w8 L8.out (Nat.le_refl _) GT.out.small HC.out GT.out.turn
      unfold stV at HE
      rw [← HB.out] at HE
      go_wp2_with fail
      refine HE.mono ?_
      rintro e w9 ⟨C, ccap, rfl, own9, k9⟩
      have S9 := Lib.hid (S8.out.calm k9)
      have HQ := eqBytes_any b b C A w9.heap.size w9.heap.size ccap cap w9 (own_lies own9) S9.out.bytes (by omega)
      rw [decide_eq_true (show b = b from rfl)] at HQ
      clear HE own9 k9 S8 B8 L8 a0 a1 a2 a3 a4 a5 a6
      go_wp2_with fail
      refine HQ.mono ?_
      rintro e w10 ⟨rfl, k10⟩
      have S10 := Lib.hid (S9.out.calm (keepsAll k10))
      clear HQ k10 S9
      go_wp2_with fail
      go_ret
      exact ⟨rfl, S10.out.keeps⟩
  rw [hc, (checkP_ok hc).2] at HE
  go_wp2_with fail
  refine HE.mono ?_
  rintro e w3 ⟨rfl, k3⟩
  have S3 := Lib.hid (S2.out.calm k3)
  clear HE k3 S2 a0 a1 a2 a3 a4 a5 a6
  obtain ⟨a0, a1, a2, a3, a4, a5, a6, f0, f1, f2, f3, f4, f5, f6⟩ := seven S3.out.box
  clear f0 f1 f2 f3 f4 f5 f6
  have HE := encode_yes s Ap Ac Az w3.heap.size cp cc cz w3 S3.out.lies (Nat.le_refl _) SM.out hc HT.out
  unfold stV at HE
  have GS := Lib.hid ((mayI hc).good HT.out)
  have hl20 : (img s).length ≤ 20000 := ((mayI hc).few).img
  have HCS := Lib.hid hc
  clear hc
  obtain ⟨l, hl⟩ : ∃ z, z = img s := ⟨_, rfl⟩
  rw [← hl] at HE hl20
  have HL := Lib.hid hl
  clear hl
  go_wp2_with fail
  refine HE.mono ?_
  rintro e w4 ⟨C, ccap, rfl, own4, k4⟩
  have S4 := Lib.hid (S3.out.calm k4)
  have L4 := Lib.hid (own_lies own4)
  have hcc := own_cap own4
  clear HE k4 S3 own4 a0 a1 a2 a3 a4 a5 a6
  obtain ⟨a0, a1, a2, a3, a4, a5, a6, f0, f1, f2, f3, f4, f5, f6⟩ := seven S4.out.box
  clear f0 f1 f2 f3 f4 f5 f6
  have HE := imSum_yes s Ap Ac Az w4.heap.size cp cc cz w4 S4.out.lies (Nat.le_refl _) SM.out HCS.out HT.out
  unfold stV at HE
  rw [← HL.out] at HE
  go_wp2_with fail
  refine HE.mono ?_
  rintro e w5 ⟨rfl, k5⟩
  have S5 := Lib.hid (S4.out.calm k5)
  have L5 := Lib.hid ((L4.out.keep fun _ _ hb => k5.cell hb id).more k5.size)
  clear HE k5 S4 L4 a0 a1 a2 a3 a4 a5 a6
  have HD := decode_yes C w5.heap.size ccap l s _ w5 L5.out (Nat.le_refl _) hcc (by omega) (by rw [HL.out]; exact read_img GS.out) HCS.out
  go_wp2_with fail
  refine HD.mono ?_
  rintro e w5a ⟨Ep, Ec, Ez, ep, ec, ez, ecells, rfl, c5, _, k5⟩
  obtain ⟨w5b, hw5⟩ : ∃ z, z = w5a.alloc (.cells (stC s Ep Ec Ez ep ec ez) 27) := ⟨_, rfl⟩
  have k5b : Keeps (fun _ => False) w5a w5b := by rw [hw5]; exact (Keeps.refl _ _).alloc _
  have S6 := Lib.hid (S5.out.calm (k5.trans k5b))
  have B6 : Hid (Whole w5b w5a.heap.size 27 (stC s Ep Ec Ez ep ec ez)) := Lib.hid (by rw [hw5]; exact Whole.made _ _ _)
  have T6 := Lib.hid (c5.lies.past k5b)
  have L6 := Lib.hid ((L5.out.keep fun _ _ hb => (k5.trans k5b).cell hb id).more (k5.trans k5b).size)
  clear HD k5 k5b c5 S5 L5
  unfold stC at hw5
  obtain ⟨a0, a1, a2, a3, a4, a5, a6, f0, f1, f2, f3, f4, f5, f6⟩ := seven S6.out.box
  clear f0 f1 f2 f3 f4 f5 f6
  obtain ⟨b0, b1, b2, b3, b4, b5, b6, g0, g1, g2, g3, g4, g5, g6⟩ := seven B6.out
  clear g0 g1 g2 g3 g4 g5 g6
  rw [hw5] at a0 a1 a2 a3 a4 a5 a6 b0 b1 b2 b3 b4 b5 b6
  show _
  unfold stC
  go_wp2_with fail
  rw [← hw5]
  clear hw5 a0 a1 a2 a3 a4 a5 a6 b0 b1 b2 b3 b4 b5 b6
  have HE := eqState_any s s Ep Ec Ez Ap Ac Az w5b.heap.size ep ec ez cp cc cz w5b T6.out S6.out.lies (Nat.le_refl _) SM.out
  unfold stV at HE
  rw [decide_eq_true (show s = s from rfl)] at HE
  refine HE.mono ?_
  rintro e w5c ⟨rfl, k5⟩
  have S7 := Lib.hid (S6.out.calm k5)
  have L7 := Lib.hid ((L6.out.keep fun _ _ hb => k5.cell hb id).more k5.size)
  clear HE k5 S6 L6 B6 T6
  have HE := crc_any l C w5c.heap.size ccap w5c L7.out (Nat.le_refl _) (by omega)
  go_wp2_with fail
  refine HE.mono ?_
  rintro e w5d ⟨rfl, k5⟩
  have S8a := Lib.hid (S7.out.calm (keepsAll k5))
  clear HE k5 S7 L7
  cases hr : readP b with
  | bad q =>
    have hqb := read_bad hr
    have HD := decode_bad A w5d.heap.size cap b q w5d S8a.out.bytes (Nat.le_refl _) hcap (by omega) hr
    have hg0 : decide (0 ≤ (q : Int)) = true := decide_eq_true (by omega)
    have hg1 : decide ((q : Int) ≤ (b.length : Int)) = true := decide_eq_true (by omega)
    have hg2 : decide (q ≤ b.length) = true := decide_eq_true hqb
    clear hr hqb
    go_wp2_with fail
    refine HD.mono ?_
    rintro e w6 ⟨rfl, k6⟩
    have S6 := Lib.hid (S8a.out.keeps.trans (k6.alloc (.cells #[.slice none 0 0, .slice none 0 0, .slice none 0 0, .int .i32 0, .int .i64 0, .int .i8 0, .int .i64 0] 27)))
    clear HD k6
    go_wp2_with fail
    refine (eqZero_any _).mono ?_
    rintro e w7 ⟨rfl, k7⟩
    have K7 := Lib.hid (S6.out.trans k7)
    clear k7 S6
    go_wp2_with fail
    go_ret
    exact ⟨rfl, K7.out⟩
  | ok t j =>
    rcases checkP_fst t with hc | hc
    rotate_left
    · have HD := decode_no A w5d.heap.size cap b t j w5d S8a.out.bytes (Nat.le_refl _) hcap (by omega) hr hc
      have hge := checkP_at t
      obtain ⟨z, hz⟩ : ∃ z, z = (checkP t).2 := ⟨_, rfl⟩
      rw [← hz] at HD hge
      have hg0 : decide (0 ≤ z) = true := decide_eq_true hge
      clear hr hc hz hge
      go_wp2_with fail
      refine HD.mono ?_
      rintro e w6 ⟨rfl, k6⟩
      have S6 := Lib.hid (S8a.out.keeps.trans (k6.alloc (.cells #[.slice none 0 0, .slice none 0 0, .slice none 0 0, .int .i32 0, .int .i64 0, .int .i8 0, .int .i64 0] 27)))
      clear HD k6
      go_wp2_with fail
      refine (eqZero_any _).mono ?_
      rintro e w7 ⟨rfl, k7⟩
      have K7 := Lib.hid (S6.out.trans k7)
      clear k7 S6
      go_wp2_with fail
      go_ret
      exact ⟨rfl, K7.out⟩
    have hsound := read_sound hr
    have GT := Lib.hid hsound.1
    have HB := Lib.hid hsound.2
    have HD := decode_yes A w5d.heap.size cap b t j w5d S8a.out.bytes (Nat.le_refl _) hcap (by omega) hr hc
    have HC := Lib.hid hc
    clear hsound hr hc
    go_wp2_with fail
    refine HD.mono ?_
    rintro e w6 ⟨Bp, Bc, Bz, dp, dc, dz, cells, rfl, c6, _, k6⟩
    obtain ⟨w7, hw7⟩ : ∃ z, z = w6.alloc (.cells (stC t Bp Bc Bz dp dc dz) 27) := ⟨_, rfl⟩
    have k7 : Keeps (fun _ => False) w6 w7 := by rw [hw7]; exact (Keeps.refl _ _).alloc _
    have S7 := Lib.hid (S8a.out.calm (k6.trans k7))
    have B7 : Hid (Whole w7 w6.heap.size 27 (stC t Bp Bc Bz dp dc dz)) := Lib.hid (by rw [hw7]; exact Whole.made _ _ _)
    have L7 := Lib.hid (c6.lies.past k7)
    clear HD k6 k7 c6
    unfold stC at hw7
    obtain ⟨a0, a1, a2, a3, a4, a5, a6, f0, f1, f2, f3, f4, f5, f6⟩ := seven B7.out
    clear f0 f1 f2 f3 f4 f5 f6
    rw [hw7] at a0 a1 a2 a3 a4 a5 a6
    show _
    unfold stC
    go_wp2_with fail
    rw [← hw7]
    rw [← hw7] at a0 a1 a2 a3 a4 a5 a6
    clear hw7
    have HE := check_any t Bp Bc Bz w7.heap.size dp dc dz w7 L7.out (Nat.le_refl _) GT.out.small
    unfold stV at HE
    rw [HC.out, (checkP_ok HC.out).2] at HE
    refine HE.mono ?_
    rintro e w8 ⟨rfl, k8⟩
    have S8 := Lib.hid (S7.out.calm k8)
    have B8 := Lib.hid (B7.out.keeps k8 id)
    have L8 := Lib.hid (L7.out.past k8)
    clear HE k8 S7 B7 L7 a0 a1 a2 a3 a4 a5 a6
    obtain ⟨a0, a1, a2, a3, a4, a5, a6, f0, f1, f2, f3, f4, f5, f6⟩ := seven B8.out
    clear f0 f1 f2 f3 f4 f5 f6
    have HE := encode_yes t Bp Bc Bz w8.heap.size dp dc dz w8 L8.out (Nat.le_refl _) GT.out.small HC.out GT.out.turn
    unfold stV at HE
    rw [← HB.out] at HE
    go_wp2_with fail
    refine HE.mono ?_
    rintro e w9 ⟨C, ccap, rfl, own9, k9⟩
    have S9 := Lib.hid (S8.out.calm k9)
    have HQ := eqBytes_any b b C A w9.heap.size w9.heap.size ccap cap w9 (own_lies own9) S9.out.bytes (by omega)
    rw [decide_eq_true (show b = b from rfl)] at HQ
    clear HE own9 k9 S8 B8 L8 a0 a1 a2 a3 a4 a5 a6
    go_wp2_with fail
    refine HQ.mono ?_
    rintro e w10 ⟨rfl, k10⟩
    have S10 := Lib.hid (S9.out.calm (keepsAll k10))
    clear HQ k10 S9
    go_wp2_with fail
    go_ret
    exact ⟨rfl, S10.out.keeps⟩
end Go.Proofs.YthmfbcfbcookiaaDoor
