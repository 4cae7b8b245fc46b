/-
  The law ImageSame: the walk. Conditions: lengths within 10 ^ 15; turns of 32 bits.
-/
import Derived.Test.YthmfbcfbcookiaaDoorImMh
import Derived.Test.YthmfbcfbcookiaaDoorSmS
import Derived.Test.YthmfbcfbcookiaaDoorStB
namespace Go.Proofs.YthmfbcfbcookiaaDoor
open Go.RowKit
/-- The two states that came in, in their boxes. -/
structure Im2 (w W : World) (s t : St) (Ap Ac Az Bp Bc Bz : Option Addr) (cp cc cz dp dc dz : Nat) : Prop where
  keeps : Keeps (fun _ => False) w W
  b1 : Whole W w.heap.size 27 (stC s Ap Ac Az cp cc cz)
  b2 : Whole W (w.heap.size + 1) 27 (stC t Bp Bc Bz dp dc dz)
  i1 : StIn W W.heap.size s Ap Ac Az
  i2 : StIn W W.heap.size t Bp Bc Bz
theorem Im2.calm {w W W' : World} {s t : St} {Ap Ac Az Bp Bc Bz : Option Addr} {cp cc cz dp dc dz : Nat} (h : Im2 w W s t Ap Ac Az Bp Bc Bz cp cc cz dp dc dz) (hk : Keeps (fun _ => False) W W') : Im2 w W' s t Ap Ac Az Bp Bc Bz cp cc cz dp dc dz :=
  ⟨h.keeps.trans hk, h.b1.keeps hk id, h.b2.keeps hk id, h.i1.past hk, h.i2.past hk⟩
/-- Behind the region that reckons the sizes. -/
def SizeCut (b : Bool) (w1 : World) (a a' : Act) (w' : World) : Prop := (∃ u16 u17 u18 u19 u20 : Value, a' = ((((((a.put (some 16) u16).put (some 17) u17).put (some 18) u18).put (some 19) u19).put (some 20) u20).put (some 21) (.bool b))) ∧ Keeps (fun _ => False) w1 w'
theorem size_bound {s : St} (h : StBig s) : stSizeTo s ≤ 4000000000000000 := by
  have h1 := h.players
  have h2 := h.cards
  have h3 := sizeTo_le s.zones h.rows s.zones.length (by have := h.zones; omega)
  unfold stSizeTo
  omega
set_option maxRecDepth 100000 in
set_option maxHeartbeats 4000000 in
theorem imageSame_any (s t : St) (Ap Ac Az Bp Bc Bz : Option Addr) (cp cc cz dp dc dz : Nat) (w : World) (hx : StIn w w.heap.size s Ap Ac Az) (hy : StIn w w.heap.size t Bp Bc Bz) (hs : StBig s) (ht : StBig t) (hu : in32 s.turn) (hv : in32 t.turn) :
    Calls Tryd.prog 5 #[stV s Ap Ac Az cp cc cz, stV t Bp Bc Bz dp dc dz] w fun e w' => e = .returned (.bool true) ∧ Keeps (fun _ => False) w w' := by
  have k0 := ((Keeps.refl (fun _ => False) w).alloc (.cells (stC s Ap Ac Az cp cc cz) 27)).alloc (.cells (stC t Bp Bc Bz dp dc dz) 27)
  obtain ⟨w0, hw0⟩ : ∃ z, z = (w.alloc (.cells (stC s Ap Ac Az cp cc cz) 27)).alloc (.cells (stC t Bp Bc Bz dp dc dz) 27) := ⟨_, rfl⟩
  have m0 := (Whole.made w 27 (stC s Ap Ac Az cp cc cz)).alloc (.cells (stC t Bp Bc Bz dp dc dz) 27)
  have m1 := Whole.made (w.alloc (.cells (stC s Ap Ac Az cp cc cz) 27)) 27 (stC t Bp Bc Bz dp dc dz)
  rw [World.size_alloc] at m1
  rw [← hw0] at k0 m0 m1
  have S0 : Hid (Im2 w w0 s t Ap Ac Az Bp Bc Bz cp cc cz dp dc dz) := Lib.hid ⟨k0, m0, m1, hx.past k0, hy.past k0⟩
  have HS := Lib.hid hs
  have HT := Lib.hid ht
  have HU := Lib.hid hu
  have HV := Lib.hid hv
  clear k0 m0 m1 hx hy hs ht hu hv
  unfold stV
  unfold stC at hw0
  go_enter Tryd.func5, Tryd.ntmps5
  go_wp2_with fail
  rw [← hw0]
  clear hw0
  refine (works07_any w0).mono ?_
  rintro e w1 ⟨rfl, k1⟩
  have S1 := Lib.hid (S0.out.calm k1)
  clear k1 S0
  have HFs : ∀ W, Keeps (fun _ => False) w1 W → W.cell? ⟨w.heap.size, 0, none⟩ = some (.slice Ap s.players.length cp) ∧ W.cell? ⟨w.heap.size, 1, none⟩ = some (.slice Ac s.cards.length cc) ∧ W.cell? ⟨w.heap.size, 2, none⟩ = some (.slice Az s.zones.length cz) ∧ W.cell? ⟨w.heap.size, 3, none⟩ = some (.int .i32 s.turn) ∧ W.cell? ⟨w.heap.size, 4, none⟩ = some (.int .i64 s.whose) ∧ W.cell? ⟨w.heap.size, 5, none⟩ = some (.int .i8 s.fin) ∧ W.cell? ⟨w.heap.size, 6, none⟩ = some (.int .i64 s.winner) := fun W hW => by
    obtain ⟨h0, h1, h2, h3, h4, h5, h6, _⟩ := seven (S1.out.calm hW).b1
    exact ⟨h0, h1, h2, h3, h4, h5, h6⟩
  have HFt : ∀ W, Keeps (fun _ => False) w1 W → W.cell? ⟨w.heap.size + 1, 0, none⟩ = some (.slice Bp t.players.length dp) ∧ W.cell? ⟨w.heap.size + 1, 1, none⟩ = some (.slice Bc t.cards.length dc) ∧ W.cell? ⟨w.heap.size + 1, 2, none⟩ = some (.slice Bz t.zones.length dz) ∧ W.cell? ⟨w.heap.size + 1, 3, none⟩ = some (.int .i32 t.turn) ∧ W.cell? ⟨w.heap.size + 1, 4, none⟩ = some (.int .i64 t.whose) ∧ W.cell? ⟨w.heap.size + 1, 5, none⟩ = some (.int .i8 t.fin) ∧ W.cell? ⟨w.heap.size + 1, 6, none⟩ = some (.int .i64 t.winner) := fun W hW => by
    obtain ⟨h0, h1, h2, h3, h4, h5, h6, _⟩ := seven (S1.out.calm hW).b2
    exact ⟨h0, h1, h2, h3, h4, h5, h6⟩
  have HZ1 : Hid (∀ W, Keeps (fun _ => False) w1 W → Calls Tryd.prog 8 #[.agg #[.slice Ap s.players.length cp, .slice Ac s.cards.length cc, .slice Az s.zones.length cz, .int .i32 s.turn, .int .i64 s.whose, .int .i8 s.fin, .int .i64 s.winner]] W fun e w' => e = .returned (.int .i64 (stSizeTo s : Nat)) ∧ Keeps (fun _ => False) W w') := Lib.hid (fun W hW => by
    have h := sizeState_any s Ap Ac Az W.heap.size cp cc cz W (S1.out.calm hW).i1 (Nat.le_refl _) HS.out.players HS.out.cards HS.out.zones HS.out.rows
    unfold stV at h
    exact h)
  have HZ2 : Hid (∀ W, Keeps (fun _ => False) w1 W → Calls Tryd.prog 8 #[.agg #[.slice Bp t.players.length dp, .slice Bc t.cards.length dc, .slice Bz t.zones.length dz, .int .i32 t.turn, .int .i64 t.whose, .int .i8 t.fin, .int .i64 t.winner]] W fun e w' => e = .returned (.int .i64 (stSizeTo t : Nat)) ∧ Keeps (fun _ => False) W w') := Lib.hid (fun W hW => by
    have h := sizeState_any t Bp Bc Bz W.heap.size dp dc dz W (S1.out.calm hW).i2 (Nat.le_refl _) HT.out.players HT.out.cards HT.out.zones HT.out.rows
    unfold stV at h
    exact h)
  obtain ⟨bb, hbb⟩ : ∃ z, z = decide (4194304 < (stSizeTo s : Int) + (stSizeTo t : Int)) := ⟨_, rfl⟩
  have HBB := Lib.hid hbb
  clear hbb
  have hzb := And.intro (size_bound HS.out) (size_bound HT.out)
  have hwz : IntKind.i64.wrap ((stSizeTo s : Int) + (stSizeTo t : Int)) = (stSizeTo s : Int) + (stSizeTo t : Int) := IntWalk.i64_in _ (by omega)
  go_wp2_with fail
  refine regionCut (SizeCut bb w1) ?_ ?_
  · skip
    refine wp_region_held_drew (S := fun W => Keeps (fun _ => False) w1 W) (by kernel_rfl) ((Keeps.refl _ w1).drew) ?_
    intro hSn
    refine wpAnyH_take (i := 0) (v := ?v1) rfl (by kernel_rfl) (by kernel_rfl) (by kernel_rfl) (fun _ _ _ h => by first | exact h | exact absurd h.1 (fun e => by cases e)) (Or.inl ⟨by rfl, ?hy1⟩) (by assumption) ?rest1
    case hy1 =>
      intro w hSw
      obtain ⟨m0, m1, m2, m3, m4, m5, m6⟩ := HFs w hSw
      go_simp
      try with_reducible rfl
    go_simp
    refine wpAnyH_take (i := 2) (v := ?v2) rfl (by kernel_rfl) (by kernel_rfl) (by kernel_rfl) (fun _ _ _ h => by first | exact h | exact absurd h.1 (fun e => by cases e)) (Or.inl ⟨by rfl, ?hy2⟩) (by assumption) ?rest2
    case hy2 =>
      intro w hSw
      obtain ⟨m0, m1, m2, m3, m4, m5, m6⟩ := HFt w hSw
      go_simp
      try with_reducible rfl
    go_simp
    refine wpAnyH_ready (rs := [1]) (by kernel_rfl) (by simp) ?_
    refine AllReadyH.cons rfl (fun K hK => ?_) AllReadyH.nil
    go_simp
    refine (HZ1.out _ hSn).mono ?_
    rintro e x1 ⟨rfl, k1⟩
    refine hK.out _ _ (hSn.trans k1) (fun hSn => ?_)
    clear hK K
    go_simp
    refine wpAnyH_ready (rs := [3]) (by kernel_rfl) (by simp) ?_
    refine AllReadyH.cons rfl (fun K hK => ?_) AllReadyH.nil
    go_simp
    refine (HZ2.out _ hSn).mono ?_
    rintro e x2 ⟨rfl, k2⟩
    refine hK.out _ _ (hSn.trans k2) (fun hSn => ?_)
    clear hK K
    go_simp
    refine wpAnyH_take (i := 4) (v := ?v3) rfl (by kernel_rfl) (by kernel_rfl) (by kernel_rfl) (fun _ _ _ h => by first | exact h | exact absurd h.1 (fun e => by cases e)) (Or.inl ⟨by rfl, ?hy3⟩) (by assumption) ?rest3
    case hy3 =>
      intro w hSw
      skip
      go_simp
      try with_reducible rfl
    go_simp
    refine wpAnyH_take (i := 5) (v := ?v4) rfl (by kernel_rfl) (by kernel_rfl) (by kernel_rfl) (fun _ _ _ h => by first | exact h | exact absurd h.1 (fun e => by cases e)) (Or.inl ⟨by rfl, ?hy4⟩) (by assumption) ?rest4
    case hy4 =>
      intro w hSw
      skip
      go_simp
      try with_reducible rfl
    go_simp
    refine wpAnyH_done (by kernel_rfl) ?_ _
    refine ⟨rfl, ?_, hSn⟩
    rw [HBB.out]
    exact ⟨_, _, _, _, _, rfl⟩
  · rintro a' w2 ⟨⟨u16, u17, u18, u19, u20, rfl⟩, k2⟩
    have S2 := Lib.hid (S1.out.calm k2)
    clear k2 S1 HFs HFt HZ1 HZ2 hwz hzb
    cases bb
    rotate_left
    · go_wp2_with fail
      go_ret
      exact ⟨rfl, S2.out.keeps⟩
    have hle : (stSizeTo s : Int) + (stSizeTo t : Int) ≤ 4194304 := by
      have h := HBB.out
      have h2 := of_decide_eq_false h.symm
      omega
    have SM := Lib.hid (small_of_size (stSizeTo_small (s := s) (by omega)))
    have TM := Lib.hid (small_of_size (stSizeTo_small (s := t) (by omega)))
    clear hle HBB
    obtain ⟨a0, a1, a2, a3, a4, a5, a6, f0, f1, f2, f3, f4, f5, f6⟩ := seven S2.out.b1
    clear f0 f1 f2 f3 f4 f5 f6

    rcases checkP_fst s with hc | hc
    rotate_left
    · have HE := encode_no s Ap Ac Az w2.heap.size cp cc cz w2 S2.out.i1 (Nat.le_refl _) SM.out hc
      unfold stV at HE
      clear hc
      go_wp2_with fail
      refine HE.mono ?_
      rintro e w3 ⟨rfl, k3⟩
      have S3 := Lib.hid (S2.out.calm k3)
      clear HE S2 k3 a0 a1 a2 a3 a4 a5 a6
      obtain ⟨a0, a1, a2, a3, a4, a5, a6, f0, f1, f2, f3, f4, f5, f6⟩ := seven S3.out.b2
      clear f0 f1 f2 f3 f4 f5 f6
      rcases checkP_fst t with hc | hc
      · have HE := encode_yes t Bp Bc Bz w3.heap.size dp dc dz w3 S3.out.i2 (Nat.le_refl _) TM.out hc HV.out
        unfold stV at HE
        clear hc
        obtain ⟨ln, hln⟩ : ∃ z, z = (img t).length := ⟨_, rfl⟩
        rw [← hln] at HE
        clear hln
        go_wp2_with fail
        refine HE.mono ?_
        rintro e w4 ⟨C, ccap, rfl, _, k4⟩
        clear HE a0 a1 a2 a3 a4 a5 a6
        go_wp2_with fail
        go_ret
        exact ⟨rfl, S3.out.keeps.trans k4⟩
      · have HE := encode_no t Bp Bc Bz w3.heap.size dp dc dz w3 S3.out.i2 (Nat.le_refl _) TM.out hc
        unfold stV at HE
        clear hc
        go_wp2_with fail
        refine HE.mono ?_
        rintro e w4 ⟨rfl, k4⟩
        clear HE a0 a1 a2 a3 a4 a5 a6
        go_wp2_with fail
        go_ret
        exact ⟨rfl, S3.out.keeps.trans k4⟩
    have HCS := Lib.hid hc
    have GS := Lib.hid ((mayI hc).good HU.out)
    have hx20 : (img s).length ≤ 20000 := ((mayI hc).few).img
    have HE := encode_yes s Ap Ac Az w2.heap.size cp cc cz w2 S2.out.i1 (Nat.le_refl _) SM.out hc HU.out
    unfold stV at HE
    clear hc
    obtain ⟨x, hx⟩ : ∃ z, z = img s := ⟨_, rfl⟩
    rw [← hx] at HE hx20
    have HX := Lib.hid hx
    clear hx
    go_wp2_with fail
    refine HE.mono ?_
    rintro e w3 ⟨C, ccap, rfl, ownx, k3⟩
    have S3 := Lib.hid (S2.out.calm k3)
    have LX := Lib.hid (own_lies ownx)
    clear HE S2 k3 ownx a0 a1 a2 a3 a4 a5 a6
    obtain ⟨a0, a1, a2, a3, a4, a5, a6, f0, f1, f2, f3, f4, f5, f6⟩ := seven S3.out.b2
    clear f0 f1 f2 f3 f4 f5 f6

    rcases checkP_fst t with hc | hc
    rotate_left
    · have HE := encode_no t Bp Bc Bz w3.heap.size dp dc dz w3 S3.out.i2 (Nat.le_refl _) TM.out hc
      unfold stV at HE
      clear hc
      go_wp2_with fail
      refine HE.mono ?_
      rintro e w4 ⟨rfl, k4⟩
      clear HE a0 a1 a2 a3 a4 a5 a6
      go_wp2_with fail
      go_ret
      exact ⟨rfl, S3.out.keeps.trans k4⟩
    have HCT := Lib.hid hc
    have GT := Lib.hid ((mayI hc).good HV.out)
    have hy20 : (img t).length ≤ 20000 := ((mayI hc).few).img
    have HE := encode_yes t Bp Bc Bz w3.heap.size dp dc dz w3 S3.out.i2 (Nat.le_refl _) TM.out hc HV.out
    unfold stV at HE
    clear hc
    obtain ⟨y, hy⟩ : ∃ z, z = img t := ⟨_, rfl⟩
    rw [← hy] at HE hy20
    have HY := Lib.hid hy
    clear hy
    go_wp2_with fail
    refine HE.mono ?_
    rintro e w4 ⟨D, dcap, rfl, owny, k4⟩
    have S4 := Lib.hid (S3.out.calm k4)
    have LX4 := Lib.hid ((LX.out.keep fun _ _ hb => k4.cell hb id).more k4.size)
    have LY := Lib.hid (own_lies owny)
    clear HE S3 k4 owny LX a0 a1 a2 a3 a4 a5 a6
    obtain ⟨a0, a1, a2, a3, a4, a5, a6, f0, f1, f2, f3, f4, f5, f6⟩ := seven S4.out.b1
    clear f0 f1 f2 f3 f4 f5 f6

    have HE := imSum_yes s Ap Ac Az w4.heap.size cp cc cz w4 S4.out.i1 (Nat.le_refl _) SM.out HCS.out HU.out
    unfold stV at HE
    go_wp2_with fail
    refine HE.mono ?_
    rintro e w5 ⟨rfl, k5⟩
    have S5 := Lib.hid (S4.out.calm k5)
    have LX5 := Lib.hid ((LX4.out.keep fun _ _ hb => k5.cell hb id).more k5.size)
    have LY5 := Lib.hid ((LY.out.keep fun _ _ hb => k5.cell hb id).more k5.size)
    clear HE S4 k5 LX4 LY a0 a1 a2 a3 a4 a5 a6
    obtain ⟨a0, a1, a2, a3, a4, a5, a6, f0, f1, f2, f3, f4, f5, f6⟩ := seven S5.out.b2
    clear f0 f1 f2 f3 f4 f5 f6

    have HE := imSum_yes t Bp Bc Bz w5.heap.size dp dc dz w5 S5.out.i2 (Nat.le_refl _) TM.out HCT.out HV.out
    unfold stV at HE
    go_wp2_with fail
    refine HE.mono ?_
    rintro e w6 ⟨rfl, k6⟩
    have S6 := Lib.hid (S5.out.calm k6)
    have LX6 := Lib.hid ((LX5.out.keep fun _ _ hb => k6.cell hb id).more k6.size)
    have LY6 := Lib.hid ((LY5.out.keep fun _ _ hb => k6.cell hb id).more k6.size)
    clear HE S5 k6 LX5 LY5 a0 a1 a2 a3 a4 a5 a6
    have HE := eqBytes_any x y C D w6.heap.size w6.heap.size ccap dcap w6 LX6.out LY6.out (by omega)
    clear LX6 LY6
    by_cases hst : s = t
    · have e1 : decide (x = y) = true := decide_eq_true (by rw [HX.out, HY.out, hst])
      have e2 : decide (s = t) = true := decide_eq_true hst
      have e3 : (wn (Crc.crc (img s)) == wn (Crc.crc (img t))) = true := by rw [hst]; simp
      have HST := Lib.hid hst
      clear hst
      rw [e1] at HE
      have E2 := Lib.hid e2
      clear e1 e2
      go_wp2_with fail
      refine HE.mono ?_
      rintro e w7 ⟨rfl, k7⟩
      have S7 := Lib.hid (S6.out.calm (keepsAll k7))
      clear HE k7 S6
      obtain ⟨a0, a1, a2, a3, a4, a5, a6, f0, f1, f2, f3, f4, f5, f6⟩ := seven S7.out.b1
      clear f0 f1 f2 f3 f4 f5 f6
      obtain ⟨b0, b1, b2, b3, b4, b5, b6, g0, g1, g2, g3, g4, g5, g6⟩ := seven S7.out.b2
      clear g0 g1 g2 g3 g4 g5 g6

      have HE := eqState_any s t Ap Ac Az Bp Bc Bz w7.heap.size cp cc cz dp dc dz w7 S7.out.i1 S7.out.i2 (Nat.le_refl _) SM.out
      unfold stV at HE
      rw [E2.out] at HE
      go_wp2_with fail
      refine HE.mono ?_
      rintro e w8 ⟨rfl, k8⟩
      have S8 := Lib.hid (S7.out.calm k8)
      clear HE k8 S7 a0 a1 a2 a3 a4 a5 a6 b0 b1 b2 b3 b4 b5 b6
      obtain ⟨a0, a1, a2, a3, a4, a5, a6, f0, f1, f2, f3, f4, f5, f6⟩ := seven S8.out.b1
      clear f0 f1 f2 f3 f4 f5 f6
      obtain ⟨b0, b1, b2, b3, b4, b5, b6, g0, g1, g2, g3, g4, g5, g6⟩ := seven S8.out.b2
      clear g0 g1 g2 g3 g4 g5 g6

      have HE := same_any s t Ap Ac Az Bp Bc Bz w8.heap.size cp cc cz dp dc dz w8 S8.out.i1 S8.out.i2 (Nat.le_refl _) SM.out
      unfold stV at HE
      rw [E2.out] at HE
      go_wp2_with fail
      refine HE.mono ?_
      rintro e w9 ⟨rfl, k9⟩
      have S9 := Lib.hid (S8.out.calm k9)
      clear HE k9 S8 a0 a1 a2 a3 a4 a5 a6 b0 b1 b2 b3 b4 b5 b6
      go_wp2_with fail
      go_ret
      exact ⟨rfl, S9.out.keeps⟩
    · have e1 : decide (x = y) = false := decide_eq_false (by rw [HX.out, HY.out]; exact fun e => hst (img_inj GS.out GT.out e))
      have e2 : decide (s = t) = false := decide_eq_false hst
      clear hst
      rw [e1] at HE
      have E2 := Lib.hid e2
      clear e1 e2
      go_wp2_with fail
      refine HE.mono ?_
      rintro e w7 ⟨rfl, k7⟩
      have S7 := Lib.hid (S6.out.calm (keepsAll k7))
      clear HE k7 S6
      obtain ⟨a0, a1, a2, a3, a4, a5, a6, f0, f1, f2, f3, f4, f5, f6⟩ := seven S7.out.b1
      clear f0 f1 f2 f3 f4 f5 f6
      obtain ⟨b0, b1, b2, b3, b4, b5, b6, g0, g1, g2, g3, g4, g5, g6⟩ := seven S7.out.b2
      clear g0 g1 g2 g3 g4 g5 g6

      have HE := eqState_any s t Ap Ac Az Bp Bc Bz w7.heap.size cp cc cz dp dc dz w7 S7.out.i1 S7.out.i2 (Nat.le_refl _) SM.out
      unfold stV at HE
      rw [E2.out] at HE
      go_wp2_with fail
      refine HE.mono ?_
      rintro e w8 ⟨rfl, k8⟩
      have S8 := Lib.hid (S7.out.calm k8)
      clear HE k8 S7 a0 a1 a2 a3 a4 a5 a6 b0 b1 b2 b3 b4 b5 b6
      obtain ⟨a0, a1, a2, a3, a4, a5, a6, f0, f1, f2, f3, f4, f5, f6⟩ := seven S8.out.b1
      clear f0 f1 f2 f3 f4 f5 f6
      obtain ⟨b0, b1, b2, b3, b4, b5, b6, g0, g1, g2, g3, g4, g5, g6⟩ := seven S8.out.b2
      clear g0 g1 g2 g3 g4 g5 g6

      have HE := same_any s t Ap Ac Az Bp Bc Bz w8.heap.size cp cc cz dp dc dz w8 S8.out.i1 S8.out.i2 (Nat.le_refl _) SM.out
      unfold stV at HE
      rw [E2.out] at HE
      go_wp2_with fail
      refine HE.mono ?_
      rintro e w9 ⟨rfl, k9⟩
      have S9 := Lib.hid (S8.out.calm k9)
      clear HE k9 S8 a0 a1 a2 a3 a4 a5 a6 b0 b1 b2 b3 b4 b5 b6
      go_wp2_with fail
      go_ret
      exact ⟨rfl, S9.out.keeps⟩
end Go.Proofs.YthmfbcfbcookiaaDoor
