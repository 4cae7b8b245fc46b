/-
  Decode of packs: the walk. Conditions: lengths within 10 ^ 9; the package's own variable errors.errorType is as Go lays it.
-/
import Derived.Test.YtcmbdnjcfneinaaGreatDoorRdMd
import Derived.Test.YtcmbdnjcfneinaaGreatDoorAsF
namespace Go.Proofs.YtcmbdnjcfneinaaGreatDoor
open Go.RowKit
section
variable {b : List Oct} {e q j : Nat} {x : Int × List Int × List (List Oct) × List Knd}
theorem decP_head (h : (headC b).1 ≠ 0) : decP b = (zeroPk, headC b) := by
  unfold decP
  rw [if_pos h]
theorem decP_bad (h : (headC b).1 = 0) (h2 : secsP (b.take (b.length - 4)) 5 = .bad e q) : decP b = (zeroPk, e, q) := by
  unfold decP
  rw [if_neg (by rw [h]; simp), h2]
theorem decP_more (h : (headC b).1 = 0) (h2 : secsP (b.take (b.length - 4)) 5 = .ok x j) (hj : j ≠ b.length - 4) : decP b = (zeroPk, 55, j) := by
  unfold decP
  rw [if_neg (by rw [h]; simp), h2]
  simp only []
  rw [if_pos hj]
theorem decP_chk (h : (headC b).1 = 0) (h2 : secsP (b.take (b.length - 4)) 5 = .ok x (b.length - 4)) (hc : chk (toPk x) ≠ 0) : decP b = (zeroPk, chk (toPk x), 5) := by
  unfold decP
  rw [if_neg (by rw [h]; simp), h2]
  simp only []
  rw [if_neg (by simp), if_pos hc]
theorem decP_ok (h : (headC b).1 = 0) (h2 : secsP (b.take (b.length - 4)) 5 = .ok x (b.length - 4)) (hc : chk (toPk x) = 0) : decP b = (toPk x, 0, 0) := by
  unfold decP
  rw [if_neg (by rw [h]; simp), h2]
  simp only []
  rw [if_neg (by simp), if_neg (by rw [hc]; simp)]
end
theorem Sep.rebase {w w0 W : World} {L : List Loc} (h : Sep w0 W L) (hk : Keeps (fun _ => False) w w0) : Sep w W L := ⟨hk.trans h.old, fun e he k hb => Nat.le_trans hk.size (h.low e he k hb), h.all, h.apart⟩
theorem results_cell3R {P : Program} {fn : Func} {a b c : Tmp} {t : TypeId} (h : fn.results = #[.cell a t, .tmp b, .tmp c]) (tmps : Array Value) (g : Nat) (hp : tmps.getD a undef = .pointer (some ⟨g, 0, none⟩)) (cs : Array Value) (v u : Value) (hb : tmps.getD b undef = v) (hc : tmps.getD c undef = u) (w : World) (hW : Whole w g t cs) (d : TypeDesc) (hu : P.underlying t = some d)
    (hd : (match d with | .struct _ | .array _ _ => true | _ => false) = true) (hi : (P.info? t).map (·.size) = some cs.size) : (results fn tmps).run P w = .ok (.tuple #[.agg cs, v, u]) w := by
  have hl := run_loadVar_row (P := P) w g t t cs (0, 0) d hW hu hd hi
  have hp' : tmps[a]?.getD undef = .pointer (some ⟨g, 0, none⟩) := by rw [← Array.getD_eq_getD_getElem?]; exact hp
  have hb' : tmps[b]?.getD undef = v := by rw [← Array.getD_eq_getD_getElem?]; exact hb
  have hc' : tmps[c]?.getD undef = u := by rw [← Array.getD_eq_getD_getElem?]; exact hc
  simp [results, h, hp', hb', hc', asAddr, hl]
theorem whole_put4 {w : World} {g : Nat} {t : TypeId} {v0 v1 v2 v3 : Value} (u0 u1 u2 u3 : Value) (h : Whole w g t #[v0, v1, v2, v3]) : Whole ((((w.setCell ⟨g, 0, none⟩ u0).setCell ⟨g, 1, none⟩ u1).setCell ⟨g, 2, none⟩ u2).setCell ⟨g, 3, none⟩ u3) g t #[u0, u1, u2, u3] :=
  (((h.put 0 u0).put 1 u1).put 2 u2).put 3 u3
theorem keeps_put4 {S : Nat → Prop} {w w' : World} {g : Nat} (u0 u1 u2 u3 : Value) (h : Keeps S w w') (hg : g < w.heap.size → S g) : Keeps S w ((((w'.setCell ⟨g, 0, none⟩ u0).setCell ⟨g, 1, none⟩ u1).setCell ⟨g, 2, none⟩ u2).setCell ⟨g, 3, none⟩ u3) :=
  (((h.setCell (p := ⟨g, 0, none⟩) hg u0).setCell (p := ⟨g, 1, none⟩) hg u1).setCell (p := ⟨g, 2, none⟩) hg u2).setCell (p := ⟨g, 3, none⟩) hg u3
theorem locs_low (p : PPk) {B : Nat} {W : World} (e : Loc) (he : e ∈ p.locs B) (k : Nat) (hk : e.blk = some k) (hh : e.holds W) : B ≤ k := by
  have own : ∀ (t : TypeId) (size : Nat) (v : Value) (n : Nat) (xs : List Value), e = Loc.own B t size v n xs → B ≤ k := fun t size v n xs h => by
    subst h
    exact (owns_inside hh hk).1
  unfold PPk.locs at he
  simp only [List.mem_cons, List.mem_flatMap] at he
  rcases he with h | h | h | ⟨q, _, h⟩
  · exact own _ _ _ _ _ h
  · exact own _ _ _ _ _ h
  · exact own _ _ _ _ _ h
  · unfold PK.locs at h
    simp only [List.mem_cons, List.mem_flatMap] at h
    rcases h with h | h | ⟨r, _, h⟩
    · exact own _ _ _ _ _ h
    · exact own _ _ _ _ _ h
    · unfold PE.locs at h
      simp only [List.mem_cons, List.not_mem_nil, or_false] at h
      rcases h with h | h
      · exact own _ _ _ _ _ h
      · exact own _ _ _ _ _ h
theorem whole_ne {w : World} {g g' : Nat} {t t' : TypeId} {cs cs' : Array Value} (h : Whole w g t cs) (h' : Whole w g' t' cs') (ht : t ≠ t') : g ≠ g' := fun e => by
  subst e
  have e2 := h.symm.trans h'
  injection e2 with e2
  injection e2 with _ e3 _
  exact ht e3
def zeroC : Array Value := #[.int .i64 0, .slice none 0 0, .slice none 0 0, .slice none 0 0]
/-- The type 'error', as errors.errorType holds it. -/
def ErrT (w : World) : Prop := w.cell? ⟨0, 0, none⟩ = some (.iface 218 (.agg #[.pointer (some ⟨5, 87, none⟩)]))
theorem ErrT.keeps {w w' : World} (h : ErrT w) (hk : Keeps (fun _ => False) w w') : ErrT w' := by
  have hl : 0 < w.heap.size := World.block_lt_of_cell? w ⟨0, 0, none⟩ h
  exact (hk.cell hl id).trans h
/-- What Decode answers. -/
def DecOut (w w' : World) (b : List Oct) (cs : Array Value) : Prop := Keeps (fun _ => False) w w' ∧ ((decP b).2.1 ≠ 0 → cs = zeroC) ∧ ((decP b).2.1 = 0 → ∃ (p : PPk) (B : Nat), cs = p.vals ∧ toPk p.x = (decP b).1 ∧ Sep w w' (p.locs B))
set_option maxRecDepth 8000 in
set_option maxHeartbeats 4000000 in
theorem decode_any (b : List Oct) (A : Option Addr) (cap : Nat) (w : World) (hl : Lies w w.heap.size A (bytesV b)) (hcap : b.length ≤ cap) (hb : b.length ≤ 1000000000) (hg : ErrT w) :
    Calls Tryz.prog 19 #[.slice A b.length cap] w fun r w' => ∃ cs : Array Value, r = .returned (.tuple #[.agg cs, .int .i64 (decP b).2.1, .int .i64 (decP b).2.2]) ∧ DecOut w w' b cs := by
  obtain ⟨D, hD⟩ : ∃ D, D = decP b := ⟨_, rfl⟩
  rw [← hD]
  have HD := Lib.hid hD
  clear hD
  have k0 := (Keeps.refl (fun _ => False) w).alloc (.cells #[.int .i64 0, .slice none 0 0, .slice none 0 0, .slice none 0 0] 26)
  have hW0 := Whole.made w 26 #[.int .i64 0, .slice none 0 0, .slice none 0 0, .slice none 0 0]
  have hL0 : Lies (w.alloc (.cells #[.int .i64 0, .slice none 0 0, .slice none 0 0, .slice none 0 0] 26)) (w.alloc (.cells #[.int .i64 0, .slice none 0 0, .slice none 0 0, .slice none 0 0] 26)).heap.size A (bytesV b) := hl.pastK k0
  have HB := Lib.hid (begins_any b A cap _ hL0 hcap hb)
  have HK0 := Lib.hid k0
  have HW0 := Lib.hid hW0
  have HL0 := Lib.hid hL0
  have HG0 := Lib.hid (hg.keeps k0)
  clear hl k0 hW0 hL0 hg
  go_enter Tryz.func19, Tryz.ntmps19
  go_wp2_with fail
  generalize w.alloc _ = w0 at *
  refine HB.out.mono ?_
  rintro r w1 ⟨rfl, k1⟩
  have HK1 := Lib.hid (HK0.out.trans k1)
  have HW1 := Lib.hid (HW0.out.keeps k1 id)
  have HL1 := Lib.hid (HL0.out.pastK k1)
  have HG1 := Lib.hid (HG0.out.keeps k1)
  clear HB HK0 HW0 HL0 HG0 k1
  by_cases h0 : (headC b).1 = 0
  · have HH := Lib.hid h0
    rw [h0]
    have hb2 := (headC_ok h0).1
    have hb9 := (headC_ok h0).2.1
    obtain ⟨g, off, rfl⟩ : ∃ g off, A = some ⟨g, off, none⟩ := by
      obtain ⟨g, off, e, _⟩ := HL1.out 0 _ (bytesV_get b 0 (by omega))
      exact ⟨g, off, e⟩
    have HRd := Lib.hid (read_any HL1.out hcap hb9 hb2)
    generalize (headC b).2 = at0
    clear h0 HL1
    go_wp2_with fail
    refine HRd.out.mono ?_
    rintro r w2 (⟨p, rfl, hsec, hsep⟩ | ⟨e, q, c, A5, n5, c5, A6, n6, c6, A7, n7, c7, fb, rfl, hbad, hfl, hk2⟩)
    · have hgd := read_good (by rw [List.length_take]; omega) (by rw [List.length_take]; omega) hsec
      have kr : Keeps (fun _ => False) w1 w2 := hsep.old
      obtain ⟨W4, hW4⟩ : ∃ W, W = (w2.alloc (.cells p.vals 26)).alloc (.cells #[.pointer none] 114) := ⟨_, rfl⟩
      have k4 : Keeps (fun _ => False) w2 W4 := by rw [hW4]; exact ((Keeps.refl _ w2).alloc _).alloc _
      have hT7 : Whole W4 w2.heap.size 26 p.vals := by rw [hW4]; exact (Whole.made w2 _ _).alloc _
      have HS4 := Lib.hid ((hsep.past k4).rebase HK1.out)
      have HW4 := Lib.hid ((HW1.out.keeps kr id).keeps k4 id)
      have HK4 := Lib.hid ((HK1.out.trans kr).trans k4)
      have hchk := check_any (toPk p.x) p.Ai p.At p.Ak p.ci p.ct p.ck W4 (p.lies HS4.out) (few_pk hgd.1) hgd.2
      rw [← PPk.pkC] at hchk
      have HCh := Lib.hid hchk
      have HT7 := Lib.hid hT7
      have HO0 : Hid (chk (toPk p.x) = 0 → D = (toPk p.x, 0, 0)) := Lib.hid (fun h => by rw [HD.out]; exact decP_ok HH.out hsec h)
      have HO1 : Hid (chk (toPk p.x) ≠ 0 → D = (zeroPk, chk (toPk p.x), 5)) := Lib.hid (fun h => by rw [HD.out]; exact decP_chk HH.out hsec h)
      have hwl : Hid (w.heap.size < w1.heap.size) := Lib.hid HW1.out.inside
      have HWe := Lib.hid hW4
      clear hgd hsec hsep kr k4 hT7 hchk HK1 HW1 HG1 HRd hW4
      unfold PPk.vals at HCh HT7 HWe ⊢
      go_wp2_with fail
      refine (as_nil _ _).mono ?_
      rintro r w3 ⟨rfl, hw3⟩
      rw [← HWe.out] at hw3
      subst hw3
      clear HWe
      obtain ⟨t0, t1, t2, t3⟩ := four HT7.out
      go_wp2_with fail
      refine HCh.out.mono ?_
      rintro r w5 ⟨rfl, k5⟩
      have HT5 := Lib.hid (HT7.out.keeps k5 id)
      have HW5 := Lib.hid (HW4.out.keeps k5 id)
      have HK5 := Lib.hid (HK4.out.trans k5)
      have HS5 := Lib.hid (HS4.out.past k5)
      clear t0 t1 t2 t3 HT7 HW4 HK4 HS4 HCh k5
      obtain ⟨t0, t1, t2, t3⟩ := four HT5.out
      obtain ⟨p0, p1, p2, p3⟩ := four HW5.out
      have f0 := HW5.out.free 0
      have f1 := HW5.out.free 1
      have f2 := HW5.out.free 2
      have f3 := HW5.out.free 3
      by_cases hc : chk (toPk p.x) = 0
      · have HE := Lib.hid (HO0.out hc)
        rw [hc]
        have HZ := Lib.hid (whole_put4 (.int .i64 (p.cards : Int)) (.slice p.Ai p.ints.length p.ci) (.slice p.At p.texts.length p.ct) (.slice p.Ak p.ks.length p.ck) HW5.out)
        have HKZ := Lib.hid (keeps_put4 (.int .i64 (p.cards : Int)) (.slice p.Ai p.ints.length p.ci) (.slice p.At p.texts.length p.ct) (.slice p.Ak p.ks.length p.ck) HK5.out (g := w.heap.size) (fun h => absurd h (Nat.lt_irrefl _)))
        have hkk := keeps_put4 (S := fun k => k = w.heap.size) (.int .i64 (p.cards : Int)) (.slice p.Ai p.ints.length p.ci) (.slice p.At p.texts.length p.ct) (.slice p.Ak p.ks.length p.ck) (Keeps.refl _ w5) (g := w.heap.size) (fun _ => rfl)
        have HSZ := Lib.hid (HS5.out.keeps hkk (fun e he k hk hs => by
          have h1 := (locs_low p e he k hk (HS5.out.all e he))
          have h2 := hwl.out
          omega) (fun k hk hs => by omega))
        clear hc HO0 HO1 hkk
        go_wp2_with fail
        refine bodyPost_ret (results_cell3R (by rfl) _ w.heap.size (by rfl) #[.int .i64 (p.cards : Int), .slice p.Ai p.ints.length p.ci, .slice p.At p.texts.length p.ct, .slice p.Ak p.ks.length p.ck] (.int .i64 0) (.int .i64 0) (by rfl) (by rfl) _ HZ.out _ Tryz.underlying26 rfl (by kernel_rfl)) rfl ?_
        refine ⟨_, by rw [HE.out]; rfl, HKZ.out, fun h => absurd (by rw [← HD.out, HE.out]) h, fun _ => ⟨p, w1.heap.size, rfl, by rw [← HD.out, HE.out], HSZ.out⟩⟩
      · have HE := Lib.hid (HO1.out hc)
        have HD0 : Hid ((decP b).2.1 ≠ 0) := Lib.hid (by rw [← HD.out, HE.out]; exact hc)
        obtain ⟨cv, hcv⟩ : ∃ c, c = chk (toPk p.x) := ⟨_, rfl⟩
        rw [← hcv] at hc HE ⊢
        have hne : (cv : Int) ≠ 0 := by omega
        have hbn : ((cv : Int) != 0) = true := by simp [hc]
        have HZ := Lib.hid (whole_put4 (.int .i64 0) (.slice none 0 0) (.slice none 0 0) (.slice none 0 0) HW5.out)
        have HKZ := Lib.hid (keeps_put4 (.int .i64 0) (.slice none 0 0) (.slice none 0 0) (.slice none 0 0) HK5.out (g := w.heap.size) (fun h => absurd h (Nat.lt_irrefl _)))
        clear hc HO0 HO1 hcv
        go_wp2_with fail
        refine bodyPost_ret (results_cell3R (by rfl) _ w.heap.size (by rfl) zeroC (.int .i64 cv) (.int .i64 5) (by rfl) (by rfl) _ HZ.out _ Tryz.underlying26 rfl (by kernel_rfl)) rfl ?_
        exact ⟨zeroC, by rw [HE.out]; rfl, HKZ.out, fun _ => rfl, fun h => absurd h HD0.out⟩
    · have HE : Hid (D = (zeroPk, e, q)) := Lib.hid (by
        rw [HD.out]
        rcases hbad with h | ⟨x, h, h2, rfl⟩
        · exact decP_bad HH.out h
        · exact decP_more HH.out h h2)
      have he0 : Hid (e ≠ 0) := Lib.hid (by
        rcases hbad with h | ⟨x, h, h2, rfl⟩
        · exact (Cs.secs.bad (by rw [List.length_take]; omega) h).2.2
        · decide)
      have HD0 : Hid ((decP b).2.1 ≠ 0) := Lib.hid (by rw [← HD.out, HE.out]; exact he0.out)
      obtain ⟨W4, hW4⟩ : ∃ W, W = (w2.alloc (.cells #[.int .i64 c, .slice A5 n5 c5, .slice A6 n6 c6, .slice A7 n7 c7] 26)).alloc (.cells #[.pointer none] 114) := ⟨_, rfl⟩
      have k4 : Keeps (fun _ => False) w2 W4 := by rw [hW4]; exact ((Keeps.refl _ w2).alloc _).alloc _
      have hT9 : Whole W4 (w2.heap.size + 1) 114 #[.pointer none] := by
        rw [hW4]
        have h := Whole.made (w2.alloc (.cells #[.int .i64 c, .slice A5 n5 c5, .slice A6 n6 c6, .slice A7 n7 c7] 26)) 114 #[.pointer none]
        rw [World.size_alloc] at h
        exact h
      have HAs := Lib.hid (as_hit ⟨fb, 0, none⟩ ⟨w2.heap.size + 1, 0, none⟩ (.pointer none) W4 ((HG1.out.keeps hk2).keeps k4) (hT9.cellAt 0) (hT9.free 0))
      have HF4 := Lib.hid (hfl.keeps k4 id)
      have HW4 := Lib.hid ((HW1.out.keeps hk2 id).keeps k4 id)
      have HK4 := Lib.hid ((HK1.out.trans hk2).trans k4)
      have HT9 := Lib.hid hT9
      have hfb : fb < w2.heap.size := hfl.inside
      have hrc : w.heap.size < w1.heap.size := HW1.out.inside
      have h12 := hk2.size
      have HWe := Lib.hid hW4
      clear hbad hfl hk2 k4 hT9 HK1 HW1 HG1 HRd hW4
      go_wp2_with fail
      rw [← HWe.out]
      clear HWe
      refine HAs.out.mono ?_
      rintro r w5 ⟨rfl, hw5⟩
      have HT5 : Hid (Whole w5 (w2.heap.size + 1) 114 #[.pointer (some ⟨fb, 0, none⟩)]) := Lib.hid (by
        rw [hw5]
        exact ((((HT9.out.alloc _).alloc _).alloc _).alloc _).put 0 _)
      have hk5 : Keeps (fun k => k = w2.heap.size + 1) W4 w5 := by
        rw [hw5]
        exact ((((((Keeps.refl (fun k => k = w2.heap.size + 1) W4).alloc _).alloc _).alloc _).alloc _)).setCell (p := ⟨w2.heap.size + 1, 0, none⟩) (fun _ => rfl) _
      have HF5 := Lib.hid (HF4.out.keeps hk5 (by omega))
      have HW5 := Lib.hid (HW4.out.keeps hk5 (by omega))
      have HK5 := Lib.hid (HK4.out.and hk5 (fun k hk hs => by omega))
      clear hw5 hk5 HAs HF4 HW4 HK4 HT9
      go_wp2_with fail
      have HFd := Lib.hid (HF5.out.drew)
      have HTd := Lib.hid (HT5.out.drew)
      have HWd := Lib.hid (HW5.out.drew)
      have HKd := Lib.hid (HK5.out.drew)
      clear HF5 HT5 HW5 HK5
      refine wp_region_upTo 9 (fun W => W.cell? ⟨w2.heap.size + 1, 0, none⟩ = some (.pointer (some ⟨fb, 0, none⟩)) ∧ W.cell? ⟨fb, 0, none⟩ = some (.int .i64 e) ∧ W.cell? ⟨fb, 1, none⟩ = some (.int .i64 q)) (fun _ => True) (by kernel_rfl) ?_
      generalize w5.drew = Wd at *
      have hS0 : Hid (Wd.cell? ⟨w2.heap.size + 1, 0, none⟩ = some (.pointer (some ⟨fb, 0, none⟩)) ∧ Wd.cell? ⟨fb, 0, none⟩ = some (.int .i64 e) ∧ Wd.cell? ⟨fb, 1, none⟩ = some (.int .i64 q)) := Lib.hid ⟨HTd.out.cellAt 0, HFd.out.cellAt 0, HFd.out.cellAt 1⟩
      refine upTo_take (i := 0) (v := ?v1) rfl (by kernel_rfl) (by kernel_rfl) (by kernel_rfl) (fun _ _ _ h => by first | exact h | exact absurd h.1 (fun e => by cases e)) (by decide) (Or.inl ⟨by rfl, ?hy1⟩) (hS0.out) (fun _ => trivial) ?rest1
      case hy1 =>
        intro w hSw
        clear hSw
        go_simp
        try with_reducible rfl
      go_simp
      refine upTo_take (i := 1) (v := ?v2) rfl (by kernel_rfl) (by kernel_rfl) (by kernel_rfl) (fun _ _ _ h => by first | exact h | exact absurd h.1 (fun e => by cases e)) (by decide) (Or.inl ⟨by rfl, ?hy2⟩) (hS0.out) (fun _ => trivial) ?rest2
      case hy2 =>
        intro w hSw
        obtain ⟨q0, q1, q2⟩ := hSw
        go_simp
        try with_reducible rfl
      go_simp
      refine upTo_take (i := 2) (v := ?v3) rfl (by kernel_rfl) (by kernel_rfl) (by kernel_rfl) (fun _ _ _ h => by first | exact h | exact absurd h.1 (fun e => by cases e)) (by decide) (Or.inl ⟨by rfl, ?hy3⟩) (hS0.out) (fun _ => trivial) ?rest3
      case hy3 =>
        intro w hSw
        clear hSw
        go_simp
        try with_reducible rfl
      go_simp
      refine upTo_take (i := 3) (v := ?v4) rfl (by kernel_rfl) (by kernel_rfl) (by kernel_rfl) (fun _ _ _ h => by first | exact h | exact absurd h.1 (fun e => by cases e)) (by decide) (Or.inl ⟨by rfl, ?hy4⟩) (hS0.out) (fun _ => trivial) ?rest4
      case hy4 =>
        intro w hSw
        clear hSw
        go_simp
        try with_reducible rfl
      go_simp
      refine upTo_take (i := 4) (v := ?v5) rfl (by kernel_rfl) (by kernel_rfl) (by kernel_rfl) (fun _ _ _ h => by first | exact h | exact absurd h.1 (fun e => by cases e)) (by decide) (Or.inl ⟨by rfl, ?hy5⟩) (hS0.out) (fun _ => trivial) ?rest5
      case hy5 =>
        intro w hSw
        obtain ⟨q0, q1, q2⟩ := hSw
        go_simp
        try with_reducible rfl
      go_simp
      refine upTo_take (i := 5) (v := ?v6) rfl (by kernel_rfl) (by kernel_rfl) (by kernel_rfl) (fun _ _ _ h => by first | exact h | exact absurd h.1 (fun e => by cases e)) (by decide) (Or.inl ⟨by rfl, ?hy6⟩) (hS0.out) (fun _ => trivial) ?rest6
      case hy6 =>
        intro w hSw
        obtain ⟨q0, q1, q2⟩ := hSw
        go_simp
        try with_reducible rfl
      go_simp
      refine upTo_take (i := 6) (v := ?v7) rfl (by kernel_rfl) (by kernel_rfl) (by kernel_rfl) (fun _ _ _ h => by first | exact h | exact absurd h.1 (fun e => by cases e)) (by decide) (Or.inl ⟨by rfl, ?hy7⟩) (hS0.out) (fun _ => trivial) ?rest7
      case hy7 =>
        intro w hSw
        clear hSw
        go_simp
        try with_reducible rfl
      go_simp
      refine upTo_take (i := 7) (v := ?v8) rfl (by kernel_rfl) (by kernel_rfl) (by kernel_rfl) (fun _ _ _ h => by first | exact h | exact absurd h.1 (fun e => by cases e)) (by decide) (Or.inl ⟨by rfl, ?hy8⟩) (hS0.out) (fun _ => trivial) ?rest8
      case hy8 =>
        intro w hSw
        clear hSw
        go_simp
        try with_reducible rfl
      go_simp
      refine upTo_take (i := 8) (v := ?v9) rfl (by kernel_rfl) (by kernel_rfl) (by kernel_rfl) (fun _ _ _ h => by first | exact h | exact absurd h.1 (fun e => by cases e)) (by decide) (Or.inl ⟨by rfl, ?hy9⟩) (hS0.out) (fun _ => trivial) ?rest9
      case hy9 =>
        intro w hSw
        obtain ⟨q0, q1, q2⟩ := hSw
        go_simp
        try with_reducible rfl
      go_simp
      obtain ⟨p0, p1, p2, p3⟩ := four HWd.out
      have f0 := HWd.out.free 0
      have f1 := HWd.out.free 1
      have f2 := HWd.out.free 2
      have f3 := HWd.out.free 3
      have HZ := Lib.hid (whole_put4 (.int .i64 0) (.slice none 0 0) (.slice none 0 0) (.slice none 0 0) HWd.out)
      have HKZ := Lib.hid (keeps_put4 (.int .i64 0) (.slice none 0 0) (.slice none 0 0) (.slice none 0 0) HKd.out (g := w.heap.size) (fun h => absurd h (Nat.lt_irrefl _)))
      have hkk := keeps_put4 (S := fun k => k = w.heap.size) (.int .i64 0) (.slice none 0 0) (.slice none 0 0) (.slice none 0 0) (Keeps.refl _ Wd) (g := w.heap.size) (fun _ => rfl)
      have HTz := Lib.hid (HTd.out.keeps hkk (by omega))
      have HFz : Hid (Whole _ fb 118 #[.int .i64 e, .int .i64 q]) := Lib.hid (HFd.out.keeps hkk (whole_ne HFd.out HWd.out (by decide)))
      clear hkk
      refine upTo_next (i := 9) (by kernel_rfl) rfl ?_
      intro K hK
      go_simp
      refine hK.out _ _ (⟨HTz.out.cellAt 0, HFz.out.cellAt 0, HFz.out.cellAt 1⟩) (fun h => absurd h (by decide)) ?_
      clear hK K
      go_simp
      refine upTo_take (i := 10) (v := ?v10) rfl (by kernel_rfl) (by kernel_rfl) (by kernel_rfl) (fun _ _ _ h => by first | exact h | exact absurd h.1 (fun e => by cases e)) (by decide) (Or.inl ⟨by rfl, ?hy10⟩) (⟨HTz.out.cellAt 0, HFz.out.cellAt 0, HFz.out.cellAt 1⟩) (fun h => absurd h (by decide)) ?rest10
      case hy10 =>
        intro w hSw
        clear hSw
        go_simp
        try with_reducible rfl
      go_simp
      refine upTo_take (i := 11) (v := ?v11) rfl (by kernel_rfl) (by kernel_rfl) (by kernel_rfl) (fun _ _ _ h => by first | exact h | exact absurd h.1 (fun e => by cases e)) (by decide) (Or.inl ⟨by rfl, ?hy11⟩) (⟨HTz.out.cellAt 0, HFz.out.cellAt 0, HFz.out.cellAt 1⟩) (fun h => absurd h (by decide)) ?rest11
      case hy11 =>
        intro w hSw
        clear hSw
        go_simp
        try with_reducible rfl
      go_simp
      refine upTo_done (by kernel_rfl) ?_ _
      clear p0 p1 p2 p3 f0 f1 f2 f3 hS0
      go_wp2_with fail
      refine bodyPost_ret (results_cell3R (by rfl) _ w.heap.size (by rfl) zeroC (.int .i64 e) (.int .i64 q) (by rfl) (by rfl) _ HZ.out _ Tryz.underlying26 rfl (by kernel_rfl)) rfl ?_
      exact ⟨zeroC, by rw [HE.out], HKZ.out, fun _ => rfl, fun h => absurd h HD0.out⟩
  · obtain ⟨hc, hhc⟩ : ∃ h, h = headC b := ⟨_, rfl⟩
    have HE : Hid (D = (zeroPk, hc)) := Lib.hid (by rw [HD.out, decP_head h0, hhc])
    rw [← hhc] at h0 ⊢
    have hne : (hc.1 : Int) ≠ 0 := by omega
    have hbn : ((hc.1 : Int) != 0) = true := by simp [h0]
    obtain ⟨p0, p1, p2, p3⟩ := four HW1.out
    have f0 := HW1.out.free 0
    have f1 := HW1.out.free 1
    have f2 := HW1.out.free 2
    have f3 := HW1.out.free 3
    have HZ := Lib.hid (whole_put4 (.int .i64 0) (.slice none 0 0) (.slice none 0 0) (.slice none 0 0) HW1.out)
    have HKZ := Lib.hid (keeps_put4 (.int .i64 0) (.slice none 0 0) (.slice none 0 0) (.slice none 0 0) HK1.out (g := w.heap.size) (fun h => absurd h (Nat.lt_irrefl _)))
    have HD0 : Hid ((decP b).2.1 ≠ 0) := Lib.hid (by rw [decP_head (by rw [← hhc]; exact h0)]; rw [← hhc]; exact h0)
    clear hhc HL1 HG1 h0 HW1
    go_wp2_with fail
    refine bodyPost_ret (results_cell3R (by rfl) _ w.heap.size (by rfl) zeroC (.int .i64 hc.1) (.int .i64 hc.2) (by rfl) (by rfl) _ HZ.out _ Tryz.underlying26 rfl (by kernel_rfl)) rfl ?_
    exact ⟨zeroC, by rw [HE.out], HKZ.out, fun _ => rfl, fun h => absurd h HD0.out⟩
end Go.Proofs.YtcmbdnjcfneinaaGreatDoor
