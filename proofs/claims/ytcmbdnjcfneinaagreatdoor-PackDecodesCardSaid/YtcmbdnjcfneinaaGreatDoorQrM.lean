/-
  The reference of chapter 19: is a text below another one, the first points of a pack: the walks. Conditions: lengths within 10 ^ 9.
-/
import Derived.Test.YtcmbdnjcfneinaaGreatDoorPkM
import Derived.StillTailTactics
namespace Go.Proofs.YtcmbdnjcfneinaaGreatDoor
open Go.RowKit
theorem index_str (l : List Oct) (i : Nat) (h : i < l.length) (w : World) : (Instr.index 9 (.string (strB l)) (.int .i64 (i : Int))).run Tryz.prog w = .ok (.int .u8 ((l[i]).toNat : Int)) w := by
  have hs := strB_size l
  rw [run_index_string _ _ _ _ _ Tryz.underlying9, dif_pos ⟨by omega, by omega⟩]
  have : (strB l)[(i : Int).toNat]'(by simp; omega) = UInt8.ofBitVec l[i] := by
    show (l.map UInt8.ofBitVec).toArray[(i : Int).toNat]'_ = _
    simp
  rw [this]
  rfl
theorem bel_step {x y : List Oct} {i : Nat} (h1 : i < x.length) (h2 : i < y.length) : bel (x.drop i) (y.drop i) = if x[i] = y[i] then bel (x.drop (i + 1)) (y.drop (i + 1)) else decide (x[i].toNat < y[i].toNat) := by
  rw [List.drop_eq_getElem_cons h1, List.drop_eq_getElem_cons h2]; rfl
theorem bel_end {x y : List Oct} {i : Nat} (h : ¬ (i < x.length ∧ i < y.length)) (hx : i ≤ x.length) (hy : i ≤ y.length) : bel (x.drop i) (y.drop i) = decide (x.length < y.length) := by
  rcases Nat.lt_or_ge i x.length with h1 | h1
  · have : y.drop i = [] := List.drop_eq_nil_of_le (by omega)
    rw [this, List.drop_eq_getElem_cons h1, decide_eq_false (by omega)]; rfl
  · have e : x.drop i = [] := List.drop_eq_nil_of_le h1
    rw [e]
    rcases Nat.lt_or_ge i y.length with h2 | h2
    · rw [List.drop_eq_getElem_cons h2, decide_eq_true (by omega)]; rfl
    · rw [List.drop_eq_nil_of_le h2, decide_eq_false (by omega)]; rfl
set_option maxRecDepth 4000 in
set_option maxHeartbeats 1000000 in
theorem below_ref (x y : List Oct) (w : World) (hx : x.length ≤ 1000000000) (hy : y.length ≤ 1000000000) :
    Calls Tryz.prog 127 #[.string (strB x), .string (strB y)] w fun e w' => e = .returned (.bool (bel x y)) ∧ ∃ n, w' = w.drewN n := by
  have hIx := fun i h w => index_str x i h w
  have hIy := fun i h w => index_str y i h w
  have hsx := strB_size x
  have hsy := strB_size y
  generalize strB x = sx at *
  generalize strB y = sy at *
  go_enter Tryz.func127, Tryz.ntmps127
  go_wp2_with fail
  go_loopw [5] (fun vi wr => ∃ (i d : Nat), i ≤ x.length ∧ i ≤ y.length ∧ vi = .int .i64 i ∧ Hid (bel x y = bel (x.drop i) (y.drop i)) ∧ wr = w.drewN d) (fun vi _ => x.length - (intOf vi).toNat)
  case atStart => exact ⟨0, 0, by omega, by omega, rfl, Lib.hid rfl, rfl⟩
  case round =>
    obtain ⟨i, d, hi1, hi2, rfl, HB, rfl⟩ := hrel
    by_cases h1 : i < x.length
    · by_cases h2 : i < y.length
      · have HS := Lib.hid (bel_step h1 h2)
        have hi1' := hIx i h1
        have hi2' := hIy i h2
        have ha := x[i].isLt
        have hb := y[i].isLt
        have HE : Hid (x[i] = y[i] ↔ x[i].toNat = y[i].toNat) := Lib.hid ⟨fun h => by rw [h], fun h => BitVec.eq_of_toNat_eq h⟩
        generalize x[i] = a at *
        generalize y[i] = b at *
        clear hIx hIy
        by_cases hab : a.toNat = b.toNat
        · have HB' : Hid (bel x y = bel (x.drop (i + 1)) (y.drop (i + 1))) := Lib.hid (by rw [HB.out, HS.out, if_pos (HE.out.2 hab)])
          clear HB HS HE
          go_wp2_with fail
          go_quiet (fail)
          go_wp2_with fail
          go_roundw
          case rel => exact ⟨i + 1, _, by omega, by omega, by go_num, HB', rfl⟩
          case measure => simp [intOf]; omega
        · have HB' : Hid (bel x y = decide (a.toNat < b.toNat)) := Lib.hid (by rw [HB.out, HS.out, if_neg (fun h => hab (HE.out.1 h))])
          clear HB HS HE
          go_wp2_with fail
          go_quiet (fail)
          go_wp2_with fail
          go_quiet (fail)
          go_wp2_with fail
          go_ret
          refine ⟨?_, by first | exact ⟨_, rfl⟩ | (simp only [World.drewN_drewN]; exact ⟨_, rfl⟩)⟩
          rw [HB'.out]
          congr 2
      · have HB' : Hid (bel x y = decide (x.length < y.length)) := Lib.hid (by rw [HB.out, bel_end (by omega) hi1 hi2])
        clear HB hIx hIy
        go_wp2_with fail
        go_ret
        refine ⟨?_, by first | exact ⟨_, rfl⟩ | (simp only [World.drewN_drewN]; exact ⟨_, rfl⟩)⟩
        rw [HB'.out]
        simp
    · have HB' : Hid (bel x y = decide (x.length < y.length)) := Lib.hid (by rw [HB.out, bel_end (by omega) hi1 hi2])
      clear HB hIx hIy
      go_wp2_with fail
      go_ret
      refine ⟨?_, by first | exact ⟨_, rfl⟩ | (simp only [World.drewN_drewN]; exact ⟨_, rfl⟩)⟩
      rw [HB'.out]
      simp
/-! ### The answers, one by one -/
theorem lim_of {p : Pk} (h : p.cards < 1 ∨ 256 < p.cards ∨ 4096 < p.ints.length) : poolsC p = 56 := by unfold poolsC; rw [if_pos h]
theorem asc_none (l : List Int) (i : Nat) (h : l.length ≤ i) : ascI (l.drop (i - 1)) = true := asc_one _ (by rw [List.length_drop]; omega)
/-- What the first two points say. -/
def intsC (p : Pk) : Nat := if p.cards < 1 ∨ 256 < p.cards ∨ 4096 < p.ints.length then 56 else if !ascI p.ints then 57 else 0
set_option maxRecDepth 4000 in
set_option maxHeartbeats 1000000 in
theorem ints_ref (p : Pk) (Ai At Ak : Option Addr) (ci ct ck : Nat) (w : World) (hx : PkIn w w.heap.size p Ai At Ak) (hm : PkFew p) :
    Calls Tryz.prog 96 #[.agg (pkC p Ai At Ak ci ct ck)] w fun r w' => r = .returned (.int .i64 (intsC p)) ∧ Keeps (fun _ => False) w w' := by
  have HM : Hid (Whole (w.alloc (.cells (pkC p Ai At Ak ci ct ck) 26)) w.heap.size 26 (pkC p Ai At Ak ci ct ck)) := Lib.hid (Whole.made w _ _)
  have HK : Hid (Keeps (fun _ => False) w (w.alloc (.cells (pkC p Ai At Ak ci ct ck) 26))) := Lib.hid ((Keeps.refl _ w).alloc _)
  have HX := Lib.hid hx
  have hmi := hm.ints
  have HL : Hid (p.cards < 1 ∨ 256 < p.cards ∨ 4096 < p.ints.length → intsC p = 56) := Lib.hid fun h => by unfold intsC; rw [if_pos h]
  have HN : Hid (¬ (p.cards < 1 ∨ 256 < p.cards ∨ 4096 < p.ints.length) → intsC p = if !ascI p.ints then 57 else 0) := Lib.hid fun h => by unfold intsC; rw [if_neg h]
  clear hx hm
  unfold pkC at *
  go_enter Tryz.func96, Tryz.ntmps96
  by_cases h1 : p.cards < 1
  · go_wp2_with fail
    go_ret
    exact ⟨by rw [HL.out (by omega)]; rfl, HK.out⟩
  by_cases h2 : 256 < p.cards
  · go_wp2_with fail
    go_ret
    exact ⟨by rw [HL.out (by omega)]; rfl, HK.out⟩
  by_cases h3 : 4096 < p.ints.length
  · go_wp2_with fail
    go_ret
    exact ⟨by rw [HL.out (by omega)]; rfl, HK.out⟩
  replace HN := Lib.hid (HN.out (by omega))
  clear HL
  go_wp2_with fail
  generalize w.alloc _ = w0 at *
  go_loopw [3] (fun vi wr => ∃ (i m : Nat), 1 ≤ i ∧ (i ≤ p.ints.length ∨ i = 1) ∧ vi = .int .i64 i ∧ Hid (ascI p.ints = ascI (p.ints.drop (i - 1))) ∧ wr = w0.drewN m) (fun vi _ => p.ints.length - (intOf vi).toNat)
  case atStart => exact ⟨1, 0, by omega, by omega, rfl, Lib.hid rfl, rfl⟩
  case round =>
    obtain ⟨i, m, h4, hi, rfl, HA, rfl⟩ := hrel
    obtain ⟨a0, a1, a2, a3⟩ := four HM.out
    by_cases hlt : i < p.ints.length
    · obtain ⟨g, off, hgA, hg, hc0⟩ := HX.out.ints i (.int .i64 p.ints[i]) (by simp [hlt])
      have hc := (HK.out.cell (b := g) (o := off + i) hg id).trans hc0
      have hlp : i - 1 < p.ints.length := by omega
      obtain ⟨g', off', hgA', hg', hcp0⟩ := HX.out.ints (i - 1) (.int .i64 p.ints[i - 1]) (by simp [hlp])
      rw [hgA] at hgA'
      injection hgA' with hgA'
      injection hgA' with e1 e2 _
      subst e1 e2
      have hcp := (HK.out.cell (b := g) (o := off + (i - 1)) hg id).trans hcp0
      have HD := Lib.hid (asc_drop h4 hlt)
      subst hgA
      clear hc0 hcp0 hg'
      generalize p.ints[i] = x at *
      generalize p.ints[i - 1] = y at *
      by_cases hxy : x ≤ y
      · have HC' : Hid (intsC p = 57) := Lib.hid (by rw [HN.out, HA.out, HD.out, decide_eq_false (by omega)]; rfl)
        clear HN HA HD
        go_wp2_with fail
        go_quiet (fail)
        go_wp2_with fail
        go_ret
        refine ⟨by rw [HC'.out]; rfl, ?_⟩
        refine HK.out.trans ?_
        repeat (first | exact Keeps.refl _ _ | refine Keeps.drewN ?_ _)
      · have HA' : Hid (ascI p.ints = ascI (p.ints.drop (i + 1 - 1))) := Lib.hid (by rw [HA.out, HD.out, decide_eq_true (by omega)]; rfl)
        clear HA HD
        go_wp2_with fail
        go_quiet (fail)
        go_wp2_with fail
        go_roundw
        case rel => exact ⟨i + 1, _, by omega, by omega, by go_num, HA', rfl⟩
        case measure => simp [intOf]; omega
    · have HC' : Hid (intsC p = 0) := Lib.hid (by rw [HN.out, HA.out, asc_none _ _ (by omega)]; rfl)
      clear HN HA
      go_wp2_with fail
      go_ret
      refine ⟨by rw [HC'.out]; rfl, ?_⟩
      refine HK.out.trans ?_
      repeat (first | exact Keeps.refl _ _ | refine Keeps.drewN ?_ _)
set_option maxRecDepth 4000 in
set_option maxHeartbeats 1000000 in
theorem texts_ref (l : List (List Oct)) (A : Option Addr) (cap : Nat) (w : World) (hx : Lies w w.heap.size A (textsV l)) (hl : l.length ≤ 1000000000) (hr : ∀ t ∈ l, t.length ≤ 1000000000) :
    Calls Tryz.prog 97 #[.slice A l.length cap] w fun r w' => r = .returned (.int .i64 (textsC l)) ∧ Keeps (fun _ => False) w w' := by
  have HX := Lib.hid hx
  clear hx
  by_cases h1 : 4096 < l.length
  · have HC : Hid (textsC l = 56) := Lib.hid (by unfold textsC; rw [if_pos h1])
    go_enter Tryz.func97, Tryz.ntmps97
    go_wp2_with fail
    go_ret
    exact ⟨by rw [HC.out]; rfl, Keeps.refl _ _⟩
  have HC : Hid (textsC l = textsGo none l) := Lib.hid (by unfold textsC; rw [if_neg h1])
  go_enter Tryz.func97, Tryz.ntmps97
  go_wp2_with fail
  go_loopw [3] (fun vi wr => ∃ (j : Nat), j ≤ l.length ∧ vi = .int .i64 j ∧ Hid (textsGo none l = textsGo (prevO l j) (l.drop j)) ∧ Hid (Keeps (fun _ => False) w wr)) (fun vi _ => l.length - (intOf vi).toNat)
  case atStart => exact ⟨0, by omega, rfl, Lib.hid rfl, Lib.hid (Keeps.refl _ w)⟩
  case round =>
    obtain ⟨j, hj, rfl, HT, HK⟩ := hrel
    by_cases hltj : j < l.length
    · obtain ⟨g, off, hgA, hg, hc0⟩ := HX.out j (.string (strB l[j])) (by simp [textsV, hltj])
      have hc := (HK.out.cell (b := g) (o := off + j) hg id).trans hc0
      have HD := Lib.hid (drop_next hltj)
      have HY := Lib.hid (List.getElem?_eq_getElem hltj)
      have hfew := hr _ (List.getElem_mem hltj)
      subst hgA
      clear hc0
      generalize l[j] = x at *
      have hsz := strB_size x
      have HSX := Lib.hid hsz
      have HFX := Lib.hid hfew
      rw [← hsz] at hfew
      clear hsz
      by_cases h64 : 64 < (strB x).size
      · have HC' : Hid (textsC l = 56) := Lib.hid (by rw [HC.out, HT.out, HD.out]; exact tx_56 (by rw [← HSX.out]; exact h64))
        go_wp2_with fail
        go_ret
        exact ⟨by rw [HC'.out]; rfl, HK.out⟩
      · have H64 : Hid (¬ 64 < x.length) := Lib.hid (by rw [← HSX.out]; exact h64)
        by_cases h0 : j = 0
        · have HT' : Hid (textsGo none l = textsGo (prevO l (j + 1)) (l.drop (j + 1))) := Lib.hid (by
            rw [HT.out, HD.out]
            unfold prevO
            rw [if_pos h0, if_neg (by omega), Nat.add_sub_cancel, HY.out]
            exact tx_first H64.out)
          clear HT HD HY
          subst h0
          rw [Nat.add_zero] at hc
          go_wp2_with fail
          go_quiet (fail)
          go_wp2_with fail
          go_roundw
          case rel => exact ⟨1, by omega, by go_num, HT', Lib.hid (HK.out.drewN _)⟩
          case measure => simp [intOf]; omega
        · have hlp : j - 1 < l.length := by omega
          have hj0 : (0 : Int) < j := by omega
          have hj0d : decide ((0 : Int) < j) = true := decide_eq_true hj0
          have hj0n : 0 < j := by omega
          have hj0e : decide (0 < j) = true := decide_eq_true hj0n
          obtain ⟨g', off', hgA', hg', hc0'⟩ := HX.out (j - 1) (.string (strB l[j - 1])) (by simp [textsV, hlp])
          injection hgA' with hgA'
          injection hgA' with e1 e2 _
          subst e1 e2
          have hcp := (HK.out.cell (b := g) (o := off + (j - 1)) hg id).trans hc0'
          have HYp := Lib.hid (List.getElem?_eq_getElem hlp)
          have hfp := hr _ (List.getElem_mem hlp)
          have HFP := Lib.hid hfp
          clear hc0' hg' hfp
          generalize l[j - 1] = y at *
          obtain ⟨b, hb⟩ : ∃ b, bel y x = b := ⟨_, rfl⟩
          have HB := Lib.hid hb
          have HCL : ∀ w, Calls Tryz.prog 127 #[.string (strB y), .string (strB x)] w fun e w' => e = .returned (.bool b) ∧ ∃ n, w' = w.drewN n := fun w => by
            have := below_ref y x w HFP.out HFX.out
            rwa [HB.out] at this
          clear hb
          cases b with
          | false =>
            have HC' : Hid (textsC l = 57) := Lib.hid (by
              rw [HC.out, HT.out, HD.out]
              unfold prevO
              rw [if_neg h0, HYp.out]
              exact tx_57 H64.out HB.out)
            go_wp2_with fail
            go_quiet (first | (go_at_call 127; refine Calls.quiet_of (HCL _)))
            go_wp2_with fail
            go_ret
            exact ⟨by rw [HC'.out]; rfl, HK.out.drewN _⟩
          | true =>
            have HT' : Hid (textsGo none l = textsGo (prevO l (j + 1)) (l.drop (j + 1))) := Lib.hid (by
              rw [HT.out, HD.out]
              unfold prevO
              rw [if_neg h0, if_neg (by omega), Nat.add_sub_cancel, HY.out, HYp.out]
              exact tx_on H64.out HB.out)
            clear HT HD HY
            go_wp2_with fail
            go_quiet (first | (go_at_call 127; refine Calls.quiet_of (HCL _)))
            go_wp2_with fail
            go_roundw
            case rel => exact ⟨j + 1, by omega, by go_num, HT', Lib.hid (HK.out.drewN _)⟩
            case measure => simp [intOf]; omega
    · have HT' : Hid (textsGo none l = 0) := Lib.hid (by rw [HT.out, List.drop_eq_nil_of_le (by omega)]; rfl)
      clear HT
      go_wp2_with fail
      go_ret
      exact ⟨by rw [HC.out, HT'.out]; rfl, HK.out⟩
end Go.Proofs.YtcmbdnjcfneinaaGreatDoor
/-
  The reference of chapter 19: an effect and a kind looked at: the walks. Conditions: lengths within 10 ^ 9.
-/
namespace Go.Proofs.YtcmbdnjcfneinaaGreatDoor
open Go.RowKit
def effHead (e : Eff) : Prop := e.on < 0 ∨ 4 < e.on ∨ 32 < e.slots.length ∨ e.bound < 0 ∨ 4611686018427387904 < e.bound ∨ 65535 < e.code.length
theorem effC_head {e : Eff} (h : effHead e) : effC e = 56 := by
  unfold effC
  rw [if_neg]
  unfold effOk
  simp only [Bool.and_eq_true, decide_eq_true_eq]
  unfold effHead at h
  omega
theorem effC_body {e : Eff} (h : ¬ effHead e) : effC e = if e.slots.all slotOk then 0 else 56 := by
  unfold effHead at h
  unfold effC
  have : effOk e = e.slots.all slotOk := by
    rw [effOk_is, decide_eq_true (show 0 ≤ e.on by omega), decide_eq_true (show e.on ≤ 4 by omega), decide_eq_true (show e.slots.length ≤ 32 by omega), decide_eq_true (show 0 ≤ e.bound by omega), decide_eq_true (show e.bound ≤ 4611686018427387904 by omega), decide_eq_true (show e.code.length ≤ 65535 by omega)]
    rfl
  rw [this]
theorem all_drop {l : List Int} {p : Int → Bool} {i : Nat} (h : i < l.length) : (l.drop i).all p = (p l[i] && (l.drop (i + 1)).all p) := by
  rw [List.drop_eq_getElem_cons h]; rfl
set_option maxRecDepth 4000 in
set_option maxHeartbeats 2000000 in
theorem effect_ref (e : Eff) (As Ac : Option Addr) (cs cc : Nat) (w : World) (hl : Lies w w.heap.size As (e.slots.map (Value.int .i8))) (hm : EffFew e) :
    Calls Tryz.prog 128 #[.agg (effV e As Ac cs cc)] w fun r w' => r = .returned (.int .i64 (effC e)) ∧ Keeps (fun _ => False) w w' := by
  have HM : Hid (Whole (w.alloc (.cells (effV e As Ac cs cc) 43)) w.heap.size 43 (effV e As Ac cs cc)) := Lib.hid (Whole.made w _ _)
  have HK : Hid (Keeps (fun _ => False) w (w.alloc (.cells (effV e As Ac cs cc) 43))) := Lib.hid ((Keeps.refl _ w).alloc _)
  have HL := Lib.hid hl
  have hs := hm.slots
  have hc := hm.code
  have HR := Lib.hid hm.small
  have HH := Lib.hid (fun h : effHead e => effC_head h)
  have HB := Lib.hid (fun h : ¬ effHead e => effC_body h)
  clear hl hm
  unfold effV at *
  go_enter Tryz.func128, Tryz.ntmps128
  by_cases h0 : e.on < 0
  · go_wp2_with fail
    go_ret
    exact ⟨by rw [HH.out (by unfold effHead; omega)]; rfl, HK.out⟩
  by_cases h1 : 4 < e.on
  · go_wp2_with fail
    go_ret
    exact ⟨by rw [HH.out (by unfold effHead; omega)]; rfl, HK.out⟩
  by_cases h2 : 32 < e.slots.length
  · go_wp2_with fail
    go_ret
    exact ⟨by rw [HH.out (by unfold effHead; omega)]; rfl, HK.out⟩
  by_cases h3 : e.bound < 0
  · go_wp2_with fail
    go_ret
    exact ⟨by rw [HH.out (by unfold effHead; omega)]; rfl, HK.out⟩
  by_cases h4 : 4611686018427387904 < e.bound
  · go_wp2_with fail
    go_ret
    exact ⟨by rw [HH.out (by unfold effHead; omega)]; rfl, HK.out⟩
  by_cases h5 : 65535 < e.code.length
  · go_wp2_with fail
    go_ret
    exact ⟨by rw [HH.out (by unfold effHead; omega)]; rfl, HK.out⟩
  have HB' := Lib.hid (HB.out (by unfold effHead; omega))
  clear HH HB
  go_wp2_with fail
  generalize w.alloc _ = w0 at *
  go_loopw [3] (fun vi wr => ∃ (i : Nat), i ≤ e.slots.length ∧ vi = .int .i64 i ∧ Hid (e.slots.all slotOk = (e.slots.drop i).all slotOk) ∧ w0 = wr) (fun vi _ => e.slots.length - (intOf vi).toNat)
  case atStart => exact ⟨0, by omega, rfl, Lib.hid rfl, rfl⟩
  case round =>
    obtain ⟨i, hi, rfl, HA, rfl⟩ := hrel
    obtain ⟨a0, a1, a2, a3⟩ := four HM.out
    by_cases hlt : i < e.slots.length
    · obtain ⟨g, off, rfl, hg, hc0⟩ := HL.out i (.int .i8 e.slots[i]) (by simp [hlt])
      have hcx := (HK.out.cell (b := g) (o := off + i) hg id).trans hc0
      have hx := HR.out e.slots[i] (List.getElem_mem hlt)
      have HN := Lib.hid (all_drop (p := slotOk) hlt)
      clear hc0
      generalize e.slots[i] = x at *
      by_cases q1 : x < 1
      · have HC : Hid (effC e = 56) := Lib.hid (by
          rw [HB'.out, HA.out, HN.out]
          unfold slotOk
          rw [decide_eq_false (by omega)]; rfl)
        clear HA HN HB'
        go_wp2_with fail
        go_ret
        exact ⟨by rw [HC.out]; rfl, HK.out⟩
      by_cases q2 : 6 < x
      · have HC : Hid (effC e = 56) := Lib.hid (by
          rw [HB'.out, HA.out, HN.out]
          unfold slotOk
          rw [decide_eq_false (show ¬ x ≤ 6 by omega), Bool.and_false]; rfl)
        clear HA HN HB'
        go_wp2_with fail
        go_ret
        exact ⟨by rw [HC.out]; rfl, HK.out⟩
      have HA' : Hid (e.slots.all slotOk = (e.slots.drop (i + 1)).all slotOk) := Lib.hid (by
        rw [HA.out, HN.out]
        unfold slotOk
        rw [decide_eq_true (show 1 ≤ x by omega), decide_eq_true (show x ≤ 6 by omega)]; rfl)
      clear HA HN
      go_wp2_with fail
      go_roundw
      case rel => exact ⟨i + 1, by omega, by go_num, HA', by trivial⟩
      case measure => simp [intOf]; omega
    · have HC : Hid (effC e = 0) := Lib.hid (by rw [HB'.out, HA.out, List.drop_eq_nil_of_le (by omega)]; rfl)
      clear HA HB'
      go_wp2_with fail
      go_ret
      exact ⟨by rw [HC.out]; rfl, HK.out⟩
/-! ### A kind -/
def statBad (k : Knd) : Prop := k.cost < 0 ∨ 1000000000 < k.cost ∨ k.power < 0 ∨ 1000000000 < k.power ∨ k.health < 0 ∨ 1000000000 < k.health
theorem stat_no {k : Knd} (h : statBad k) : (statOk k.cost && statOk k.power && statOk k.health) = false := by
  unfold statBad at h
  simp only [statOk, Bool.and_eq_false_iff, decide_eq_false_iff_not]
  omega
theorem stat_yes {k : Knd} (h : ¬ statBad k) : (statOk k.cost && statOk k.power && statOk k.health) = true := by
  unfold statBad at h
  simp only [statOk, Bool.and_eq_true, decide_eq_true_eq]
  omega
theorem kind_56 {n : Nat} {k : Knd} (h : ¬ (k.name < 0 ∨ (n : Int) ≤ k.name)) (h2 : statBad k ∨ 16 < k.tags.length) : kndC n k = 56 := by
  by_cases h3 : statBad k
  · unfold kndC
    rw [if_neg h, stat_no h3, if_pos (by rfl)]
  · exact kndC_3 h (stat_yes h3) (h2.resolve_left h3)
theorem tag_42 {n : Nat} {q : Option Int} {t : Int} {l : List Int} (h : t < 0 ∨ (n : Int) ≤ t) : tagsGo n q (t :: l) = 42 := by
  unfold tagsGo
  rw [if_pos h]
theorem tag_dec {n : Nat} {t : Int} (h : ¬ (t < 0 ∨ (n : Int) ≤ t)) : (decide (0 ≤ t) && decide (t ≤ (n : Int) - 1)) = true := by
  simp only [Bool.and_eq_true, decide_eq_true_eq]
  omega
theorem firstN_next {c : Nat} {l : List Nat} : firstN (c :: l) = if c = 0 then firstN l else c := by
  cases c with
  | zero => rfl
  | succ n => rfl
set_option maxRecDepth 8000 in
set_option maxHeartbeats 4000000 in
theorem kind_ref (k : Knd) (n : Nat) (At Ae : Option Addr) (ct ce : Nat) (w : World) (hl : Lies w w.heap.size At (k.tags.map (Value.int .i64))) (he : EfLies w w.heap.size Ae k.effs) (hm : KndFew k) :
    Calls Tryz.prog 98 #[.agg (kndV k At Ae ct ce), .int .i64 n] w fun r w' => r = .returned (.int .i64 (kndC n k)) ∧ Keeps (fun _ => False) w w' := by
  have HM : Hid (Whole (w.alloc (.cells (kndV k At Ae ct ce) 40)) w.heap.size 40 (kndV k At Ae ct ce)) := Lib.hid (Whole.made w _ _)
  have HK : Hid (Keeps (fun _ => False) w (w.alloc (.cells (kndV k At Ae ct ce) 40))) := Lib.hid ((Keeps.refl _ w).alloc _)
  have HL := Lib.hid hl
  have HE := Lib.hid he
  have HF := Lib.hid hm
  have hmt := hm.tags
  have hme := hm.effs
  clear hl he hm
  unfold kndV at *
  go_enter Tryz.func98, Tryz.ntmps98
  by_cases h0 : k.name < 0
  · go_wp2_with fail
    go_ret
    exact ⟨by unfold kndC; rw [if_pos (by omega)]; rfl, HK.out⟩
  by_cases h1 : (n : Int) ≤ k.name
  · go_wp2_with fail
    go_ret
    exact ⟨by unfold kndC; rw [if_pos (by omega)]; rfl, HK.out⟩
  have HN := Lib.hid (show ¬ (k.name < 0 ∨ (n : Int) ≤ k.name) by omega)
  by_cases s0 : k.cost < 0
  · have HC : Hid (kndC n k = 56) := Lib.hid (kind_56 HN.out (by unfold statBad; omega))
    clear HN
    go_wp2_with fail
    go_ret
    exact ⟨by rw [HC.out]; rfl, HK.out⟩
  by_cases s1 : 1000000000 < k.cost
  · have HC : Hid (kndC n k = 56) := Lib.hid (kind_56 HN.out (by unfold statBad; omega))
    clear HN
    go_wp2_with fail
    go_ret
    exact ⟨by rw [HC.out]; rfl, HK.out⟩
  by_cases s2 : k.power < 0
  · have HC : Hid (kndC n k = 56) := Lib.hid (kind_56 HN.out (by unfold statBad; omega))
    clear HN
    go_wp2_with fail
    go_ret
    exact ⟨by rw [HC.out]; rfl, HK.out⟩
  by_cases s3 : 1000000000 < k.power
  · have HC : Hid (kndC n k = 56) := Lib.hid (kind_56 HN.out (by unfold statBad; omega))
    clear HN
    go_wp2_with fail
    go_ret
    exact ⟨by rw [HC.out]; rfl, HK.out⟩
  by_cases s4 : k.health < 0
  · have HC : Hid (kndC n k = 56) := Lib.hid (kind_56 HN.out (by unfold statBad; omega))
    clear HN
    go_wp2_with fail
    go_ret
    exact ⟨by rw [HC.out]; rfl, HK.out⟩
  by_cases s5 : 1000000000 < k.health
  · have HC : Hid (kndC n k = 56) := Lib.hid (kind_56 HN.out (by unfold statBad; omega))
    clear HN
    go_wp2_with fail
    go_ret
    exact ⟨by rw [HC.out]; rfl, HK.out⟩
  by_cases s6 : 16 < k.tags.length
  · have HC : Hid (kndC n k = 56) := Lib.hid (kind_56 HN.out (by unfold statBad; omega))
    clear HN
    go_wp2_with fail
    go_ret
    exact ⟨by rw [HC.out]; rfl, HK.out⟩
  have HS := Lib.hid (stat_yes (k := k) (by unfold statBad; omega))
  have H16 := Lib.hid s6
  go_wp2_with fail
  clear h0 h1 s0 s1 s2 s3 s4 s5
  generalize w.alloc _ = w0 at *
  go_loopw [5] (fun vi wr => ∃ (i m : Nat), i ≤ k.tags.length ∧ vi = .int .i64 i ∧ Hid (tagsGo n none k.tags = tagsGo n (prevO k.tags i) (k.tags.drop i)) ∧ wr = w0.drewN m) (fun vi _ => k.tags.length - (intOf vi).toNat)
  case atStart => exact ⟨0, 0, by omega, rfl, Lib.hid rfl, rfl⟩
  case round =>
    obtain ⟨i, m, hi, rfl, HA, rfl⟩ := hrel
    obtain ⟨a0, a1, a2, a3, a4, a5⟩ := six HM.out
    by_cases hlt : i < k.tags.length
    · obtain ⟨g, off, hgA, hg, hc0⟩ := HL.out i (.int .i64 k.tags[i]) (by simp [hlt])
      have hc := (HK.out.cell (b := g) (o := off + i) hg id).trans hc0
      have HD := Lib.hid (drop_next hlt)
      have HY := Lib.hid (List.getElem?_eq_getElem hlt)
      subst hgA
      clear hc0
      generalize k.tags[i] = x at *
      by_cases q0 : x < 0
      · have HC : Hid (kndC n k = 42) := Lib.hid (kndC_4 HN.out HS.out H16.out (by rw [HA.out, HD.out]; exact tag_42 (by omega)) (by decide))
        clear HA HD HY HN HS
        go_wp2_with fail
        go_ret
        refine ⟨by rw [HC.out]; rfl, HK.out.trans ?_⟩
        repeat (first | exact Keeps.refl _ _ | refine Keeps.drewN ?_ _)
      by_cases q1 : (n : Int) ≤ x
      · have HC : Hid (kndC n k = 42) := Lib.hid (kndC_4 HN.out HS.out H16.out (by rw [HA.out, HD.out]; exact tag_42 (by omega)) (by decide))
        clear HA HD HY HN HS
        go_wp2_with fail
        go_ret
        refine ⟨by rw [HC.out]; rfl, HK.out.trans ?_⟩
        repeat (first | exact Keeps.refl _ _ | refine Keeps.drewN ?_ _)
      have HQ := Lib.hid (tag_dec (n := n) (t := x) (by omega))
      by_cases h0 : i = 0
      · have HA' : Hid (tagsGo n none k.tags = tagsGo n (prevO k.tags (i + 1)) (k.tags.drop (i + 1))) := Lib.hid (by
          rw [HA.out, HD.out]
          unfold prevO
          rw [if_pos h0, if_neg (by omega), Nat.add_sub_cancel, HY.out]
          exact tags_first HQ.out)
        clear HA HD HY HQ
        subst h0
        rw [Nat.add_zero] at hc
        go_wp2_with fail
        go_quiet (fail)
        go_wp2_with fail
        go_roundw
        case rel => exact ⟨1, _, by omega, by go_num, HA', rfl⟩
        case measure => simp [intOf]; omega
      · have hlp : i - 1 < k.tags.length := by omega
        have hj0n : 0 < i := by omega
        have hj0 : (0 : Int) < i := by omega
        have hj0e : decide (0 < i) = true := decide_eq_true hj0n
        obtain ⟨g', off', hgA', hg', hc0'⟩ := HL.out (i - 1) (.int .i64 k.tags[i - 1]) (by simp [hlp])
        injection hgA' with hgA'
        injection hgA' with e1 e2 _
        subst e1 e2
        have hcp := (HK.out.cell (b := g) (o := off + (i - 1)) hg id).trans hc0'
        have HYp := Lib.hid (List.getElem?_eq_getElem hlp)
        clear hc0' hg'
        generalize k.tags[i - 1] = y at *
        by_cases hxy : x ≤ y
        · have HC : Hid (kndC n k = 57) := Lib.hid (kndC_4 HN.out HS.out H16.out (by
            rw [HA.out, HD.out]
            unfold prevO
            rw [if_neg h0, HYp.out]
            exact tags_57 HQ.out hxy) (by decide))
          clear HA HD HY HYp HQ HN HS
          go_wp2_with fail
          go_quiet (fail)
          go_wp2_with fail
          go_ret
          refine ⟨by rw [HC.out]; rfl, HK.out.trans ?_⟩
          repeat (first | exact Keeps.refl _ _ | refine Keeps.drewN ?_ _)
        · have HA' : Hid (tagsGo n none k.tags = tagsGo n (prevO k.tags (i + 1)) (k.tags.drop (i + 1))) := Lib.hid (by
            rw [HA.out, HD.out]
            unfold prevO
            rw [if_neg h0, if_neg (by omega), Nat.add_sub_cancel, HY.out, HYp.out]
            exact tags_on HQ.out hxy)
          clear HA HD HY HYp HQ
          go_wp2_with fail
          go_quiet (fail)
          go_wp2_with fail
          go_roundw
          case rel => exact ⟨i + 1, _, by omega, by go_num, HA', rfl⟩
          case measure => simp [intOf]; omega
    · have HT : Hid (tagsGo n none k.tags = 0) := Lib.hid (by rw [HA.out, List.drop_eq_nil_of_le (by omega)]; unfold tagsGo; rfl)
      clear HA
      have HM2 : Hid (Whole (w0.drewN m) w.heap.size 40 _) := Lib.hid (HM.out.drewN m)
      have HK2 := Lib.hid (HK.out.drewN m)
      clear a0 a1 a2 a3 a4 a5
      generalize w0.drewN m = v0 at *
      obtain ⟨a0, a1, a2, a3, a4, a5⟩ := six HM2.out
      by_cases h8 : 8 < k.effs.length
      · have HC := Lib.hid (kndC_5 HN.out HS.out H16.out HT.out h8)
        clear HT HN HS
        go_wp2_with fail
        go_ret
        exact ⟨by rw [HC.out]; rfl, HK2.out⟩
      have HC := Lib.hid (kndC_6 HN.out HS.out H16.out HT.out h8)
      clear HT HN HS
      go_wp2_with fail
      clear a0 a1 a2 a3 a4 a5
      go_loopw [6] (fun vi wr => ∃ (j : Nat), j ≤ k.effs.length ∧ vi = .int .i64 j ∧ Hid (firstN (k.effs.map effC) = firstN ((k.effs.drop j).map effC)) ∧ Hid (Whole wr w.heap.size 40 #[.int .i64 k.name, .int .i64 k.cost, .int .i64 k.power, .int .i64 k.health, .slice At k.tags.length ct, .slice Ae k.effs.length ce]) ∧ Hid (Keeps (fun _ => False) w wr)) (fun vi _ => k.effs.length - (intOf vi).toNat)
      case atStart => exact ⟨0, by omega, rfl, Lib.hid rfl, HM2, HK2⟩
      case round =>
        clear HM2 HK2 HM HK
        obtain ⟨j, hj, rfl, HA, HM, HK⟩ := hrel
        obtain ⟨a0, a1, a2, a3, a4, a5⟩ := six HM.out
        by_cases hlj : j < k.effs.length
        · have hxi : k.effs[j]? = some k.effs[j] := List.getElem?_eq_getElem hlj
          obtain ⟨g, off, A1, c1, A2, c2, rfl, hg, k0, k1, k2, k3, hs, hcd⟩ := (HE.out.keeps HK.out (fun _ _ => id) (Nat.le_refl _)) j k.effs[j] hxi
          have hri := HF.out.each k.effs[j] (List.getElem_mem hlj)
          have HD : Hid ((k.effs.drop j).map effC = effC k.effs[j] :: (k.effs.drop (j + 1)).map effC) := Lib.hid (by rw [drop_next hlj]; rfl)
          clear hxi
          generalize k.effs[j] = x at *
          have HCL := Lib.hid (effect_ref x A1 A2 c1 c2 wr (hs.more HK.out.size) hri)
          unfold effV at HCL
          have hzz := effC_or x
          have HN' : Hid (firstN ((k.effs.drop j).map effC) = if effC x = 0 then firstN ((k.effs.drop (j + 1)).map effC) else effC x) := Lib.hid (by rw [HD.out, firstN_next])
          clear hs hcd hri HD
          generalize effC x = z at *
          go_wp2_with fail
          refine HCL.out.mono ?_
          rintro r w1 ⟨rfl, kk⟩
          clear HCL k0 k1 k2 k3 a0 a1 a2 a3 a4 a5
          replace HM := Lib.hid (HM.out.keeps kk id)
          replace HK := Lib.hid (HK.out.trans kk)
          clear kk
          by_cases hz0 : z = 0
          · have HA' : Hid (firstN (k.effs.map effC) = firstN ((k.effs.drop (j + 1)).map effC)) := Lib.hid (by rw [HA.out, HN'.out, if_pos hz0])
            clear HA HN' hzz
            subst hz0
            go_wp2_with fail
            go_roundw
            case rel => exact ⟨j + 1, by omega, by go_num, HA', HM, HK⟩
            case measure => simp [intOf]; omega
          · have HA' : Hid (kndC n k = 56) := Lib.hid (by rw [HC.out, HA.out, HN'.out, if_neg hz0]; omega)
            obtain rfl : z = 56 := by omega
            clear HA HN' hzz
            go_wp2_with fail
            go_ret
            exact ⟨by rw [HA'.out]; rfl, HK.out⟩
        · have HA' : Hid (kndC n k = 0) := Lib.hid (by rw [HC.out, HA.out, List.drop_eq_nil_of_le (by omega)]; rfl)
          clear HA HC
          go_wp2_with fail
          go_ret
          exact ⟨by rw [HA'.out]; rfl, HK.out⟩
end Go.Proofs.YtcmbdnjcfneinaaGreatDoor
/-
  The reference of chapter 19: Size, Check: the walks. Conditions: lengths within 10 ^ 9, a size within 10 ^ 12.
-/
namespace Go.Proofs.YtcmbdnjcfneinaaGreatDoor
open Go.RowKit
set_option maxRecDepth 8000 in
set_option maxHeartbeats 4000000 in
theorem size_ref (p : Pk) (Ai At Ak : Option Addr) (ci ct ck : Nat) (w : World) (hx : PkIn w w.heap.size p Ai At Ak) (hm : PkFew p) (hz : sizeP p ≤ 1000000000000) :
    Calls Tryz.prog 99 #[.agg (pkC p Ai At Ak ci ct ck)] w fun r w' => r = .returned (.int .i64 (sizeP p)) ∧ Keeps (fun _ => False) w w' := by
  have HM : Hid (Whole (w.alloc (.cells (pkC p Ai At Ak ci ct ck) 26)) w.heap.size 26 (pkC p Ai At Ak ci ct ck)) := Lib.hid (Whole.made w _ _)
  have HK : Hid (Keeps (fun _ => False) w (w.alloc (.cells (pkC p Ai At Ak ci ct ck) 26))) := Lib.hid ((Keeps.refl _ w).alloc _)
  have HX := Lib.hid hx
  have HF := Lib.hid hm
  have hmi := hm.ints
  have hmt := hm.texts
  have hmk := hm.kinds
  have HZ := Lib.hid hz
  clear hx hm hz
  unfold pkC at *
  go_enter Tryz.func99, Tryz.ntmps99
  go_wp2_with fail
  generalize w.alloc _ = w0 at *
  go_loopw [3, 4] (fun vs vi wr => ∃ (i n : Nat), i ≤ p.texts.length ∧ vi = .int .i64 i ∧ vs = .int .i64 n ∧ n ≤ 1000000000000 ∧ Hid (n = 37 + 8 * p.ints.length + ((p.texts.take i).map fun t => 1 + t.length).sum) ∧ w0 = wr) (fun _ vi _ => p.texts.length - (intOf vi).toNat)
  case atStart => exact ⟨0, 37 + 8 * p.ints.length, by omega, rfl, by go_num, by omega, Lib.hid (by simp), rfl⟩
  case round =>
    obtain ⟨i, n, hi, rfl, rfl, hn, HN, rfl⟩ := hrel
    obtain ⟨a0, a1, a2, a3⟩ := four HM.out
    by_cases hlt : i < p.texts.length
    · obtain ⟨g, off, hgA, hg, hc0⟩ := HX.out.texts i (.string (strB p.texts[i])) (by simp [textsV, hlt])
      have hc := (HK.out.cell (b := g) (o := off + i) hg id).trans hc0
      have HY := Lib.hid (List.getElem?_eq_getElem hlt)
      subst hgA
      clear hc0
      generalize p.texts[i] = x at *
      have HSX := Lib.hid (strB_size x)
      have hb : n + (1 + (strB x).size) ≤ 1000000000000 := by
        have e1 : ((p.texts.take i).map fun t => 1 + t.length).sum + (1 + x.length) ≤ _ := sum_at_le p.texts (fun t => 1 + t.length) i x HY.out
        have e2 := HZ.out
        have e3 := HN.out
        unfold sizeP at e2
        rw [HSX.out]
        omega
      have HN' : Hid (n + (1 + (strB x).size) = 37 + 8 * p.ints.length + ((p.texts.take (i + 1)).map fun t => 1 + t.length).sum) := Lib.hid (by
        rw [sum_next p.texts _ i x HY.out, HSX.out, HN.out]; omega)
      clear HN HY HSX
      go_wp2_with fail
      go_roundw
      case rel => exact ⟨i + 1, n + (1 + (strB x).size), by omega, by go_num, by go_num, by omega, HN', by trivial⟩
      case measure => simp [intOf]; omega
    · obtain rfl : i = p.texts.length := by omega
      have HN1 : Hid (n = 37 + 8 * p.ints.length + (p.texts.map fun t => 1 + t.length).sum) := Lib.hid (by have := HN.out; rw [List.take_length] at this; exact this)
      clear HN
      go_wp2_with fail
      clear a0 a1 a2 a3
      go_loopw [3, 5] (fun vs vi wr => ∃ (j n2 : Nat), j ≤ p.kinds.length ∧ vi = .int .i64 j ∧ vs = .int .i64 n2 ∧ n2 ≤ 1000000000000 ∧ Hid (n2 = n + ((p.kinds.take j).map kndSize).sum) ∧ Hid (Keeps (fun _ => False) w wr) ∧ Hid (Whole wr w.heap.size 26 #[.int .i64 p.cards, .slice Ai p.ints.length ci, .slice At p.texts.length ct, .slice Ak p.kinds.length ck])) (fun _ vi _ => p.kinds.length - (intOf vi).toNat)
      case atStart => exact ⟨0, n, by omega, rfl, rfl, hn, Lib.hid (by simp), HK, HM⟩
      case round =>
        clear HK HM
        obtain ⟨j, n2, hj, rfl, rfl, hn2, HN2, HK, HM⟩ := hrel
        obtain ⟨a0, a1, a2, a3⟩ := four HM.out
        by_cases hltj : j < p.kinds.length
        · obtain ⟨g, off, Bt, ct', Be, ce', hgA, hg, d0, d1, d2, d3, d4, d5, ht0, he0⟩ := (HX.out.kinds.keeps HK.out (fun _ _ => id) (Nat.le_refl _)) j p.kinds[j] (List.getElem?_eq_getElem hltj)
          have HY := Lib.hid (List.getElem?_eq_getElem hltj)
          have hkf := HF.out.each _ (List.getElem_mem hltj)
          subst hgA
          generalize p.kinds[j] = x at *
          have HE0 := Lib.hid he0
          have HKF := Lib.hid hkf
          have hxt := hkf.tags
          have hxe := hkf.effs
          clear ht0 he0 hkf
          have hb : n2 + kndSize x ≤ 1000000000000 := by
            have e1 := sum_at_le p.kinds kndSize j x HY.out
            have e2 := HZ.out
            have e3 := HN1.out
            have e4 := HN2.out
            unfold sizeP at e2
            omega
          have HN2' : Hid (n2 + kndSize x = n + ((p.kinds.take (j + 1)).map kndSize).sum) := Lib.hid (by
            rw [sum_next p.kinds kndSize j x HY.out, HN2.out]; omega)
          clear HN2 HY
          have hs16 : 16 + 2 * x.tags.length + (x.effs.map effSize).sum = kndSize x := rfl
          have HS := Lib.hid hs16
          have hb16 : n2 + (16 + 2 * x.tags.length) ≤ 1000000000000 := by omega
          have HBB := Lib.hid hb
          clear hs16 hb
          have ka := (Keeps.refl (fun _ => False) wr).alloc (.cells #[.int .i64 x.name, .int .i64 x.cost, .int .i64 x.power, .int .i64 x.health, .slice Bt x.tags.length ct', .slice Be x.effs.length ce'] 40)
          have HB := Lib.hid (Whole.made wr 40 #[.int .i64 x.name, .int .i64 x.cost, .int .i64 x.power, .int .i64 x.health, .slice Bt x.tags.length ct', .slice Be x.effs.length ce'])
          have HK2 := Lib.hid (HK.out.trans ka)
          have HM2 := Lib.hid (HM.out.keeps ka id)
          have HE1 := Lib.hid (HE0.out.keeps ka (fun _ _ => id) (by have := HK.out.size; omega))
          clear HE0 HK HM
          go_wp2_with fail
          generalize wr.alloc (.cells #[.int .i64 x.name, .int .i64 x.cost, .int .i64 x.power, .int .i64 x.health, .slice Bt x.tags.length ct', .slice Be x.effs.length ce'] 40) = w2 at *
          clear ka d0 d1 d2 d3 d4 d5 a0 a1 a2 a3
          generalize wr.heap.size = kb at *
          go_loopw [3, 7] (fun vs vi wr => ∃ (q n3 d : Nat), q ≤ x.effs.length ∧ vi = .int .i64 q ∧ vs = .int .i64 n3 ∧ n3 ≤ 1000000000000 ∧ Hid (n3 = n2 + (16 + 2 * x.tags.length) + ((x.effs.take q).map effSize).sum) ∧ wr = w2.drewN d) (fun _ vi _ => x.effs.length - (intOf vi).toNat)
          case atStart => exact ⟨0, n2 + (16 + 2 * x.tags.length), 0, by omega, rfl, by go_num, hb16, Lib.hid (by simp), rfl⟩
          case round =>
            clear hb16
            obtain ⟨q, n3, d, hq, rfl, rfl, hn3, HN3, rfl⟩ := hrel
            obtain ⟨e0, e1, e2, e3, e4, e5⟩ := six HB.out
            by_cases hltq : q < x.effs.length
            · obtain ⟨g2, off2, As, cs, Ac, cc, hgA2, hg2, d0, d1, d2, d3, _, _⟩ := HE1.out q x.effs[q] (List.getElem?_eq_getElem hltq)
              have HY := Lib.hid (List.getElem?_eq_getElem hltq)
              have hef := HKF.out.each _ (List.getElem_mem hltq)
              have hes := hef.slots
              have hec := hef.code
              clear hef
              subst hgA2
              generalize x.effs[q] = y at *
              have hb : n3 + effSize y ≤ 1000000000000 := by
                have f1 := sum_at_le x.effs effSize q y HY.out
                have f2 := HS.out
                have f3 := HN3.out
                have f4 := HBB.out
                omega
              have HN3' : Hid (n3 + effSize y = n2 + (16 + 2 * x.tags.length) + ((x.effs.take (q + 1)).map effSize).sum) := Lib.hid (by
                rw [sum_next x.effs effSize q y HY.out, HN3.out]; omega)
              unfold effSize at hb
              have hes2 : n3 + (12 + y.slots.length + y.code.length) = n3 + effSize y := rfl
              rw [← hes2] at HN3'
              clear HN3 HY hes2
              go_wp2_with fail
              go_quiet (fail)
              go_wp2_with fail
              go_roundw
              case rel => exact ⟨q + 1, n3 + (12 + y.slots.length + y.code.length), _, by omega, by go_num, by go_num, hb, HN3', rfl⟩
              case measure => simp [intOf]; omega
            · have HF3 : Hid (n3 = n2 + kndSize x) := Lib.hid (by
                have h := HN3.out
                rw [show q = x.effs.length by omega, List.take_length] at h
                have := HS.out
                omega)
              clear HN3
              go_wp2_with fail
              go_roundw
              case rel =>
                refine ⟨j + 1, n3, by omega, by go_num, rfl, hn3, Lib.hid ?_, Lib.hid (HK2.out.drewN _), Lib.hid (HM2.out.drewN _)⟩
                rw [HF3.out]
                exact HN2'.out
              case measure => simp [intOf]; omega
        · have HF2 : Hid (n2 = sizeP p) := Lib.hid (by
            have h := HN2.out
            rw [show j = p.kinds.length by omega, List.take_length] at h
            rw [h, HN1.out]; rfl)
          clear HN2
          go_wp2_with fail
          go_ret
          exact ⟨by rw [HF2.out]; rfl, HK.out⟩
end Go.Proofs.YtcmbdnjcfneinaaGreatDoor
/-
  The reference of chapter 19: Check: the walk. Conditions: lengths within 10 ^ 9, a size within 10 ^ 12.
-/
namespace Go.Proofs.YtcmbdnjcfneinaaGreatDoor
open Go.RowKit
theorem pools_is (p : Pk) : poolsC p = if intsC p ≠ 0 then intsC p else textsC p.texts := by
  unfold poolsC intsC
  by_cases h : p.cards < 1 ∨ 256 < p.cards ∨ 4096 < p.ints.length
  · rw [if_pos h, if_pos h, if_pos (by decide)]
  · rw [if_neg h, if_neg h]
    cases ascI p.ints with
    | true => rfl
    | false => rfl
/-- What is left to say: z is said already, the kinds from i on are not looked at yet. -/
def leftC (p : Pk) (z i : Nat) : Nat := if z ≠ 0 then z else if firstN ((p.kinds.drop i).map (kndC p.texts.length)) ≠ 0 then firstN ((p.kinds.drop i).map (kndC p.texts.length)) else if 1048576 < sizeP p then 20 else 0
theorem left_1 {p : Pk} (h : intsC p ≠ 0) : chk p = leftC p (intsC p) 0 := by
  have hp : poolsC p = intsC p := by rw [pools_is, if_pos h]
  unfold leftC
  rw [if_pos h, chk_1 hp h]
theorem left_2 {p : Pk} (h : intsC p = 0) (h2 : textsC p.texts ≠ 0) : chk p = leftC p (textsC p.texts) 0 := by
  have hp : poolsC p = textsC p.texts := by rw [pools_is, h]; rfl
  unfold leftC
  rw [if_pos h2, chk_1 hp h2]
theorem left_3 {p : Pk} (h : intsC p = 0) (h2 : textsC p.texts = 0) (h3 : 256 < p.kinds.length) : chk p = leftC p 56 0 := by
  have hp : poolsC p = 0 := by rw [pools_is, h, h2]; rfl
  rw [chk_2 hp h3]; rfl
theorem left_4 {p : Pk} (h : intsC p = 0) (h2 : textsC p.texts = 0) (h3 : ¬ 256 < p.kinds.length) : chk p = leftC p 0 0 := by
  have hp : poolsC p = 0 := by rw [pools_is, h, h2]; rfl
  unfold leftC chk
  rw [hp, if_neg (by simp), if_neg h3, if_neg (show ¬ (0 : Nat) ≠ 0 by simp), List.drop_zero]
theorem left_next {p : Pk} {i : Nat} (h : i < p.kinds.length) : leftC p 0 i = leftC p (kndC p.texts.length p.kinds[i]) (i + 1) := by
  unfold leftC
  rw [if_neg (by simp), List.drop_eq_getElem_cons h, List.map_cons, firstN_next]
  by_cases hc : kndC p.texts.length p.kinds[i] = 0
  · rw [if_pos hc, hc, if_neg (show ¬ (0 : Nat) ≠ 0 by simp)]
  · rw [if_neg hc, if_pos hc, if_pos hc]
theorem left_end {p : Pk} {i : Nat} (h : p.kinds.length ≤ i) : leftC p 0 i = if 1048576 < sizeP p then 20 else 0 := by
  unfold leftC
  rw [if_neg (by simp), List.drop_eq_nil_of_le h]; rfl
set_option maxRecDepth 8000 in
set_option maxHeartbeats 4000000 in
theorem check_ref (p : Pk) (Ai At Ak : Option Addr) (ci ct ck : Nat) (w : World) (hx : PkIn w w.heap.size p Ai At Ak) (hm : PkFew p) (hz : sizeP p ≤ 1000000000000) :
    Calls Tryz.prog 41 #[.agg (pkC p Ai At Ak ci ct ck)] w fun r w' => r = .returned (.int .i64 (chk p)) ∧ Keeps (fun _ => False) w w' := by
  have HM : Hid (Whole (w.alloc (.cells (pkC p Ai At Ak ci ct ck) 26)) w.heap.size 26 (pkC p Ai At Ak ci ct ck)) := Lib.hid (Whole.made w _ _)
  have HK : Hid (Keeps (fun _ => False) w (w.alloc (.cells (pkC p Ai At Ak ci ct ck) 26))) := Lib.hid ((Keeps.refl _ w).alloc _)
  have HX := Lib.hid hx
  have HF := Lib.hid hm
  have hmi := hm.ints
  have hmt := hm.texts
  have hmk := hm.kinds
  have HCI := Lib.hid (fun W (h : PkIn W W.heap.size p Ai At Ak) => ints_ref p Ai At Ak ci ct ck W h hm)
  have HCS := Lib.hid (fun W (h : PkIn W W.heap.size p Ai At Ak) => size_ref p Ai At Ak ci ct ck W h hm hz)
  have H1 := Lib.hid (left_1 (p := p))
  have H2 := Lib.hid (left_2 (p := p))
  have H3 := Lib.hid (left_3 (p := p))
  have H4 := Lib.hid (left_4 (p := p))
  clear hx hm hz
  unfold pkC at *
  go_enter Tryz.func41, Tryz.ntmps41
  go_wp2_with fail
  generalize w.alloc _ = w0 at *
  obtain ⟨a0, a1, a2, a3⟩ := four HM.out
  go_wp2_with fail
  refine (HCI.out w0 (HX.out.past HK.out)).mono ?_
  rintro r w1 ⟨rfl, hk1⟩
  replace HM := Lib.hid (HM.out.keeps hk1 id)
  replace HK := Lib.hid (HK.out.trans hk1)
  clear HCI hk1 a0 a1 a2 a3
  obtain ⟨a0, a1, a2, a3⟩ := four HM.out
  by_cases hi0 : intsC p = 0
  · have HI := Lib.hid hi0
    rw [hi0, show ((0 : Nat) : Int) = 0 from rfl]
    clear hi0
    go_wp2_with fail
    refine (texts_ref p.texts At ct w1 ((HX.out.past HK.out).texts) hmt HF.out.text).mono ?_
    rintro r w2 ⟨rfl, hk2⟩
    replace HM := Lib.hid (HM.out.keeps hk2 id)
    replace HK := Lib.hid (HK.out.trans hk2)
    clear hk2 a0 a1 a2 a3
    obtain ⟨a0, a1, a2, a3⟩ := four HM.out
    by_cases ht0 : textsC p.texts = 0
    · have HT := Lib.hid ht0
      rw [ht0, show ((0 : Nat) : Int) = 0 from rfl]
      clear ht0
      by_cases h3 : 256 < p.kinds.length
      · have HQ := Lib.hid (H3.out HI.out HT.out h3)
        clear H1 H2 H3 H4
        go_wp2_with fail
        clear a0 a1 a2 a3
        generalize decide ((256 : Int) < (p.kinds.length : Int)) = bb
        go_loopw [3, 4] (fun ve vi wr => ∃ (i z : Nat), i ≤ p.kinds.length ∧ vi = .int .i64 i ∧ ve = .int .i64 z ∧ Hid (chk p = leftC p z i) ∧ Hid (Keeps (fun _ => False) w wr) ∧ Hid (Whole wr w.heap.size 26 #[.int .i64 p.cards, .slice Ai p.ints.length ci, .slice At p.texts.length ct, .slice Ak p.kinds.length ck])) (fun _ vi _ => p.kinds.length - (intOf vi).toNat)
        case atStart => exact ⟨0, 56, by omega, rfl, rfl, HQ, HK, HM⟩
        case round =>
          clear HK HM
          obtain ⟨i, z, hi, rfl, rfl, HZ, HK, HM⟩ := hrel
          obtain ⟨a0, a1, a2, a3⟩ := four HM.out
          by_cases hz0 : z = 0
          · subst hz0
            by_cases hlt : i < p.kinds.length
            · obtain ⟨g, off, Bt, ct', Be, ce', hgA, hg, d0, d1, d2, d3, d4, d5, ht0, he0⟩ := (HX.out.kinds.keeps HK.out (fun _ _ => id) (Nat.le_refl _)) i p.kinds[i] (List.getElem?_eq_getElem hlt)
              have hkf := HF.out.each _ (List.getElem_mem hlt)
              have HZ' : Hid (chk p = leftC p (kndC p.texts.length p.kinds[i]) (i + 1)) := Lib.hid (by rw [HZ.out, left_next hlt])
              subst hgA
              generalize p.kinds[i] = x at *
              have hwr : wr.drew.heap.size = wr.heap.size := rfl
              have HCL := Lib.hid (kind_ref x p.texts.length Bt Be ct' ce' wr.drew ((ht0.more HK.out.size).drew) (fun i e hi => (he0.more HK.out.size) i e hi) hkf)
              unfold kndV at HCL
              generalize kndC p.texts.length x = z' at *
              have hxt := hkf.tags
              have hxe := hkf.effs
              clear ht0 he0 hkf HZ hwr
              go_wp2_with fail
              go_still_tail 8, (by kernel_rfl)
              change wpList _ _ _ _ _ wr.drew
              replace HM : Hid (Whole wr.drew w.heap.size 26 _) := Lib.hid HM.out.drew
              replace HK := Lib.hid HK.out.drew
              generalize wr.drew = w2 at *
              go_wp2_with fail
              refine HCL.out.mono ?_
              rintro r w3 ⟨rfl, kk⟩
              replace HM := Lib.hid (HM.out.keeps kk id)
              replace HK := Lib.hid (HK.out.trans kk)
              clear HCL kk d0 d1 d2 d3 d4 d5 a0 a1 a2 a3
              go_wp2_with fail
              go_roundw
              case rel =>
                exact ⟨i + 1, z', by omega, by go_num, rfl, HZ', HK, HM⟩
              case measure => simp [intOf]; omega
            · have HZ' : Hid (chk p = if 1048576 < sizeP p then 20 else 0) := Lib.hid (by rw [HZ.out, left_end (by omega)])
              clear HZ
              go_wp2_with fail
              refine (HCS.out wr (HX.out.past HK.out)).mono ?_
              rintro r w2 ⟨rfl, kk⟩
              replace HK := Lib.hid (HK.out.trans kk)
              clear kk HM HCS a0 a1 a2 a3
              by_cases hs : 1048576 < sizeP p
              · replace HZ' := Lib.hid (HZ'.out.trans (if_pos hs))
                go_wp2_with fail
                go_ret
                exact ⟨by rw [HZ'.out]; rfl, HK.out⟩
              · replace HZ' := Lib.hid (HZ'.out.trans (if_neg hs))
                go_wp2_with fail
                go_ret
                exact ⟨by rw [HZ'.out]; rfl, HK.out⟩
          · have HZ' : Hid (chk p = z) := Lib.hid (by rw [HZ.out]; unfold leftC; rw [if_pos hz0])
            clear HZ
            have hzi : ¬ ((z : Int) = 0) := by omega
            have hze : ((z : Int) == 0) = false := by simp; exact hz0
            by_cases hlt : i < p.kinds.length
            · go_wp2_with fail
              go_ret
              exact ⟨by rw [HZ'.out]; rfl, HK.out⟩
            · go_wp2_with fail
              go_ret
              exact ⟨by rw [HZ'.out]; rfl, HK.out⟩
      · have HQ := Lib.hid (H4.out HI.out HT.out h3)
        clear H1 H2 H3 H4
        go_wp2_with fail
        clear a0 a1 a2 a3
        go_loopw [3, 4] (fun ve vi wr => ∃ (i z : Nat), i ≤ p.kinds.length ∧ vi = .int .i64 i ∧ ve = .int .i64 z ∧ Hid (chk p = leftC p z i) ∧ Hid (Keeps (fun _ => False) w wr) ∧ Hid (Whole wr w.heap.size 26 #[.int .i64 p.cards, .slice Ai p.ints.length ci, .slice At p.texts.length ct, .slice Ak p.kinds.length ck])) (fun _ vi _ => p.kinds.length - (intOf vi).toNat)
        case atStart => exact ⟨0, 0, by omega, rfl, rfl, HQ, HK, HM⟩
        case round =>
          clear HK HM
          obtain ⟨i, z, hi, rfl, rfl, HZ, HK, HM⟩ := hrel
          obtain ⟨a0, a1, a2, a3⟩ := four HM.out
          by_cases hz0 : z = 0
          · subst hz0
            by_cases hlt : i < p.kinds.length
            · obtain ⟨g, off, Bt, ct', Be, ce', hgA, hg, d0, d1, d2, d3, d4, d5, ht0, he0⟩ := (HX.out.kinds.keeps HK.out (fun _ _ => id) (Nat.le_refl _)) i p.kinds[i] (List.getElem?_eq_getElem hlt)
              have hkf := HF.out.each _ (List.getElem_mem hlt)
              have HZ' : Hid (chk p = leftC p (kndC p.texts.length p.kinds[i]) (i + 1)) := Lib.hid (by rw [HZ.out, left_next hlt])
              subst hgA
              generalize p.kinds[i] = x at *
              have hwr : wr.drew.heap.size = wr.heap.size := rfl
              have HCL := Lib.hid (kind_ref x p.texts.length Bt Be ct' ce' wr.drew ((ht0.more HK.out.size).drew) (fun i e hi => (he0.more HK.out.size) i e hi) hkf)
              unfold kndV at HCL
              generalize kndC p.texts.length x = z' at *
              have hxt := hkf.tags
              have hxe := hkf.effs
              clear ht0 he0 hkf HZ hwr
              go_wp2_with fail
              go_still_tail 8, (by kernel_rfl)
              change wpList _ _ _ _ _ wr.drew
              replace HM : Hid (Whole wr.drew w.heap.size 26 _) := Lib.hid HM.out.drew
              replace HK := Lib.hid HK.out.drew
              generalize wr.drew = w2 at *
              go_wp2_with fail
              refine HCL.out.mono ?_
              rintro r w3 ⟨rfl, kk⟩
              replace HM := Lib.hid (HM.out.keeps kk id)
              replace HK := Lib.hid (HK.out.trans kk)
              clear HCL kk d0 d1 d2 d3 d4 d5 a0 a1 a2 a3
              go_wp2_with fail
              go_roundw
              case rel =>
                exact ⟨i + 1, z', by omega, by go_num, rfl, HZ', HK, HM⟩
              case measure => simp [intOf]; omega
            · have HZ' : Hid (chk p = if 1048576 < sizeP p then 20 else 0) := Lib.hid (by rw [HZ.out, left_end (by omega)])
              clear HZ
              go_wp2_with fail
              refine (HCS.out wr (HX.out.past HK.out)).mono ?_
              rintro r w2 ⟨rfl, kk⟩
              replace HK := Lib.hid (HK.out.trans kk)
              clear kk HM HCS a0 a1 a2 a3
              by_cases hs : 1048576 < sizeP p
              · replace HZ' := Lib.hid (HZ'.out.trans (if_pos hs))
                go_wp2_with fail
                go_ret
                exact ⟨by rw [HZ'.out]; rfl, HK.out⟩
              · replace HZ' := Lib.hid (HZ'.out.trans (if_neg hs))
                go_wp2_with fail
                go_ret
                exact ⟨by rw [HZ'.out]; rfl, HK.out⟩
          · have HZ' : Hid (chk p = z) := Lib.hid (by rw [HZ.out]; unfold leftC; rw [if_pos hz0])
            clear HZ
            have hzi : ¬ ((z : Int) = 0) := by omega
            have hze : ((z : Int) == 0) = false := by simp; exact hz0
            by_cases hlt : i < p.kinds.length
            · go_wp2_with fail
              go_ret
              exact ⟨by rw [HZ'.out]; rfl, HK.out⟩
            · go_wp2_with fail
              go_ret
              exact ⟨by rw [HZ'.out]; rfl, HK.out⟩
    · have HQ := Lib.hid (H2.out HI.out ht0)
      clear H1 H2 H3 H4
      generalize textsC p.texts = z0 at *
      have hzi : ¬ ((z0 : Int) = 0) := by omega
      have hze : ((z0 : Int) == 0) = false := by simp; exact ht0
      go_wp2_with fail
      clear a0 a1 a2 a3 hze hzi
      go_loopw [3, 4] (fun ve vi wr => ∃ (i z : Nat), i ≤ p.kinds.length ∧ vi = .int .i64 i ∧ ve = .int .i64 z ∧ Hid (chk p = leftC p z i) ∧ Hid (Keeps (fun _ => False) w wr) ∧ Hid (Whole wr w.heap.size 26 #[.int .i64 p.cards, .slice Ai p.ints.length ci, .slice At p.texts.length ct, .slice Ak p.kinds.length ck])) (fun _ vi _ => p.kinds.length - (intOf vi).toNat)
      case atStart => exact ⟨0, z0, by omega, rfl, rfl, HQ, HK, HM⟩
      case round =>
        clear HK HM
        obtain ⟨i, z, hi, rfl, rfl, HZ, HK, HM⟩ := hrel
        obtain ⟨a0, a1, a2, a3⟩ := four HM.out
        by_cases hz0 : z = 0
        · subst hz0
          by_cases hlt : i < p.kinds.length
          · obtain ⟨g, off, Bt, ct', Be, ce', hgA, hg, d0, d1, d2, d3, d4, d5, ht0, he0⟩ := (HX.out.kinds.keeps HK.out (fun _ _ => id) (Nat.le_refl _)) i p.kinds[i] (List.getElem?_eq_getElem hlt)
            have hkf := HF.out.each _ (List.getElem_mem hlt)
            have HZ' : Hid (chk p = leftC p (kndC p.texts.length p.kinds[i]) (i + 1)) := Lib.hid (by rw [HZ.out, left_next hlt])
            subst hgA
            generalize p.kinds[i] = x at *
            have hwr : wr.drew.heap.size = wr.heap.size := rfl
            have HCL := Lib.hid (kind_ref x p.texts.length Bt Be ct' ce' wr.drew ((ht0.more HK.out.size).drew) (fun i e hi => (he0.more HK.out.size) i e hi) hkf)
            unfold kndV at HCL
            generalize kndC p.texts.length x = z' at *
            have hxt := hkf.tags
            have hxe := hkf.effs
            clear ht0 he0 hkf HZ hwr
            go_wp2_with fail
            go_still_tail 8, (by kernel_rfl)
            change wpList _ _ _ _ _ wr.drew
            replace HM : Hid (Whole wr.drew w.heap.size 26 _) := Lib.hid HM.out.drew
            replace HK := Lib.hid HK.out.drew
            generalize wr.drew = w2 at *
            go_wp2_with fail
            refine HCL.out.mono ?_
            rintro r w3 ⟨rfl, kk⟩
            replace HM := Lib.hid (HM.out.keeps kk id)
            replace HK := Lib.hid (HK.out.trans kk)
            clear HCL kk d0 d1 d2 d3 d4 d5 a0 a1 a2 a3
            go_wp2_with fail
            go_roundw
            case rel =>
              exact ⟨i + 1, z', by omega, by go_num, rfl, HZ', HK, HM⟩
            case measure => simp [intOf]; omega
          · have HZ' : Hid (chk p = if 1048576 < sizeP p then 20 else 0) := Lib.hid (by rw [HZ.out, left_end (by omega)])
            clear HZ
            go_wp2_with fail
            refine (HCS.out wr (HX.out.past HK.out)).mono ?_
            rintro r w2 ⟨rfl, kk⟩
            replace HK := Lib.hid (HK.out.trans kk)
            clear kk HM HCS a0 a1 a2 a3
            by_cases hs : 1048576 < sizeP p
            · replace HZ' := Lib.hid (HZ'.out.trans (if_pos hs))
              go_wp2_with fail
              go_ret
              exact ⟨by rw [HZ'.out]; rfl, HK.out⟩
            · replace HZ' := Lib.hid (HZ'.out.trans (if_neg hs))
              go_wp2_with fail
              go_ret
              exact ⟨by rw [HZ'.out]; rfl, HK.out⟩
        · have HZ' : Hid (chk p = z) := Lib.hid (by rw [HZ.out]; unfold leftC; rw [if_pos hz0])
          clear HZ
          have hzi : ¬ ((z : Int) = 0) := by omega
          have hze : ((z : Int) == 0) = false := by simp; exact hz0
          by_cases hlt : i < p.kinds.length
          · go_wp2_with fail
            go_ret
            exact ⟨by rw [HZ'.out]; rfl, HK.out⟩
          · go_wp2_with fail
            go_ret
            exact ⟨by rw [HZ'.out]; rfl, HK.out⟩
  · have HQ := Lib.hid (H1.out hi0)
    clear H1 H2 H3 H4
    generalize intsC p = z0 at *
    have hzi : ¬ ((z0 : Int) = 0) := by omega
    have hze : ((z0 : Int) == 0) = false := by simp; exact hi0
    go_wp2_with fail
    clear a0 a1 a2 a3 hze hzi
    go_loopw [3, 4] (fun ve vi wr => ∃ (i z : Nat), i ≤ p.kinds.length ∧ vi = .int .i64 i ∧ ve = .int .i64 z ∧ Hid (chk p = leftC p z i) ∧ Hid (Keeps (fun _ => False) w wr) ∧ Hid (Whole wr w.heap.size 26 #[.int .i64 p.cards, .slice Ai p.ints.length ci, .slice At p.texts.length ct, .slice Ak p.kinds.length ck])) (fun _ vi _ => p.kinds.length - (intOf vi).toNat)
    case atStart => exact ⟨0, z0, by omega, rfl, rfl, HQ, HK, HM⟩
    case round =>
      clear HK HM
      obtain ⟨i, z, hi, rfl, rfl, HZ, HK, HM⟩ := hrel
      obtain ⟨a0, a1, a2, a3⟩ := four HM.out
      by_cases hz0 : z = 0
      · subst hz0
        by_cases hlt : i < p.kinds.length
        · obtain ⟨g, off, Bt, ct', Be, ce', hgA, hg, d0, d1, d2, d3, d4, d5, ht0, he0⟩ := (HX.out.kinds.keeps HK.out (fun _ _ => id) (Nat.le_refl _)) i p.kinds[i] (List.getElem?_eq_getElem hlt)
          have hkf := HF.out.each _ (List.getElem_mem hlt)
          have HZ' : Hid (chk p = leftC p (kndC p.texts.length p.kinds[i]) (i + 1)) := Lib.hid (by rw [HZ.out, left_next hlt])
          subst hgA
          generalize p.kinds[i] = x at *
          have hwr : wr.drew.heap.size = wr.heap.size := rfl
          have HCL := Lib.hid (kind_ref x p.texts.length Bt Be ct' ce' wr.drew ((ht0.more HK.out.size).drew) (fun i e hi => (he0.more HK.out.size) i e hi) hkf)
          unfold kndV at HCL
          generalize kndC p.texts.length x = z' at *
          have hxt := hkf.tags
          have hxe := hkf.effs
          clear ht0 he0 hkf HZ hwr
          go_wp2_with fail
          go_still_tail 8, (by kernel_rfl)
          change wpList _ _ _ _ _ wr.drew
          replace HM : Hid (Whole wr.drew w.heap.size 26 _) := Lib.hid HM.out.drew
          replace HK := Lib.hid HK.out.drew
          generalize wr.drew = w2 at *
          go_wp2_with fail
          refine HCL.out.mono ?_
          rintro r w3 ⟨rfl, kk⟩
          replace HM := Lib.hid (HM.out.keeps kk id)
          replace HK := Lib.hid (HK.out.trans kk)
          clear HCL kk d0 d1 d2 d3 d4 d5 a0 a1 a2 a3
          go_wp2_with fail
          go_roundw
          case rel =>
            exact ⟨i + 1, z', by omega, by go_num, rfl, HZ', HK, HM⟩
          case measure => simp [intOf]; omega
        · have HZ' : Hid (chk p = if 1048576 < sizeP p then 20 else 0) := Lib.hid (by rw [HZ.out, left_end (by omega)])
          clear HZ
          go_wp2_with fail
          refine (HCS.out wr (HX.out.past HK.out)).mono ?_
          rintro r w2 ⟨rfl, kk⟩
          replace HK := Lib.hid (HK.out.trans kk)
          clear kk HM HCS a0 a1 a2 a3
          by_cases hs : 1048576 < sizeP p
          · replace HZ' := Lib.hid (HZ'.out.trans (if_pos hs))
            go_wp2_with fail
            go_ret
            exact ⟨by rw [HZ'.out]; rfl, HK.out⟩
          · replace HZ' := Lib.hid (HZ'.out.trans (if_neg hs))
            go_wp2_with fail
            go_ret
            exact ⟨by rw [HZ'.out]; rfl, HK.out⟩
      · have HZ' : Hid (chk p = z) := Lib.hid (by rw [HZ.out]; unfold leftC; rw [if_pos hz0])
        clear HZ
        have hzi : ¬ ((z : Int) = 0) := by omega
        have hze : ((z : Int) == 0) = false := by simp; exact hz0
        by_cases hlt : i < p.kinds.length
        · go_wp2_with fail
          go_ret
          exact ⟨by rw [HZ'.out]; rfl, HK.out⟩
        · go_wp2_with fail
          go_ret
          exact ⟨by rw [HZ'.out]; rfl, HK.out⟩
end Go.Proofs.YtcmbdnjcfneinaaGreatDoor
