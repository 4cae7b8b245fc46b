/-
  The reference's reader: a number, the head, a byte that says no or yes: the walks. Conditions: lengths within 2 ^ 40; one to four bytes.
-/
import Derived.Test.YthmfbcfbcookiaaDoorImX
import Derived.Deep.Cut
namespace Go.Proofs.YthmfbcfbcookiaaDoor
open Go.RowKit
/-- The reference's reader in memory: its block r, its bytes below B. -/
structure RrAt (w : World) (r : Nat) (B : Nat) (A : Option Addr) (cap : Nat) (b : List Oct) (i : Nat) (bad : Bool) : Prop where
  box : Whole w r 107 (rdC A b.length cap i bad)
  lies : Lies w B A (bytesV b)
  below : B ≤ r
  place : i ≤ b.length
  cap : b.length ≤ cap
section
variable {w w' : World} {r B cap i : Nat} {A : Option Addr} {b : List Oct} {bad : Bool}
theorem RrAt.drewN (h : RrAt w r B A cap b i bad) (n : Nat) : RrAt (w.drewN n) r B A cap b i bad := ⟨h.box, h.lies, h.below, h.place, h.cap⟩
theorem RrAt.drew (h : RrAt w r B A cap b i bad) : RrAt w.drew r B A cap b i bad := ⟨h.box, h.lies, h.below, h.place, h.cap⟩
theorem RrAt.keeps {S : Nat → Prop} (h : RrAt w r B A cap b i bad) (hk : Keeps S w w') (hr : ¬ S r) (hS : ∀ k, k < B → ¬ S k) : RrAt w' r B A cap b i bad :=
  ⟨h.box.keeps hk hr, h.lies.keep fun g o hg => hk.cell (by have := h.box.inside; have := h.below; omega) (hS g hg), h.below, h.place, h.cap⟩
theorem RrAt.setBad (h : RrAt w r B A cap b i bad) (c : Bool) : RrAt (w.setCell ⟨r, 2, none⟩ (.bool c)) r B A cap b i c :=
  ⟨h.box.put 2 _, h.lies.keep fun g _ hg => World.cell?_setCell_other _ _ _ _ (by intro e; injection e with e1; have := h.below; omega), h.below, h.place, h.cap⟩
theorem RrAt.setAt (h : RrAt w r B A cap b i bad) {j : Nat} (hj : j ≤ b.length) : RrAt (w.setCell ⟨r, 1, none⟩ (.int .i64 j)) r B A cap b j bad :=
  ⟨h.box.put 1 _, h.lies.keep fun g _ hg => World.cell?_setCell_other _ _ _ _ (by intro e; injection e with e1; have := h.below; omega), h.below, hj, h.cap⟩
end
theorem RrAt.keepsT {S : Nat → Prop} {w w' : World} {r B cap i : Nat} {A : Option Addr} {b : List Oct} {bad : Bool} {t : TypeId} (h : RrAt w r B A cap b i bad) (hk : Keeps S w w') (hS : OfKind w t S) (hne : 107 ≠ t) (hB : ∀ k, k < B → ¬ S k) : RrAt w' r B A cap b i bad :=
  ⟨whole_keepsT h.box hk hS hne, h.lies.keep fun g o hg => hk.cell (by have := h.box.inside; have := h.below; omega) (hB g hg), h.below, h.place, h.cap⟩
theorem RrAt.calm {w w' : World} {r B cap i : Nat} {A : Option Addr} {b : List Oct} {bad : Bool} (h : RrAt w r B A cap b i bad) (hk : Keeps (fun _ => False) w w') : RrAt w' r B A cap b i bad := h.keeps hk id (fun _ _ => id)
set_option maxHeartbeats 2000000 in
theorem refNum_bad (n : Nat) (r B : Nat) (A : Option Addr) (cap i : Nat) (b : List Oct) (w : World) (h : RrAt w r B A cap b i true) :
    Calls Tryd.prog 78 #[.pointer (some ⟨r, 0, none⟩), .int .i64 n] w fun e w' => e = .returned (.int .i64 0) ∧ RrAt w' r B A cap b i true ∧ Keeps (fun k => k = r) w w' := by
  have c0 : w.cell? ⟨r, 0, none⟩ = some (.slice A b.length cap) := h.box.cellAt 0
  have c1 : w.cell? ⟨r, 1, none⟩ = some (.int .i64 i) := h.box.cellAt 1
  have c2 : w.cell? ⟨r, 2, none⟩ = some (.bool true) := h.box.cellAt 2
  have f2 := h.box.free 2
  have H := Lib.hid h
  clear h
  go_enter Tryd.func78, Tryd.ntmps78
  go_wp2_with fail
  go_quiet (fail)
  go_wp2_with fail
  go_ret
  exact ⟨rfl, (H.out.drewN _).setBad true, Keeps.setCell (S := fun k => k = r) ((Keeps.refl _ _).drewN _) (fun _ => rfl) _⟩
set_option maxHeartbeats 2000000 in
theorem refNum_cut (n : Nat) (r B : Nat) (A : Option Addr) (cap i : Nat) (b : List Oct) (w : World) (h : RrAt w r B A cap b i false) (_ : b.length ≤ 1099511627776) (hn : n ≤ 8) (hc : b.length < i + n) :
    Calls Tryd.prog 78 #[.pointer (some ⟨r, 0, none⟩), .int .i64 n] w fun e w' => e = .returned (.int .i64 0) ∧ RrAt w' r B A cap b i true ∧ Keeps (fun k => k = r) w w' := by
  have c0 : w.cell? ⟨r, 0, none⟩ = some (.slice A b.length cap) := h.box.cellAt 0
  have c1 : w.cell? ⟨r, 1, none⟩ = some (.int .i64 i) := h.box.cellAt 1
  have c2 : w.cell? ⟨r, 2, none⟩ = some (.bool false) := h.box.cellAt 2
  have f2 := h.box.free 2
  have hp := h.place
  have H := Lib.hid h
  clear h
  have hd : decide ((b.length : Int) - i < n) = true := decide_eq_true (by omega)
  have hw : IntKind.i64.wrap ((b.length : Int) - i) = (b.length : Int) - i := IntWalk.i64_in _ (by omega)
  go_enter Tryd.func78, Tryd.ntmps78
  go_wp2_with fail
  go_quiet (fail)
  go_wp2_with fail
  go_ret
  exact ⟨rfl, (H.out.drewN _).setBad true, Keeps.setCell (S := fun k => k = r) ((Keeps.refl _ _).drewN _) (fun _ => rfl) _⟩
set_option maxHeartbeats 4000000 in
theorem refNum_good (n : Nat) (r B : Nat) (A : Option Addr) (cap i : Nat) (b : List Oct) (w : World) (h : RrAt w r B A cap b i false) (hl : b.length ≤ 1099511627776) (hn0 : 1 ≤ n) (hn : n ≤ 4) (hc : i + n ≤ b.length) :
    Calls Tryd.prog 78 #[.pointer (some ⟨r, 0, none⟩), .int .i64 n] w fun e w' => e = .returned (.int .i64 (val ((b.drop i).take n) : Nat)) ∧ RrAt w' r B A cap b (i + n) false ∧ Keeps (fun k => k = r) w w' := by
  obtain ⟨g, off, rfl, hg, _⟩ := h.lies i _ (bytesV_get b i (by omega))
  have c0 : w.cell? ⟨r, 0, none⟩ = some (.slice (some ⟨g, off, none⟩) b.length cap) := h.box.cellAt 0
  have c1 : w.cell? ⟨r, 1, none⟩ = some (.int .i64 i) := h.box.cellAt 1
  have c2 : w.cell? ⟨r, 2, none⟩ = some (.bool false) := h.box.cellAt 2
  have f1 := h.box.free 1
  have hp := h.place
  have H := Lib.hid h
  clear h
  have hd : decide ((b.length : Int) - i < n) = false := decide_eq_false (by omega)
  have hw : IntKind.i64.wrap ((b.length : Int) - i) = (b.length : Int) - i := IntWalk.i64_in _ (by omega)
  go_enter Tryd.func78, Tryd.ntmps78
  go_wp2_with fail
  go_quiet (fail)
  clear hd hw
  go_wp2_with fail
  go_loopw [5, 6] (fun vx vk wr => ∃ k d : Nat, k ≤ n ∧ vk = .int .i64 k ∧ vx = .int .i64 (val ((b.drop i).take k) : Nat) ∧ wr = w.drewN d) (fun _ vk _ => n - (intOf vk).toNat)
  case atStart => exact ⟨0, _, by omega, rfl, rfl, rfl⟩
  case round =>
    obtain ⟨k, d, hk, rfl, rfl, rfl⟩ := hrel
    by_cases hlt : k < n
    · have hkl : k < (b.drop i).length := by rw [List.length_drop]; omega
      obtain ⟨g', off', hA, _, hc⟩ := H.out.lies (i + k) _ (bytesV_get b (i + k) (by omega))
      injection hA with hA
      injection hA with e1 e2
      subst e1 e2
      have hts := take_snoc (b.drop i) k hkl
      rw [List.getElem_drop] at hts
      have hv := val_snoc ((b.drop i).take k) b[i + k]
      have hlt2 : val ((b.drop i).take k) < 16777216 := by
        have h1 := val_lt ((b.drop i).take k)
        rw [List.length_take, List.length_drop, Nat.min_eq_left (by omega)] at h1
        have h2 : 256 ^ k ≤ 256 ^ 3 := Nat.pow_le_pow_right (by decide) (by omega)
        omega
      obtain ⟨x, hx⟩ : ∃ x, x = val ((b.drop i).take k) := ⟨_, rfl⟩
      obtain ⟨c, hcx⟩ : ∃ c, c = b[i + k] := ⟨_, rfl⟩
      rw [← hts, ← hx, ← hcx] at hv
      have HV := Lib.hid hv
      rw [← hcx] at hc
      have hcl := c.isLt
      rw [← hx] at hlt2 ⊢
      clear hv hts hx hcx
      have hs1 : IntKind.i64.wrap ((i : Int) + k) = (i : Int) + k := IntWalk.i64_in _ (by omega)
      have hs2 : (0 : Int) ≤ (i : Int) + k := by omega
      have hs3 : ((i : Int) + k).toNat = i + k := by omega
      have hs4 : (i : Int) + k < (b.length : Int) := by omega
      have hs5 : IntKind.i64.wrap (256 * (x : Int)) = 256 * (x : Int) := IntWalk.i64_in _ (by omega)
      have hs6 : IntKind.i64.wrap (256 * (x : Int) + (c.toNat : Int)) = 256 * (x : Int) + (c.toNat : Int) := IntWalk.i64_in _ (by omega)
      have hs7 : IntKind.i64.wrap (c.toNat : Int) = (c.toNat : Int) := IntWalk.i64_in _ (by omega)
      have q0 : (w.drewN d).cell? ⟨r, 0, none⟩ = some (.slice (some ⟨g, off, none⟩) b.length cap) := c0
      have q1 : (w.drewN d).cell? ⟨r, 1, none⟩ = some (.int .i64 i) := c1
      have q2 : (w.drewN d).cell? ⟨g, off + (i + k), none⟩ = some (.int .u8 (c.toNat : Int)) := hc
      go_wp2_with fail
      go_quiet (fail)
      clear hs1 hs2 hs3 hs4 hs5 hs6 hs7
      go_wp2_with fail
      go_roundw
      case rel => exact ⟨k + 1, _, by omega, by go_num, by rw [HV.out]; go_num, rfl⟩
      case measure => simp [intOf]; omega
    · obtain rfl : k = n := by omega
      obtain ⟨x, hx⟩ : ∃ x, x = val ((b.drop i).take k) := ⟨_, rfl⟩
      rw [← hx]
      have HX := Lib.hid hx
      clear hx
      have q1 : (w.drewN d).cell? ⟨r, 1, none⟩ = some (.int .i64 i) := c1
      go_wp2_with fail
      go_ret
      have h2 := fun m => (H.out.drewN m).setAt (j := i + k) hc
      simp only [show ((i + k : Nat) : Int) = (i : Int) + k by omega] at h2
      refine ⟨congrArg (fun y : Int => Ending.returned (.int .i64 y)) (show (x : Int) = _ by rw [HX.out]), h2 _, Keeps.setCell (S := fun k => k = r) (((Keeps.refl _ _).drewN _)) (fun _ => rfl) _⟩
/-- How number reads: at a reader with or without a fault. -/
theorem refNum_any (n : Nat) (r B : Nat) (A : Option Addr) (cap i : Nat) (b : List Oct) (bad : Bool) (w : World) (h : RrAt w r B A cap b i bad) (hl : b.length ≤ 1099511627776) (hn0 : 1 ≤ n) (hn : n ≤ 4) :
    Calls Tryd.prog 78 #[.pointer (some ⟨r, 0, none⟩), .int .i64 n] w fun e w' => e = .returned (.int .i64 (((numP n).from b i bad).val 0)) ∧ RrAt w' r B A cap b ((numP n).from b i bad).at_ ((numP n).from b i bad).isBad ∧ Keeps (fun k => k = r) w w' := by
  cases bad
  · by_cases hc : i + n ≤ b.length
    · refine (refNum_good n r B A cap i b w h hl hn0 hn hc).mono ?_
      rintro e w' h
      simp only [Pr.from, numP, if_pos hc, Bool.false_eq_true, if_false, Rd.val, Rd.at_, Rd.isBad]
      exact h
    · refine (refNum_cut n r B A cap i b w h hl (by omega) (by omega)).mono ?_
      rintro e w' h
      simp only [Pr.from, numP, if_neg hc, Bool.false_eq_true, if_false, Rd.val, Rd.at_, Rd.isBad]
      exact h
  · refine (refNum_bad n r B A cap i b w h).mono ?_
    rintro e w' h
    exact h
/-- The head's bytes, in a row of their own. -/
def headA : Array Value := #[.int .u8 84, .int .u8 66, .int .u8 76, .int .u8 83, .int .u8 1]
theorem refHeadL_any (w : World) : Calls Tryd.prog 87 #[] w fun e w' => e = .returned (.slice (some ⟨w.heap.size, 0, none⟩) 5 5) ∧ w' = w.alloc (.cells headA 5) := by
  unfold headA
  go_enter Tryd.func87, Tryd.ntmps87
  go_wp2_with fail
  go_ret
  exact ⟨rfl, rfl⟩
theorem headA_get (k : Nat) (hk : k < 5) : headA[k]? = some (.int .u8 ((headL[k]'hk).toNat : Int)) := by
  match k, hk with
  | 0, _ => rfl
  | 1, _ => rfl
  | 2, _ => rfl
  | 3, _ => rfl
  | 4, _ => rfl
set_option maxHeartbeats 4000000 in
theorem refHead_any (r B : Nat) (A : Option Addr) (cap : Nat) (b : List Oct) (w : World) (h : RrAt w r B A cap b 0 false) (_ : b.length ≤ 1099511627776) :
    Calls Tryd.prog 77 #[.pointer (some ⟨r, 0, none⟩)] w fun e w' => e = .returned (.tuple #[]) ∧ RrAt w' r B A cap b (litP headL b 0).at_ (litP headL b 0).isBad ∧ Keeps (fun k => k = r) w w' := by
  have k0 : Keeps (fun _ => False) w (w.alloc (.cells headA 5)) := (Keeps.refl _ _).alloc _
  have H0 := Lib.hid (h.calm k0)
  have W0 := Lib.hid (Whole.made w 5 headA)
  have K0 : Hid (Keeps (fun k => k = r) w (w.alloc (.cells headA 5))) := Lib.hid (k0.mono fun _ _ h => h.elim)
  have hrw := h.box.inside
  clear h k0
  go_enter Tryd.func77, Tryd.ntmps77
  go_wp2_with fail
  refine (refHeadL_any _).mono ?_
  rintro e w1 ⟨rfl, rfl⟩
  go_wp2_with fail
  generalize w.alloc (.cells headA 5) = w0 at *
  go_loopw [3] (fun vk wr => ∃ (k i : Nat) (bad : Bool), k ≤ 5 ∧ vk = .int .i64 k ∧ Hid (RrAt wr r B A cap b i bad) ∧ Hid (Whole wr w.heap.size 5 headA) ∧ Hid (Keeps (fun k => k = r) w wr) ∧ Hid ((bad = true ∧ litP headL b 0 = .bad i) ∨ (bad = false ∧ i = k ∧ litP headL b 0 = litP (headL.drop k) b k))) (fun vk _ => 5 - (intOf vk).toNat)
  case atStart => exact ⟨0, 0, false, by omega, rfl, H0, W0, K0, Lib.hid (Or.inr ⟨rfl, rfl, rfl⟩)⟩
  case round =>
    clear H0 W0 K0
    obtain ⟨k, i, bad, hk, rfl, HH, HW, HK, HL⟩ := hrel
    have c0 : wr.cell? ⟨r, 0, none⟩ = some (.slice A b.length cap) := HH.out.box.cellAt 0
    have c1 : wr.cell? ⟨r, 1, none⟩ = some (.int .i64 i) := HH.out.box.cellAt 1
    have c2 : wr.cell? ⟨r, 2, none⟩ = some (.bool bad) := HH.out.box.cellAt 2
    have f1 := HH.out.box.free 1
    have f2 := HH.out.box.free 2
    have hp := HH.out.place
    by_cases hlt : k < 5
    · cases bad
      · obtain ⟨_, rfl, hl0⟩ : false = false ∧ i = k ∧ litP headL b 0 = litP (headL.drop k) b k := by
          rcases HL.out with ⟨h, _⟩ | h
          · cases h
          · exact h
        rw [lit_step b i hlt] at hl0
        have HL0 := Lib.hid hl0
        clear hl0 HL
        have hhc : wr.cell? ⟨w.heap.size, i, none⟩ = some (.int .u8 ((headL[i]'hlt).toNat : Int)) := (HW.out.cellAt i).trans (headA_get i hlt)
        by_cases hil : i < b.length
        · obtain ⟨g, off, rfl, hg, hc⟩ := HH.out.lies i _ (bytesV_get b i hil)
          have d1 : decide ((b.length : Int) ≤ (i : Int)) = false := decide_eq_false (by omega)
          have d2 : decide (b.length ≤ i) = false := decide_eq_false (by omega)
          have d3 : (i : Int) < (b.length : Int) := by omega
          by_cases he : b[i] = headL[i]'hlt
          · have HN : Hid (litP headL b 0 = litP (headL.drop (i + 1)) b (i + 1)) := Lib.hid (by rw [HL0.out, if_pos (by rw [List.getElem?_eq_getElem hil, he])])
            have hq : (((b[i]).toNat : Int) != ((headL[i]'hlt).toNat : Int)) = false := by rw [he]; simp
            generalize (b[i]).toNat = x at *
            generalize (headL[i]'hlt).toNat = y at *
            clear he HL0
            go_wp2_with fail
            go_quiet (fail)
            go_wp2_with fail
            have h2 := fun m => (HH.out.drewN m).setAt (j := i + 1) hil
            go_roundw
            case rel => exact ⟨i + 1, i + 1, false, by omega, by go_num, Lib.hid (h2 _), Lib.hid ((HW.out.drewN _).putFar (p := ⟨r, 1, none⟩) (by show w.heap.size ≠ r; omega) _), Lib.hid ((HK.out.drewN _).setCell (p := ⟨r, 1, none⟩) (fun _ => rfl) _), Lib.hid (Or.inr ⟨rfl, rfl, HN.out⟩)⟩
            case measure => simp [intOf]; omega
          · have HN : Hid (litP headL b 0 = .bad i) := Lib.hid (by rw [HL0.out, if_neg (by rw [List.getElem?_eq_getElem hil]; exact fun h => he (Option.some.inj h))])
            have hq : (((b[i]).toNat : Int) != ((headL[i]'hlt).toNat : Int)) = true := by rw [bne_iff_ne]; exact fun h => he (BitVec.eq_of_toNat_eq (by omega))
            generalize (b[i]).toNat = x at *
            generalize (headL[i]'hlt).toNat = y at *
            clear he HL0
            go_wp2_with fail
            go_quiet (fail)
            go_wp2_with fail
            have h2 := fun m => (HH.out.drewN m).setBad true
            go_roundw
            case rel => exact ⟨i + 1, i, true, by omega, by go_num, Lib.hid (h2 _), Lib.hid ((HW.out.drewN _).putFar (p := ⟨r, 2, none⟩) (by show w.heap.size ≠ r; omega) _), Lib.hid ((HK.out.drewN _).setCell (p := ⟨r, 2, none⟩) (fun _ => rfl) _), Lib.hid (Or.inl ⟨rfl, HN.out⟩)⟩
            case measure => simp [intOf]; omega
        · have HN : Hid (litP headL b 0 = .bad i) := Lib.hid (by rw [HL0.out, if_neg (by rw [List.getElem?_eq_none (by omega)]; exact fun h => by cases h)])
          have d1 : decide ((b.length : Int) ≤ (i : Int)) = true := decide_eq_true (by omega)
          have d2 : decide (b.length ≤ i) = true := decide_eq_true (by omega)
          clear HL0
          go_wp2_with fail
          go_quiet (fail)
          go_wp2_with fail
          have h2 := fun m => (HH.out.drewN m).setBad true
          go_roundw
          case rel => exact ⟨i + 1, i, true, by omega, by go_num, Lib.hid (h2 _), Lib.hid ((HW.out.drewN _).putFar (p := ⟨r, 2, none⟩) (by show w.heap.size ≠ r; omega) _), Lib.hid ((HK.out.drewN _).setCell (p := ⟨r, 2, none⟩) (fun _ => rfl) _), Lib.hid (Or.inl ⟨rfl, HN.out⟩)⟩
          case measure => simp [intOf]; omega
      · have HN : Hid (litP headL b 0 = .bad i) := Lib.hid (by
          rcases HL.out with ⟨_, h⟩ | ⟨h, _⟩
          · exact h
          · cases h)
        clear HL
        go_wp2_with fail
        go_quiet (fail)
        go_wp2_with fail
        go_roundw
        case rel => exact ⟨k + 1, i, true, by omega, by go_num, Lib.hid (HH.out.drewN _), Lib.hid (HW.out.drewN _), Lib.hid (HK.out.drewN _), Lib.hid (Or.inl ⟨rfl, HN.out⟩)⟩
        case measure => simp [intOf]; omega
    · obtain rfl : k = 5 := by omega
      go_wp2_with fail
      go_end0
      refine ⟨rfl, ?_, HK.out⟩
      rcases HL.out with ⟨rfl, h⟩ | ⟨rfl, rfl, h⟩
      · rw [h]; exact HH.out
      · rw [h]; exact HH.out
set_option maxHeartbeats 4000000 in
theorem refOut_any (r B : Nat) (A : Option Addr) (cap i : Nat) (b : List Oct) (bad : Bool) (w : World) (h : RrAt w r B A cap b i bad) (hl : b.length ≤ 1099511627776) :
    Calls Tryd.prog 79 #[.pointer (some ⟨r, 0, none⟩)] w fun e w' => ∃ x : Bool, (∀ y j, flagP.from b i bad = .ok y j → x = y) ∧ e = .returned (.bool x) ∧ RrAt w' r B A cap b (flagP.from b i bad).at_ (flagP.from b i bad).isBad ∧ Keeps (fun k => k = r) w w' := by
  have c0 : w.cell? ⟨r, 0, none⟩ = some (.slice A b.length cap) := h.box.cellAt 0
  have c1 : w.cell? ⟨r, 1, none⟩ = some (.int .i64 i) := h.box.cellAt 1
  have c2 : w.cell? ⟨r, 2, none⟩ = some (.bool bad) := h.box.cellAt 2
  have f2 := h.box.free 2
  have hp := h.place
  have HN := fun w i bad (h : RrAt w r B A cap b i bad) => refNum_any 1 r B A cap i b bad w h hl (by decide) (by decide)
  have H := Lib.hid h
  clear h
  cases bad
  · by_cases hil : i < b.length
    · obtain ⟨g, off, rfl, hg, hc⟩ := H.out.lies i _ (bytesV_get b i hil)
      have hv1 : val ((b.drop i).take 1) = (b[i]).toNat := by
        rw [List.drop_eq_getElem_cons hil, List.take_succ_cons, List.take_zero]; simp [val]
      have hnum : (numP 1).from b i false = .ok ((b[i]).toNat : Int) (i + 1) := by
        show numP 1 b i = _
        unfold numP
        rw [if_pos (by omega), hv1]
      have hflag : flagP.from b i false = if ((b[i]).toNat : Int) = 0 then .ok false (i + 1) else if ((b[i]).toNat : Int) = 1 then .ok true (i + 1) else .bad i := by
        show flagP b i = _
        unfold flagP
        rw [show numP 1 b i = .ok ((b[i]).toNat : Int) (i + 1) from hnum]
      have HNM := Lib.hid hnum
      have HFL := Lib.hid hflag
      have hx := (b[i]).isLt
      clear hv1 hnum hflag
      generalize (b[i]).toNat = x at *
      have d3 : (i : Int) < (b.length : Int) := by omega
      by_cases hx1 : x ≤ 1
      · have hq : decide ((1 : Int) < (x : Int)) = false := decide_eq_false (by omega)
        have hq2 : decide (1 < x) = false := decide_eq_false (by omega)
        have HN1 := fun m => HN (w.drewN m) i false (H.out.drewN m)
        rw [HNM.out] at HN1
        have HNN := Lib.hid HN1
        clear HN1 HN
        go_enter Tryd.func79, Tryd.ntmps79
        go_wp2_with fail
        go_quiet (fail)
        go_wp2_with fail
        refine (HNN.out _).mono ?_
        rintro e w1 ⟨rfl, h1, k1⟩
        simp only [Rd.val]
        have H1 := Lib.hid h1
        have K1 := Lib.hid k1
        clear h1 k1 HNN hq hq2
        rcases (show x = 0 ∨ x = 1 by omega) with rfl | rfl
        · go_wp2_with fail
          go_ret
          exact ⟨false, (fun y j e => by rw [HFL.out] at e; simp at e; exact e.1.symm), rfl, by rw [HFL.out]; exact H1.out, ((Keeps.refl _ w).drewN _).trans K1.out⟩
        · go_wp2_with fail
          go_ret
          exact ⟨true, (fun y j e => by rw [HFL.out] at e; simp at e; exact e.1.symm), rfl, by rw [HFL.out]; exact H1.out, ((Keeps.refl _ w).drewN _).trans K1.out⟩
      · have hq : decide ((1 : Int) < (x : Int)) = true := decide_eq_true (by omega)
        have hq2 : decide (1 < x) = true := decide_eq_true (by omega)
        have h2 := fun m => (H.out.drewN m).setBad true
        have HN1 := fun m => HN _ i true (h2 m)
        have HNN := Lib.hid HN1
        have HFB : Hid (flagP.from b i false = .bad i) := Lib.hid (by rw [HFL.out, if_neg (by omega), if_neg (by omega)])
        have K2 : Hid (∀ m, Keeps (fun k => k = r) w ((w.drewN m).setCell ⟨r, 2, none⟩ (.bool true))) := Lib.hid (fun m => Keeps.setCell (S := fun k => k = r) ((Keeps.refl _ _).drewN _) (fun _ => rfl) _)
        clear HN1 HN h2
        go_enter Tryd.func79, Tryd.ntmps79
        go_wp2_with fail
        go_quiet (fail)
        go_wp2_with fail
        refine (HNN.out _).mono ?_
        rintro e w1 ⟨rfl, h1, k1⟩
        rw [show (numP 1).from b i true = .bad i from rfl] at *
        simp only [Rd.val]
        have H1 := Lib.hid h1
        have K1 := Lib.hid k1
        clear h1 k1 HNN hq hq2
        go_wp2_with fail
        go_ret
        exact ⟨false, (fun y j e => by rw [HFB.out] at e; cases e), rfl, by rw [HFB.out]; exact H1.out, (K2.out _).trans K1.out⟩
    · have hnum : (numP 1).from b i false = .bad i := by
        show numP 1 b i = _
        unfold numP
        rw [if_neg (by omega)]
      have HFB : Hid (flagP.from b i false = .bad i) := Lib.hid (by
        show flagP b i = _
        unfold flagP
        rw [show numP 1 b i = .bad i from hnum])
      have d1 : decide ((i : Int) < (b.length : Int)) = false := decide_eq_false (by omega)
      have d2 : decide (i < b.length) = false := decide_eq_false (by omega)
      have HN1 := fun m => HN (w.drewN m) i false (H.out.drewN m)
      rw [hnum] at HN1
      have HNN := Lib.hid HN1
      clear HN1 HN hnum
      go_enter Tryd.func79, Tryd.ntmps79
      go_wp2_with fail
      go_quiet (fail)
      go_wp2_with fail
      refine (HNN.out _).mono ?_
      rintro e w1 ⟨rfl, h1, k1⟩
      simp only [Rd.val]
      have H1 := Lib.hid h1
      have K1 := Lib.hid k1
      clear h1 k1 HNN
      go_wp2_with fail
      go_ret
      exact ⟨false, (fun y j e => by rw [HFB.out] at e; cases e), rfl, by rw [HFB.out]; exact H1.out, ((Keeps.refl _ w).drewN _).trans K1.out⟩
  · have HN1 := fun m => HN (w.drewN m) i true (H.out.drewN m)
    have HNN := Lib.hid HN1
    clear HN1 HN
    go_enter Tryd.func79, Tryd.ntmps79
    go_wp2_with fail
    go_quiet (fail)
    go_wp2_with fail
    refine (HNN.out _).mono ?_
    rintro e w1 ⟨rfl, h1, k1⟩
    rw [show (numP 1).from b i true = .bad i from rfl] at *
    simp only [Rd.val]
    have H1 := Lib.hid h1
    have K1 := Lib.hid k1
    clear h1 k1 HNN
    go_wp2_with fail
    go_ret
    exact ⟨false, fun y j e => (by cases e), rfl, H1.out, ((Keeps.refl _ w).drewN _).trans K1.out⟩
end Go.Proofs.YthmfbcfbcookiaaDoor
/-
  The reference's state while it is read: what stands in memory; one player, card, zone more; a field set. Conditions: none.
-/
namespace Go.Proofs.YthmfbcfbcookiaaDoor
open Go.RowKit
/-- A state that the reference reads: the reader r, the result's block, the state's, and the lists. -/
structure Rr (w0 w : World) (r B : Nat) (A : Option Addr) (cap : Nat) (b : List Oct) (i : Nat) (bad : Bool) (s : St) (Ap Ac Az : Option Addr) (cp cc cz : Nat) (cells : List Value) : Prop where
  rd : RrAt w r B A cap b i bad
  res : Whole w w0.heap.size 27 #[.slice none 0 0, .slice none 0 0, .slice none 0 0, .int .i32 0, .int .i64 0, .int .i8 0, .int .i64 0]
  box : Whole w (w0.heap.size + 1) 27 (stC s Ap Ac Az cp cc cz)
  lists : CopyIn w w0.heap.size s Ap Ac Az cp cc cz cells
  keeps : Keeps (fun k => k = r) w0 w
  old : r < w0.heap.size
section
variable {w0 w w' : World} {r B cap i : Nat} {A : Option Addr} {b : List Oct} {bad : Bool} {s : St} {Ap Ac Az : Option Addr} {cp cc cz : Nat} {cells : List Value}
/-- Behind a reading: the place turns, and nothing else. -/
theorem Rr.read {j : Nat} {c : Bool} (h : Rr w0 w r B A cap b i bad s Ap Ac Az cp cc cz cells) (hr : RrAt w' r B A cap b j c) (hk : Keeps (fun k => k = r) w w') : Rr w0 w' r B A cap b j c s Ap Ac Az cp cc cz cells := by
  have ho := h.old
  exact ⟨hr, h.res.keeps hk (by omega), h.box.keeps hk (by omega), h.lists.keeps hk (fun b hb e => by omega), h.keeps.trans hk, h.old⟩
theorem Rr.calm (h : Rr w0 w r B A cap b i bad s Ap Ac Az cp cc cz cells) (hk : Keeps (fun _ => False) w w') : Rr w0 w' r B A cap b i bad s Ap Ac Az cp cc cz cells :=
  h.read (h.rd.keeps hk id (fun _ _ => id)) (hk.mono fun _ _ e => e.elim)
end
section
variable {w0 w w' : World} {r B cap i : Nat} {A : Option Addr} {b : List Oct} {bad : Bool} {s : St} {Ap Ac Az : Option Addr} {cp cc cz : Nat} {cells : List Value}
/-- The state's own block is turned: another field. -/
theorem Rr.field {s' : St} {Ap' Ac' Az' : Option Addr} {cp' cc' cz' : Nat} (h : Rr w0 w r B A cap b i bad s Ap Ac Az cp cc cz cells) (k : Nat) (v : Value) (hb : (stC s Ap Ac Az cp cc cz).setIfInBounds k v = stC s' Ap' Ac' Az' cp' cc' cz')
    (hl : CopyIn w w0.heap.size s' Ap' Ac' Az' cp' cc' cz' cells) : Rr w0 (w.setCell ⟨w0.heap.size + 1, k, none⟩ v) r B A cap b i bad s' Ap' Ac' Az' cp' cc' cz' cells := by
  have hk : Keeps (fun x => x = w0.heap.size + 1) w (w.setCell ⟨w0.heap.size + 1, k, none⟩ v) := Keeps.setCell (S := fun x => x = w0.heap.size + 1) (Keeps.refl _ _) (fun _ => rfl) v
  have hT := whole_ofKind h.box
  have hold := h.old
  have hB := h.rd.below
  have hW := h.box.put k v
  rw [hb] at hW
  exact ⟨h.rd.keepsT hk hT (by decide) (fun k hk e => by omega), h.res.keeps hk (by omega), hW, ⟨own_keepsT hl.players hk hT (by decide), own_keepsT hl.cards hk hT (by decide), rows_keepsT hl.zones hk hT (by decide) (by decide)⟩, h.keeps.setCell (p := ⟨w0.heap.size + 1, k, none⟩) (fun h => absurd h (by show ¬ w0.heap.size + 1 < w0.heap.size; omega)) v, h.old⟩
theorem Rr.pushP {A' : Option Addr} {cap' : Nat} {x : Pl} {o : Obj} {w1 : World} (h : Rr w0 w r B A cap b i bad s Ap Ac Az cp cc cz cells)
    (h1 : w1.ownsRow w0.heap.size 75 3 (.slice A' (s.players.length + 1) cap') (s.players.length + 1) (flat Pl.cells s.players ++ x.cells)) (h2 : (w.alloc o).grownBy w1 (Value.slice Ap s.players.length cp).ownBlock) :
    Rr w0 (w1.setCell ⟨w0.heap.size + 1, 0, none⟩ (.slice A' (s.players.length + 1) cap')) r B A cap b i bad { s with players := s.players ++ [x] } A' Ac Az cap' cc cz cells ∧ w1.frozen? ⟨w0.heap.size + 1, 0, none⟩ = false ∧ ∃ u, w1.cell? ⟨w0.heap.size + 1, 0, none⟩ = some u := by
  have hk : Keeps (fun b => (Value.slice Ap s.players.length cp).ownBlock = some b) w w1 := ((Keeps.refl _ w).alloc o).grown h2 (fun k hk _ => hk)
  have hT := own_ofKind h.lists.players
  have hlo : ∀ k, (Value.slice Ap s.players.length cp).ownBlock = some k → w0.heap.size ≤ k := fun k hk => (h.lists.players.lt k hk).1
  have hold := h.old
  have hB := h.rd.below
  have e1 : (s.players ++ [x]).length = s.players.length + 1 := by simp
  have e2 : flat Pl.cells (s.players ++ [x]) = flat Pl.cells s.players ++ x.cells := by simp [flat]
  have hW := whole_keepsT h.box hk hT (by decide)
  have h3 : w1.ownsRow w0.heap.size 75 3 (.slice A' (s.players ++ [x]).length cap') (s.players ++ [x]).length (flat Pl.cells (s.players ++ [x])) := by rw [e1, e2]; exact h1
  have hb : (stC s Ap Ac Az cp cc cz).setIfInBounds 0 (.slice A' (s.players.length + 1) cap') = stC { s with players := s.players ++ [x] } A' Ac Az cap' cc cz := by unfold stC; rw [e1]; rfl
  have hk2 : Keeps (fun x => x = w0.heap.size + 1) w1 (w1.setCell ⟨w0.heap.size + 1, 0, none⟩ (.slice A' (s.players.length + 1) cap')) := Keeps.setCell (S := fun x => x = w0.heap.size + 1) (Keeps.refl _ _) (fun _ => rfl) _
  have hT2 := whole_ofKind hW
  have hW2 := hW.put 0 (.slice A' (s.players.length + 1) cap')
  rw [hb] at hW2
  refine ⟨⟨(h.rd.keepsT hk hT (by decide) (fun k hk e => by have := hlo k e; omega)).keepsT hk2 hT2 (by decide) (fun k hk e => by omega), (whole_keepsT h.res hk hT (by decide)).keeps hk2 (by omega), hW2,
    ⟨own_keepsT (h3) hk2 hT2 (by decide), own_keepsT (own_keepsT h.lists.cards hk hT (by decide)) hk2 hT2 (by decide), rows_keepsT (rows_keepsT h.lists.zones hk hT (by decide) (by decide)) hk2 hT2 (by decide) (by decide)⟩, ?_, h.old⟩, hW.free 0, _, hW.cellAt 0⟩
  exact (h.keeps.and hk (fun k hk e => by have := hlo k e; omega)).setCell (p := ⟨w0.heap.size + 1, 0, none⟩) (fun h => absurd h (by show ¬ w0.heap.size + 1 < w0.heap.size; omega)) _
theorem Rr.pushC {A' : Option Addr} {cap' : Nat} {x : Cd} {o : Obj} {w1 : World} (h : Rr w0 w r B A cap b i bad s Ap Ac Az cp cc cz cells)
    (h1 : w1.ownsRow w0.heap.size 78 6 (.slice A' (s.cards.length + 1) cap') (s.cards.length + 1) (flat Cd.cells s.cards ++ x.cells)) (h2 : (w.alloc o).grownBy w1 (Value.slice Ac s.cards.length cc).ownBlock) :
    Rr w0 (w1.setCell ⟨w0.heap.size + 1, 1, none⟩ (.slice A' (s.cards.length + 1) cap')) r B A cap b i bad { s with cards := s.cards ++ [x] } Ap A' Az cp cap' cz cells ∧ w1.frozen? ⟨w0.heap.size + 1, 1, none⟩ = false ∧ ∃ u, w1.cell? ⟨w0.heap.size + 1, 1, none⟩ = some u := by
  have hk : Keeps (fun b => (Value.slice Ac s.cards.length cc).ownBlock = some b) w w1 := ((Keeps.refl _ w).alloc o).grown h2 (fun k hk _ => hk)
  have hT := own_ofKind h.lists.cards
  have hlo : ∀ k, (Value.slice Ac s.cards.length cc).ownBlock = some k → w0.heap.size ≤ k := fun k hk => (h.lists.cards.lt k hk).1
  have hold := h.old
  have hB := h.rd.below
  have e1 : (s.cards ++ [x]).length = s.cards.length + 1 := by simp
  have e2 : flat Cd.cells (s.cards ++ [x]) = flat Cd.cells s.cards ++ x.cells := by simp [flat]
  have hW := whole_keepsT h.box hk hT (by decide)
  have h3 : w1.ownsRow w0.heap.size 78 6 (.slice A' (s.cards ++ [x]).length cap') (s.cards ++ [x]).length (flat Cd.cells (s.cards ++ [x])) := by rw [e1, e2]; exact h1
  have hb : (stC s Ap Ac Az cp cc cz).setIfInBounds 1 (.slice A' (s.cards.length + 1) cap') = stC { s with cards := s.cards ++ [x] } Ap A' Az cp cap' cz := by unfold stC; rw [e1]; rfl
  have hk2 : Keeps (fun x => x = w0.heap.size + 1) w1 (w1.setCell ⟨w0.heap.size + 1, 1, none⟩ (.slice A' (s.cards.length + 1) cap')) := Keeps.setCell (S := fun x => x = w0.heap.size + 1) (Keeps.refl _ _) (fun _ => rfl) _
  have hT2 := whole_ofKind hW
  have hW2 := hW.put 1 (.slice A' (s.cards.length + 1) cap')
  rw [hb] at hW2
  refine ⟨⟨(h.rd.keepsT hk hT (by decide) (fun k hk e => by have := hlo k e; omega)).keepsT hk2 hT2 (by decide) (fun k hk e => by omega), (whole_keepsT h.res hk hT (by decide)).keeps hk2 (by omega), hW2,
    ⟨own_keepsT (own_keepsT h.lists.players hk hT (by decide)) hk2 hT2 (by decide), own_keepsT (h3) hk2 hT2 (by decide), rows_keepsT (rows_keepsT h.lists.zones hk hT (by decide) (by decide)) hk2 hT2 (by decide) (by decide)⟩, ?_, h.old⟩, hW.free 1, _, hW.cellAt 1⟩
  exact (h.keeps.and hk (fun k hk e => by have := hlo k e; omega)).setCell (p := ⟨w0.heap.size + 1, 1, none⟩) (fun h => absurd h (by show ¬ w0.heap.size + 1 < w0.heap.size; omega)) _
theorem Rr.pushZ {A' Al : Option Addr} {cap' cl : Nat} {x : List Int} {o : Obj} {w1 : World} (h : Rr w0 w r B A cap b i bad s Ap Ac Az cp cc cz cells)
    (hx : w.ownsRow w0.heap.size 3 1 (.slice Al x.length cl) x.length (x.map (Value.int .i64)))
    (h1 : w1.ownsRow w0.heap.size 81 1 (.slice A' (s.zones.length + 1) cap') (s.zones.length + 1) (cells ++ [.slice Al x.length cl])) (h2 : (w.alloc o).grownBy w1 (Value.slice Az s.zones.length cz).ownBlock) :
    Rr w0 (w1.setCell ⟨w0.heap.size + 1, 2, none⟩ (.slice A' (s.zones.length + 1) cap')) r B A cap b i bad { s with zones := s.zones ++ [x] } Ap Ac A' cp cc cap' (cells ++ [.slice Al x.length cl]) ∧ w1.frozen? ⟨w0.heap.size + 1, 2, none⟩ = false ∧ ∃ u, w1.cell? ⟨w0.heap.size + 1, 2, none⟩ = some u := by
  have hk : Keeps (fun b => (Value.slice Az s.zones.length cz).ownBlock = some b) w w1 := ((Keeps.refl _ w).alloc o).grown h2 (fun k hk _ => hk)
  have hT := own_ofKind h.lists.zones.own
  have hlo : ∀ k, (Value.slice Az s.zones.length cz).ownBlock = some k → w0.heap.size ≤ k := fun k hk => (h.lists.zones.own.lt k hk).1
  have hold := h.old
  have hB := h.rd.below
  have e1 : (s.zones ++ [x]).length = s.zones.length + 1 := by simp
  have hW := whole_keepsT h.box hk hT (by decide)
  have hlen : cells.length = s.zones.length := own_length h.lists.zones.own
  have hZ : RowsOwn w1 w0.heap.size (.slice A' (s.zones ++ [x]).length cap') (s.zones ++ [x]) (cells ++ [.slice Al x.length cl]) := by
    refine ⟨by rw [e1]; exact h1, fun j r hj => ?_⟩
    rw [List.getElem?_append] at hj
    split at hj
    · rename_i hjl
      obtain ⟨Ai, ci, hc, ho⟩ := h.lists.zones.row j r hj
      exact ⟨Ai, ci, by rw [List.getElem?_append_left (by omega)]; exact hc, own_keepsT ho hk hT (by decide)⟩
    · rw [List.getElem?_singleton] at hj
      split at hj
      · rename_i hjl hj0
        injection hj with hj
        subst hj
        exact ⟨Al, cl, by rw [List.getElem?_append_right (by omega), hlen, hj0]; rfl, own_keepsT hx hk hT (by decide)⟩
      · cases hj
  have hb : (stC s Ap Ac Az cp cc cz).setIfInBounds 2 (.slice A' (s.zones.length + 1) cap') = stC { s with zones := s.zones ++ [x] } Ap Ac A' cp cc cap' := by unfold stC; rw [e1]; rfl
  have hk2 : Keeps (fun x => x = w0.heap.size + 1) w1 (w1.setCell ⟨w0.heap.size + 1, 2, none⟩ (.slice A' (s.zones.length + 1) cap')) := Keeps.setCell (S := fun x => x = w0.heap.size + 1) (Keeps.refl _ _) (fun _ => rfl) _
  have hT2 := whole_ofKind hW
  have hW2 := hW.put 2 (.slice A' (s.zones.length + 1) cap')
  rw [hb] at hW2
  refine ⟨⟨(h.rd.keepsT hk hT (by decide) (fun k hk e => by have := hlo k e; omega)).keepsT hk2 hT2 (by decide) (fun k hk e => by omega), (whole_keepsT h.res hk hT (by decide)).keeps hk2 (by omega), hW2,
    ⟨own_keepsT (own_keepsT h.lists.players hk hT (by decide)) hk2 hT2 (by decide), own_keepsT (own_keepsT h.lists.cards hk hT (by decide)) hk2 hT2 (by decide), rows_keepsT hZ hk2 hT2 (by decide) (by decide)⟩, ?_, h.old⟩, hW.free 2, _, hW.cellAt 2⟩
  exact (h.keeps.and hk (fun k hk e => by have := hlo k e; omega)).setCell (p := ⟨w0.heap.size + 1, 2, none⟩) (fun h => absurd h (by show ¬ w0.heap.size + 1 < w0.heap.size; omega)) _
end
/-- The entries of a zone, while they are read: a row of their own, in another block than the zones' rows. -/
structure Ry (w0 w : World) (r B : Nat) (A : Option Addr) (cap : Nat) (b : List Oct) (i : Nat) (bad : Bool) (s : St) (Ap Ac Az : Option Addr) (cp cc cz : Nat) (cells : List Value) (xs : List Int) (Al : Option Addr) (cl : Nat) : Prop where
  rr : Rr w0 w r B A cap b i bad s Ap Ac Az cp cc cz cells
  own : w.ownsRow w0.heap.size 3 1 (.slice Al xs.length cl) xs.length (xs.map (Value.int .i64))
  new : ∀ k, (Value.slice Al xs.length cl).ownBlock = some k → ∀ (j : Nat) (u : Value), cells[j]? = some u → u.ownBlock ≠ some k
section
variable {w0 w w' : World} {r B cap i : Nat} {A : Option Addr} {b : List Oct} {bad : Bool} {s : St} {Ap Ac Az : Option Addr} {cp cc cz : Nat} {cells : List Value} {xs : List Int} {Al : Option Addr} {cl : Nat}
theorem Ry.start (h : Rr w0 w r B A cap b i bad s Ap Ac Az cp cc cz cells) : Ry w0 w r B A cap b i bad s Ap Ac Az cp cc cz cells [] none 0 := ⟨h, World.ownsRow_nil _ _ _ _, fun k hk => by cases hk⟩
theorem Ry.read {j : Nat} {c : Bool} (h : Ry w0 w r B A cap b i bad s Ap Ac Az cp cc cz cells xs Al cl) (hr : RrAt w' r B A cap b j c) (hk : Keeps (fun k => k = r) w w') : Ry w0 w' r B A cap b j c s Ap Ac Az cp cc cz cells xs Al cl :=
  ⟨h.rr.read hr hk, own_keepsS h.own hk (fun k hk e => by have := (h.own.lt k hk).1; have := h.rr.old; omega), h.new⟩
theorem Ry.calm (h : Ry w0 w r B A cap b i bad s Ap Ac Az cp cc cz cells xs Al cl) (hk : Keeps (fun _ => False) w w') : Ry w0 w' r B A cap b i bad s Ap Ac Az cp cc cz cells xs Al cl :=
  h.read (h.rr.rd.calm hk) (hk.mono fun _ _ e => e.elim)
/-- One entry more. -/
theorem Ry.push {A' : Option Addr} {cap' : Nat} {x : Int} {o : Obj} {w1 : World} (h : Ry w0 w r B A cap b i bad s Ap Ac Az cp cc cz cells xs Al cl)
    (h1 : w1.ownsRow w0.heap.size 3 1 (.slice A' (xs.length + 1) cap') (xs.length + 1) (xs.map (Value.int .i64) ++ [.int .i64 x])) (h2 : (w.alloc o).grownBy w1 (Value.slice Al xs.length cl).ownBlock)
    (h3 : (Value.slice A' (xs.length + 1) cap').ownBlock = (Value.slice Al xs.length cl).ownBlock ∨ (Value.slice A' (xs.length + 1) cap').ownBlock = some (w.alloc o).heap.size) :
    Ry w0 w1 r B A cap b i bad s Ap Ac Az cp cc cz cells (xs ++ [x]) A' cap' := by
  have hk : Keeps (fun k => (Value.slice Al xs.length cl).ownBlock = some k) w w1 := ((Keeps.refl _ w).alloc o).grown h2 (fun k hk _ => hk)
  have hT := own_ofKind h.own
  have hlo : ∀ k, (Value.slice Al xs.length cl).ownBlock = some k → w0.heap.size ≤ k := fun k hk => (h.own.lt k hk).1
  have hold := h.rr.old
  have hB := h.rr.rd.below
  have e1 : (xs ++ [x]).length = xs.length + 1 := by simp
  have hZ1 : RowsOwn w1 w0.heap.size (.slice Az s.zones.length cz) s.zones cells := ⟨own_keepsT h.rr.lists.zones.own hk hT (by decide), fun j q hj => by
    obtain ⟨Ai, ci, hc, ho⟩ := h.rr.lists.zones.row j q hj
    exact ⟨Ai, ci, hc, own_keepsS ho hk fun k hb hs => h.new k hs j _ hc hb⟩⟩
  refine ⟨⟨h.rr.rd.keepsT hk hT (by decide) (fun k hk e => by have := hlo k e; omega), whole_keepsT h.rr.res hk hT (by decide), whole_keepsT h.rr.box hk hT (by decide),
    ⟨own_keepsT h.rr.lists.players hk hT (by decide), own_keepsT h.rr.lists.cards hk hT (by decide), hZ1⟩, h.rr.keeps.and hk (fun k hk e => by have := hlo k e; omega), h.rr.old⟩, ?_, ?_⟩
  · rw [e1, List.map_append]; exact h1
  · intro k hk3 j u hu
    rw [e1] at hk3
    rcases h3 with e | e
    · exact h.new k (by rw [← e]; exact hk3) j u hu
    · intro hb
      have h4 := RowsOwn.cell_lt h.rr.lists.zones hu hb
      rw [e] at hk3
      injection hk3 with hk3
      rw [World.size_alloc] at hk3
      omega
end
/-- What the reference's reader of a state tells. -/
def RrTells (r B : Nat) (A : Option Addr) (cap : Nat) (b : List Oct) (w : World) (e : Ending) (w' : World) : Prop :=
  ∃ (x : St) (Ap Ac Az : Option Addr) (cp cc cz : Nat) (cells : List Value), (∀ y j, readP b = .ok y j → x = y) ∧ e = .returned (.agg (stC x Ap Ac Az cp cc cz)) ∧ RrAt w' r B A cap b (readP b).at_ (readP b).isBad ∧ CopyIn w' w.heap.size x Ap Ac Az cp cc cz cells ∧ Keeps (fun k => k = r) w w'
section
variable {w0 w w' : World} {r B cap i : Nat} {A : Option Addr} {b : List Oct} {bad : Bool} {s : St} {Ap Ac Az : Option Addr} {cp cc cz : Nat} {cells : List Value}
/-- The state is laid into the result's block. -/
theorem Rr.tells (h : Rr w0 w r B A cap b i bad s Ap Ac Az cp cc cz cells) (cs : Array Value) : RrAt (w.setRow (w0.heap.size) cs) r B A cap b i bad ∧ CopyIn (w.setRow (w0.heap.size) cs) w0.heap.size s Ap Ac Az cp cc cz cells ∧ Keeps (fun k => k = r) w0 (w.setRow (w0.heap.size) cs) := by
  have hk : Keeps (fun x => x = w0.heap.size) w (w.setRow (w0.heap.size) cs) := Keeps.setRow (S := fun x => x = w0.heap.size) (Keeps.refl _ _) (fun _ => rfl) _
  have hT := whole_ofKind h.res
  have hB := h.rd.below
  have ho := h.old
  exact ⟨h.rd.keepsT hk hT (by decide) (fun k hk e => by omega), ⟨own_keepsT h.lists.players hk hT (by decide), own_keepsT h.lists.cards hk hT (by decide), rows_keepsT h.lists.zones hk hT (by decide) (by decide)⟩, h.keeps.setRow (fun h => absurd h (by omega)) _⟩
theorem Rr.ends (h : Rr w0 w r B A cap b i bad s Ap Ac Az cp cc cz cells) (hv : ∀ y j, readP b = .ok y j → s = y) (ha : (readP b).at_ = i) (hb : (readP b).isBad = bad) : RrTells r B A cap b w0 (.returned (.agg (stC s Ap Ac Az cp cc cz))) (w.setRow (w0.heap.size) (stC s Ap Ac Az cp cc cz)) := by
  obtain ⟨h1, h2, h3⟩ := h.tells (stC s Ap Ac Az cp cc cz)
  refine ⟨s, Ap, Ac, Az, cp, cc, cz, cells, hv, rfl, ?_, h2, h3⟩
  rw [ha, hb]
  exact h1
theorem Rr.start (h : RrAt w r B A cap b i bad) : Rr w ((w.alloc (.cells #[.slice none 0 0, .slice none 0 0, .slice none 0 0, .int .i32 0, .int .i64 0, .int .i8 0, .int .i64 0] 27)).alloc (.cells #[.slice none 0 0, .slice none 0 0, .slice none 0 0, .int .i32 0, .int .i64 0, .int .i8 0, .int .i64 0] 27)) r B A cap b i bad zeroSt none none none 0 0 0 [] := by
  have k2 := (Keeps.refl (fun _ => False) w).alloc (.cells #[.slice none 0 0, .slice none 0 0, .slice none 0 0, .int .i32 0, .int .i64 0, .int .i8 0, .int .i64 0] 27)
  have k3 := k2.alloc (.cells #[.slice none 0 0, .slice none 0 0, .slice none 0 0, .int .i32 0, .int .i64 0, .int .i8 0, .int .i64 0] 27)
  have m3 := Whole.made (w.alloc (.cells #[.slice none 0 0, .slice none 0 0, .slice none 0 0, .int .i32 0, .int .i64 0, .int .i8 0, .int .i64 0] 27)) 27 #[.slice none 0 0, .slice none 0 0, .slice none 0 0, .int .i32 0, .int .i64 0, .int .i8 0, .int .i64 0]
  simp only [World.size_alloc] at m3
  exact ⟨h.calm k3, (Whole.made w _ _).alloc _, m3, ⟨World.ownsRow_nil _ _ _ _, World.ownsRow_nil _ _ _ _, RowsOwn.nil _ _⟩, k3.mono fun _ _ e => e.elim, h.box.inside⟩
theorem Rr.setAt {j : Nat} (h : Rr w0 w r B A cap b i bad s Ap Ac Az cp cc cz cells) (hj : j ≤ b.length) : Rr w0 (w.setCell ⟨r, 1, none⟩ (.int .i64 j)) r B A cap b j bad s Ap Ac Az cp cc cz cells :=
  h.read (h.rd.setAt hj) (Keeps.setCell (S := fun k => k = r) (Keeps.refl _ _) (fun _ => rfl) _)
theorem Rr.setBad (h : Rr w0 w r B A cap b i bad s Ap Ac Az cp cc cz cells) (c : Bool) : Rr w0 (w.setCell ⟨r, 2, none⟩ (.bool c)) r B A cap b i c s Ap Ac Az cp cc cz cells :=
  h.read (h.rd.setBad c) (Keeps.setCell (S := fun k => k = r) (Keeps.refl _ _) (fun _ => rfl) _)
end
/-- The numbers that the reader of a state comes by, from a place on, with or without a fault. -/
structure StepsG (b : List Oct) (i0 : Nat) (b0 : Bool) (n m : Nat) (i1 i2 i3 i4 i5 i6 i7 i8 i9 : Nat) (b1 b2 b3 b4 b5 b6 b7 b8 b9 : Bool) : Prop where
  cn : (((numP 1).from b i0 b0).val 0).toNat = n
  a1 : ((numP 1).from b i0 b0).at_ = i1
  c1 : ((numP 1).from b i0 b0).isBad = b1
  a2 : ((repP playerP n).from b i1 b1).at_ = i2
  c2 : ((repP playerP n).from b i1 b1).isBad = b2
  cm : (((numP 2).from b i2 b2).val 0).toNat = m
  a3 : ((numP 2).from b i2 b2).at_ = i3
  c3 : ((numP 2).from b i2 b2).isBad = b3
  a4 : ((repP cardP m).from b i3 b3).at_ = i4
  c4 : ((repP cardP m).from b i3 b3).isBad = b4
  a5 : ((repP zoneP (4 * n)).from b i4 b4).at_ = i5
  c5 : ((repP zoneP (4 * n)).from b i4 b4).isBad = b5
  a6 : ((numP 4).from b i5 b5).at_ = i6
  c6 : ((numP 4).from b i5 b5).isBad = b6
  a7 : ((numP 1).from b i6 b6).at_ = i7
  c7 : ((numP 1).from b i6 b6).isBad = b7
  a8 : ((numP 1).from b i7 b7).at_ = i8
  c8 : ((numP 1).from b i7 b7).isBad = b8
  a9 : ((numP 1).from b i8 b8).at_ = i9
  c9 : ((numP 1).from b i8 b8).isBad = b9
theorem StepsG.ok {b : List Oct} {n m i1 i2 i3 i4 i5 i6 i7 i8 i9 : Nat} {b1 b2 b3 b4 b5 b6 b7 b8 b9 : Bool} (h : StepsG b 5 false n m i1 i2 i3 i4 i5 i6 i7 i8 i9 b1 b2 b3 b4 b5 b6 b7 b8 b9) : Steps b n m i1 i2 i3 i4 i5 i6 i7 i8 i9 b1 b2 b3 b4 b5 b6 b7 b8 b9 :=
  ⟨h.cn, h.a1, h.c1, h.a2, h.c2, h.cm, h.a3, h.c3, h.a4, h.c4, h.a5, h.c5, h.a6, h.c6, h.a7, h.c7, h.a8, h.c8, h.a9, h.c9⟩
theorem StepsG.bad {b : List Oct} {i0 n m i1 i2 i3 i4 i5 i6 i7 i8 i9 : Nat} {b1 b2 b3 b4 b5 b6 b7 b8 b9 : Bool} (h : StepsG b i0 true n m i1 i2 i3 i4 i5 i6 i7 i8 i9 b1 b2 b3 b4 b5 b6 b7 b8 b9) : i9 = i0 ∧ b9 = true := by
  have f : ∀ {α : Type} (p : Pr α) (i : Nat), p.from b i true = .bad i := fun p i => rfl
  have h1 := h.a1; have g1 := h.c1; rw [f] at h1 g1; simp only [Rd.at_, Rd.isBad] at h1 g1; subst h1 g1
  have h1 := h.a2; have g1 := h.c2; rw [f] at h1 g1; simp only [Rd.at_, Rd.isBad] at h1 g1; subst h1 g1
  have h1 := h.a3; have g1 := h.c3; rw [f] at h1 g1; simp only [Rd.at_, Rd.isBad] at h1 g1; subst h1 g1
  have h1 := h.a4; have g1 := h.c4; rw [f] at h1 g1; simp only [Rd.at_, Rd.isBad] at h1 g1; subst h1 g1
  have h1 := h.a5; have g1 := h.c5; rw [f] at h1 g1; simp only [Rd.at_, Rd.isBad] at h1 g1; subst h1 g1
  have h1 := h.a6; have g1 := h.c6; rw [f] at h1 g1; simp only [Rd.at_, Rd.isBad] at h1 g1; subst h1 g1
  have h1 := h.a7; have g1 := h.c7; rw [f] at h1 g1; simp only [Rd.at_, Rd.isBad] at h1 g1; subst h1 g1
  have h1 := h.a8; have g1 := h.c8; rw [f] at h1 g1; simp only [Rd.at_, Rd.isBad] at h1 g1; subst h1 g1
  have h1 := h.a9; have g1 := h.c9; rw [f] at h1 g1; simp only [Rd.at_, Rd.isBad] at h1 g1; subst h1 g1
  exact ⟨rfl, rfl⟩
end Go.Proofs.YthmfbcfbcookiaaDoor
/-
  The reference's reader of a state: plain laws; a cut around a loop. Conditions: none.
-/
namespace Go.Proofs.YthmfbcfbcookiaaDoor
open Go.RowKit
theorem wp_cut_in {P : Program} {s : Code} {m : Nat} {K : Act → World → Prop} {Q' : Exit → Act → World → Prop} {a : Act} {w : World} (R : Act → World → Prop)
    (rest : ∀ a' w', R a' w' → K a' w')
    (first : ∀ K' : Act → World → Prop, (∀ a' w', Met R a' w' → K' a' w') → s.wp P (Exit.inBlock m (Exit.then K' Q')) a w) : s.wp P (Exit.inBlock m (Exit.then K Q')) a w := by
  refine Code.wp_mono ?_ (first R (fun _ _ q => q))
  intro e a' w' hq
  cases e with
  | normal => exact rest _ _ hq
  | exit id =>
    simp only [Exit.inBlock] at hq ⊢
    split at hq
    · rename_i h; rw [if_pos h]; exact rest _ _ hq
    · rename_i h; rw [if_neg h]; exact hq
  | goto l => exact hq
  | ret => exact hq
  | panic ch => exact hq
  | outgrown => exact hq
/-- The frame of the reader of a state, between two of its loops. -/
def FrS (r g n : Nat) (a : Act) : Prop := ∀ M : Act → Prop, (∀ u1 u5 u6 u7 u8 u9 u10 u11 u12 u13 u14 u15 u16 u17 u18 u19 u20 u21 u22 u23 u24 u25 u26 u27 u28 u29 u30 u31 u32 u33 u34 u35 u36 u37 u38 u39 u40 u41 u42 u43 u44 u45 u46 u47 u48 u49 u50 u51 u52 u53 u54 u55 u56 u57 u58 u59 u60 u61 u62 u63 u64 u65 u66 u67 u68 u69 u70 u71 u72 u73 u74 u75 u76 u77 u78 u79 u80 u81 u82 u83 u84 u85 u86 u87 u88 u89 u90 u91 u92 u93 u94 u95 u96 u97 u98 u99 u100 u101 u102 u103 u104 u105 u106 u107 u108 u109 u110 u111 u112 u113 u114 u115 u116 u117 u118 u119 u120 u121 u122 u123 u124 u125 u126 u127 u128 u129 u130 u131 u132 u133 u134 u135 u136 u137 u138 u139 u140 u141 u142 u143 u144 u145 u146 u147 u148 u149 u150 u151 u152 u153 u154 u155 u156 u157 u158 u159 u160 u161 : Value, M { tmps := #[.pointer (some ⟨r, 0, none⟩), u1, .pointer (some ⟨g, 0, none⟩), .pointer (some ⟨g + 1, 0, none⟩), .int .i64 n, u5, u6, u7, u8, u9, u10, u11, u12, u13, u14, u15, u16, u17, u18, u19, u20, u21, u22, u23, u24, u25, u26, u27, u28, u29, u30, u31, u32, u33, u34, u35, u36, u37, u38, u39, u40, u41, u42, u43, u44, u45, u46, u47, u48, u49, u50, u51, u52, u53, u54, u55, u56, u57, u58, u59, u60, u61, u62, u63, u64, u65, u66, u67, u68, u69, u70, u71, u72, u73, u74, u75, u76, u77, u78, u79, u80, u81, u82, u83, u84, u85, u86, u87, u88, u89, u90, u91, u92, u93, u94, u95, u96, u97, u98, u99, u100, u101, u102, u103, u104, u105, u106, u107, u108, u109, u110, u111, u112, u113, u114, u115, u116, u117, u118, u119, u120, u121, u122, u123, u124, u125, u126, u127, u128, u129, u130, u131, u132, u133, u134, u135, u136, u137, u138, u139, u140, u141, u142, u143, u144, u145, u146, u147, u148, u149, u150, u151, u152, u153, u154, u155, u156, u157, u158, u159, u160, u161], defers := [] }) → M a
/-- Between two loops: the frame, and what holds of the world. -/
def CutAt (r g n : Nat) (T : World → Prop) (a : Act) (w : World) : Prop := FrS r g n a ∧ T w
theorem FrS.rest {r g n : Nat} {K : Act → World → Prop} {T : World → Prop} (h : ∀ (w' : World), T w' → ∀ u1 u5 u6 u7 u8 u9 u10 u11 u12 u13 u14 u15 u16 u17 u18 u19 u20 u21 u22 u23 u24 u25 u26 u27 u28 u29 u30 u31 u32 u33 u34 u35 u36 u37 u38 u39 u40 u41 u42 u43 u44 u45 u46 u47 u48 u49 u50 u51 u52 u53 u54 u55 u56 u57 u58 u59 u60 u61 u62 u63 u64 u65 u66 u67 u68 u69 u70 u71 u72 u73 u74 u75 u76 u77 u78 u79 u80 u81 u82 u83 u84 u85 u86 u87 u88 u89 u90 u91 u92 u93 u94 u95 u96 u97 u98 u99 u100 u101 u102 u103 u104 u105 u106 u107 u108 u109 u110 u111 u112 u113 u114 u115 u116 u117 u118 u119 u120 u121 u122 u123 u124 u125 u126 u127 u128 u129 u130 u131 u132 u133 u134 u135 u136 u137 u138 u139 u140 u141 u142 u143 u144 u145 u146 u147 u148 u149 u150 u151 u152 u153 u154 u155 u156 u157 u158 u159 u160 u161 : Value, K { tmps := #[.pointer (some ⟨r, 0, none⟩), u1, .pointer (some ⟨g, 0, none⟩), .pointer (some ⟨g + 1, 0, none⟩), .int .i64 n, u5, u6, u7, u8, u9, u10, u11, u12, u13, u14, u15, u16, u17, u18, u19, u20, u21, u22, u23, u24, u25, u26, u27, u28, u29, u30, u31, u32, u33, u34, u35, u36, u37, u38, u39, u40, u41, u42, u43, u44, u45, u46, u47, u48, u49, u50, u51, u52, u53, u54, u55, u56, u57, u58, u59, u60, u61, u62, u63, u64, u65, u66, u67, u68, u69, u70, u71, u72, u73, u74, u75, u76, u77, u78, u79, u80, u81, u82, u83, u84, u85, u86, u87, u88, u89, u90, u91, u92, u93, u94, u95, u96, u97, u98, u99, u100, u101, u102, u103, u104, u105, u106, u107, u108, u109, u110, u111, u112, u113, u114, u115, u116, u117, u118, u119, u120, u121, u122, u123, u124, u125, u126, u127, u128, u129, u130, u131, u132, u133, u134, u135, u136, u137, u138, u139, u140, u141, u142, u143, u144, u145, u146, u147, u148, u149, u150, u151, u152, u153, u154, u155, u156, u157, u158, u159, u160, u161], defers := [] } w') : ∀ a' w', CutAt r g n T a' w' → K a' w' := fun _ w' ⟨hf, ht⟩ => hf (fun x => K x w') (h w' ht)
/-- The players are read. -/
def CutP (w : World) (r B : Nat) (A : Option Addr) (cap : Nat) (b : List Oct) (n i1 : Nat) (b1 : Bool) (i2 : Nat) (b2 : Bool) (wc : World) : Prop := ∃ (ps : List Pl) (Ap : Option Addr) (cp : Nat), ps.length ≤ n ∧ Hid (Rr w wc r B A cap b i2 b2 { zeroSt with players := ps } Ap none none cp 0 0 []) ∧ Hid (∀ l j, (repP playerP n).from b i1 b1 = .ok l j → ps = l)
/-- The cards are read. -/
def CutC (w : World) (r B : Nat) (A : Option Addr) (cap : Nat) (b : List Oct) (m : Nat) (ps : List Pl) (Ap : Option Addr) (cp : Nat) (i3 : Nat) (b3 : Bool) (i4 : Nat) (b4 : Bool) (wc : World) : Prop := ∃ (cs : List Cd) (Ac : Option Addr) (cc : Nat), cs.length ≤ m ∧ Hid (Rr w wc r B A cap b i4 b4 { zeroSt with players := ps, cards := cs } Ap Ac none cp cc 0 []) ∧ Hid (∀ l j, (repP cardP m).from b i3 b3 = .ok l j → cs = l)
/-- The zones are read. -/
def CutZ (w : World) (r B : Nat) (A : Option Addr) (cap : Nat) (b : List Oct) (m : Nat) (ps : List Pl) (cs : List Cd) (Ap Ac : Option Addr) (cp cc : Nat) (i4 : Nat) (b4 : Bool) (i5 : Nat) (b5 : Bool) (wc : World) : Prop := ∃ (zs : List (List Int)) (Az : Option Addr) (cz : Nat) (cells : List Value), Hid (Rr w wc r B A cap b i5 b5 { zeroSt with players := ps, cards := cs, zones := zs } Ap Ac Az cp cc cz cells) ∧ Hid (∀ l j, (repP zoneP m).from b i4 b4 = .ok l j → zs = l)
theorem num_nat {k : Nat} (hk : k ≤ 4) (b : List Oct) (i : Nat) (bad : Bool) : ∃ y : Nat, ((numP k).from b i bad).val 0 = (y : Int) ∧ y < 256 ^ k ∧ y < 4294967296 := by
  cases bad
  · show ∃ y : Nat, (numP k b i).val 0 = (y : Int) ∧ _
    unfold numP
    split
    · rename_i hl
      have h1 := val_lt ((b.drop i).take k)
      rw [List.length_take, List.length_drop, Nat.min_eq_left (by omega)] at h1
      have h2 : 256 ^ k ≤ 256 ^ 4 := Nat.pow_le_pow_right (by decide) hk
      exact ⟨_, rfl, h1, by omega⟩
    · exact ⟨0, rfl, Nat.pow_pos (by decide), by decide⟩
  · exact ⟨0, rfl, Nat.pow_pos (by decide), by decide⟩
theorem litP_len (l : List Oct) : ∀ (b : List Oct) (i j : Nat), litP l b i = .ok () j → j = i + l.length := by
  induction l with
  | nil => intro b i j h; injection h with _ h; simp; omega
  | cons c l ih =>
    intro b i j h
    unfold litP at h
    split at h
    · have := ih _ _ _ h; simp; omega
    · cases h
theorem read_of {b : List Oct} {i0 n m i1 i2 i3 i4 i5 i6 i7 i8 i9 : Nat} {b0 b1 b2 b3 b4 b5 b6 b7 b8 b9 : Bool} (h : StepsG b i0 b0 n m i1 i2 i3 i4 i5 i6 i7 i8 i9 b1 b2 b3 b4 b5 b6 b7 b8 b9) (hi : i0 = (litP headL b 0).at_) (hb : b0 = (litP headL b 0).isBad) :
    (b9 = true → readP b = .bad i9) ∧ (b9 = false → i9 < b.length → readP b = .bad i9) ∧ (b9 = false → ¬ i9 < b.length → i0 = 5 ∧ b0 = false ∧ readP b = restP.from b 5 false ∧ (readP b).at_ = i9 ∧ (readP b).isBad = false) := by
  cases hl : litP headL b 0 with
  | bad q =>
    rw [hl] at hi hb
    simp only [Rd.at_, Rd.isBad] at hi hb
    subst hb
    obtain ⟨e1, e2⟩ := h.bad
    subst hi
    rw [e1, e2]
    refine ⟨fun _ => read_bad0 hl, fun h => (by cases h), fun h => (by cases h)⟩
  | ok u j =>
    have hj := litP_len _ _ _ _ hl
    rw [hl] at hi hb
    simp only [Rd.at_, Rd.isBad] at hi hb
    have e5 : j = 5 := by rw [hj]; rfl
    subst e5 hi hb
    obtain ⟨e1, e2⟩ := h.ok.ends
    have hs := state_rest (b := b) hl
    refine ⟨fun h9 => ?_, fun h9 hlt => ?_, fun h9 hge => ?_⟩
    · subst h9
      rcases isBad_iff (restP.from b 5 false) with ⟨_, h1⟩ | ⟨h1, _⟩
      · rw [e1] at h1
        unfold readP
        rw [hs, h1]
      · rw [e2] at h1; cases h1
    · exact read_lt hs e1 hlt
    · have hr := read_ge hs (by rw [e1]; exact hge)
      exact ⟨rfl, rfl, hr, by rw [hr, e1], by rw [hr, e2, h9]⟩
section
variable {w0 wo w w' : World} {r B cap i io : Nat} {A : Option Addr} {b : List Oct} {bad bado : Bool} {s : St} {Ap Ac Az : Option Addr} {cp cc cz : Nat} {cells : List Value} {xs : List Int} {Al : Option Addr} {cl : Nat}
/-- What turns blocks that are newer than those of the state leaves it. -/
theorem Rr.past {S : Nat → Prop} (ho : Rr w0 wo r B A cap b io bado s Ap Ac Az cp cc cz cells) (h : Rr w0 w r B A cap b i bad s Ap Ac Az cp cc cz cells) (hk : Keeps S w w') (hS : ∀ k, S k → wo.heap.size ≤ k) : Rr w0 w' r B A cap b i bad s Ap Ac Az cp cc cz cells := by
  have h1 := ho.rd.box.inside
  have h2 := ho.rd.below
  have h3 := ho.res.inside
  have h4 := ho.box.inside
  refine ⟨h.rd.keeps hk (fun e => by have := hS _ e; omega) (fun k hk' e => by have := hS _ e; omega), h.res.keeps hk (fun e => by have := hS _ e; omega), h.box.keeps hk (fun e => by have := hS _ e; omega), ⟨own_keepsS h.lists.players hk (fun k hb e => by have := hS _ e; have := (ho.lists.players.lt k hb).2; omega), own_keepsS h.lists.cards hk (fun k hb e => by have := hS _ e; have := (ho.lists.cards.lt k hb).2; omega), ⟨own_keepsS h.lists.zones.own hk (fun k hb e => by have := hS _ e; have := (ho.lists.zones.own.lt k hb).2; omega), fun j q hj => ?_⟩⟩, h.keeps.and hk (fun k hk' e => by have := hS _ e; have := ho.keeps.size; omega), h.old⟩
  obtain ⟨Ai, ci, hc, hq⟩ := h.lists.zones.row j q hj
  exact ⟨Ai, ci, hc, own_keepsS hq hk (fun k hb e => by have := hS _ e; have := RowsOwn.cell_lt ho.lists.zones hc hb; omega)⟩
end
theorem Rr.set {w0 wo w : World} {r B cap i io : Nat} {A : Option Addr} {b : List Oct} {bad bado : Bool} {s : St} {Ap Ac Az : Option Addr} {cp cc cz : Nat} {cells : List Value} (ho : Rr w0 wo r B A cap b io bado s Ap Ac Az cp cc cz cells) (h : Rr w0 w r B A cap b i bad s Ap Ac Az cp cc cz cells) {g : Nat} (hg : wo.heap.size ≤ g) (k : Nat) (v : Value) : Rr w0 (w.setCell ⟨g, k, none⟩ v) r B A cap b i bad s Ap Ac Az cp cc cz cells :=
  Rr.past ho h (S := fun x => x = g) (Keeps.setCell (S := fun x => x = g) (Keeps.refl _ _) (fun _ => rfl) v) (fun k e => by omega)
end Go.Proofs.YthmfbcfbcookiaaDoor
