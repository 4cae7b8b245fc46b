/-
  The walk of Shuffle over one function value (order). Conditions: none.
-/
import Derived.Test.YtalngbdjabjahaaDoorShuf
import Derived.Test.YtalngbdjabjahaaDoorDiceC
namespace Go.Proofs.YtalngbdjabjahaaDoor
open Go.RowKit
section
variable {σ : Type} (ans : σ → Nat → Int × Bool) (nxt : σ → Nat → σ)
theorem shuffleO_no (n : Int) (p : Value) (w : World) (h : n < 0 ∨ 65536 < n) :
    Calls Tryd.prog 5 #[.int .i64 n, .func (.func 54) #[] #[p]] w fun e w' => e = .returned (.tuple #[.slice none 0 0, .bool false]) ∧ w = w' := by
  by_cases h0 : n < 0
  · go_enter Tryd.func5, Tryd.ntmps5
    go_wp2_with fail
    go_ret2
    exact ⟨rfl, rfl⟩
  · have h1 : 65536 < n := by omega
    go_enter Tryd.func5, Tryd.ntmps5
    go_wp2_with fail
    go_ret2
    exact ⟨rfl, rfl⟩
set_option maxHeartbeats 2000000 in
set_option maxRecDepth 100000 in
theorem shuffleO_any (Inv : σ → World → Prop) (S : Nat → Prop) (n : Nat) (p : Value) (s0 : σ) (w : World) (hn : n ≤ 65536)
    (P : σ → Nat → Prop) (hP0 : Hid (P s0 n)) (hPs : Hid (∀ s i, P s (i + 2) → P (nxt s (i + 2)) (i + 1)))
    (hask : ∀ (s : σ) (k : Nat) (w1 : World), 2 ≤ k → k ≤ n → P s k → Inv s w1 → w.heap.size < w1.heap.size → Calls Tryd.prog 54 #[.int .i64 (k), p] w1 fun e w2 =>
      e = .returned (.tuple #[.int .i64 (ans s k).1, .bool (ans s k).2]) ∧ Inv (nxt s k) w2 ∧ Keeps (fun b => S b ∧ b ≠ w.heap.size) w1 w2)
    (hfar : ∀ (s : σ) (w1 w2 : World), Inv s w1 → Keeps (fun b => b = w.heap.size) w1 w2 → Inv s w2)
    (hstart : Inv s0 (w.alloc (.cells (madeCells #[.int .i64 0] n) 3))) (R : Option (List Int) × σ) (hR : Hid (shuf ans nxt (n - 1) (rng n) s0 = R)) :
    Calls Tryd.prog 5 #[.int .i64 n, .func (.func 54) #[] #[p]] w (ShPost Inv S n w R) := by
  have hmk : ∀ w : World, (Instr.makeSlice 27 (.int .i64 (n : Int)) (.int .i64 (n : Int))).run Tryd.prog w = .ok (.slice (some ⟨w.heap.size, 0, none⟩) n n) (w.alloc (.cells (madeCells #[.int .i64 0] n) 3)) := fun w => run_make_row' 27 3 (.int .i64 0) 8 Tryd.underlying27 info_int rfl .i64 .i64 n (by omega) (by omega) w
  go_enter Tryd.func5, Tryd.ntmps5
  go_wp2_with fail
  go_loopw [21] (fun v wr => ∃ k : Nat, k ≤ n ∧ v = .int .i64 k ∧ Whole wr w.heap.size 3 (fillTo n (fun i => .int .i64 (i : Int)) (.int .i64 0) k) ∧ Keeps (fun b => b = w.heap.size) (w.alloc (.cells (madeCells #[.int .i64 0] n) 3)) wr) (fun v _ => n - (intOf v).toNat)
  case atStart =>
    refine ⟨0, by omega, rfl, ?_, Keeps.refl _ _⟩
    rw [← fillTo_zero]
    exact Whole.made _ _ _
  case round =>
    obtain ⟨k, hk, rfl, hw, hkeep⟩ := hrel
    by_cases hlt : k < n
    · have hcell : wr.cell? ⟨w.heap.size, k, none⟩ = some (.int .i64 0) := (hw.cellAt k).trans (fillTo_here n _ _ k hlt)
      have hfree := hw.free k
      have HW := Lib.hid hw; clear hw
      have HK := Lib.hid hkeep; clear hkeep
      go_wp2_with fail
      go_roundw
      case rel =>
        refine ⟨k + 1, by omega, by go_num, ?_, HK.out.setCell (fun _ => rfl) _⟩
        rw [← fillTo_step]
        exact HW.out.put k _
      case measure => simp [intOf]; omega
    · obtain rfl : k = n := by omega
      rw [fillTo_full, ints_rng] at hw
      have HI := Lib.hid (hfar s0 _ _ hstart hkeep)
      have HK : Hid (Keeps S w wr) := Lib.hid (((Keeps.refl _ w).alloc _).and hkeep (fun b hb e => absurd hb (by omega)))
      have hsz : w.heap.size < wr.heap.size := hw.inside
      have HW := Lib.hid hw; clear hw hkeep hmk hstart
      have HR := hR; clear hR
      have hl0 := Lib.hid (rng_length k)
      generalize rng k = l0 at *
      go_wp2_with fail
      go_loopw [8] (fun v wr => ∃ (i : Nat) (l : List Int) (s : σ), i ≤ k ∧ v = .int .i64 ((i : Int) - 1) ∧ Hid (P s i) ∧ Hid (l.length = k) ∧ Hid (shuf ans nxt (i - 1) l s = R) ∧ Hid (Inv s wr) ∧ Hid (Whole wr w.heap.size 3 (ints l)) ∧ Hid (Keeps S w wr) ∧ w.heap.size < wr.heap.size) (fun v _ => (intOf v + 1).toNat)
      case atStart => exact ⟨k, l0, s0, by omega, rfl, hP0, hl0, HR, HI, HW, HK, hsz⟩
      case round =>
        clear HI HW HK HR hl0 hsz
        obtain ⟨i, l, s, hi, rfl, hPi, hl, HR, HI, HW, HK, hsz⟩ := hrel
        by_cases h1 : i ≤ 1
        · have hz : i - 1 = 0 := by omega
          have HR' := HR.out
          rw [hz, shuf_zero] at HR'
          have HR'' := Lib.hid HR'; clear HR' hz
          go_wp2_with fail
          go_ret2
          exact shPost_some HR''.out HI.out HK.out hsz HW.out hl.out
        · obtain ⟨m, rfl⟩ : ∃ m, i = m + 2 := ⟨i - 2, by omega⟩
          have HA := Lib.hid (hask s (m + 2) wr (by omega) (by omega) hPi.out HI.out hsz)
          have HR1 : Hid (shuf ans nxt (m + 1) l s = R) := HR
          have hno := Lib.hid (fun h => (shuf_no ans nxt (i := m) (l := l) (s := s) h).symm.trans HR1.out)
          have hyes := Lib.hid (fun h => (shuf_yes ans nxt (i := m) (l := l) (s := s) h).symm.trans HR1.out)
          have hPn := Lib.hid (hPs.out _ _ hPi.out)
          clear HI HR HR1 hask
          generalize ans s (m + 2) = r at *
          generalize nxt s (m + 2) = s' at *
          obtain ⟨j, b⟩ := r
          go_wp2_with fail
          refine (HA.out).mono ?_
          rintro e w2 ⟨rfl, hI2, hK2⟩
          have HI2 := Lib.hid hI2
          have HW2 := Lib.hid (HW.out.keeps hK2 (fun h => h.2 rfl))
          have HK2 : Hid (Keeps S w w2) := Lib.hid (HK.out.trans (hK2.mono fun _ _ h => h.1))
          have hsz2 := Nat.lt_of_lt_of_le hsz hK2.size
          clear hI2 hK2 HA HW HK hsz
          cases b with
          | false =>
            go_wp2_with fail
            go_ret2
            exact shPost_none (hno.out rfl) HI2.out HK2.out hsz2
          | true =>
            by_cases hj0 : j < 0
            · go_wp2_with fail
              go_ret2
              exact shPost_none (hno.out (by simp [okAns]; omega)) HI2.out HK2.out hsz2
            · by_cases hj1 : (m : Int) + 1 < j
              · go_wp2_with fail
                go_ret2
                exact shPost_none (hno.out (by simp [okAns]; omega)) HI2.out HK2.out hsz2
              · obtain ⟨q, rfl⟩ : ∃ q : Nat, j = (q : Int) := ⟨j.toNat, by omega⟩
                have HR0 := hyes.out (by simp [okAns]; omega)
                rw [show (((q : Int), true) : Int × Bool).1.toNat = q from rfl] at HR0
                have HR := Lib.hid HR0
                clear hyes hno HR0
                have hlen := hl.out
                have c1 : w2.cell? ⟨w.heap.size, m + 1, none⟩ = some (.int .i64 (l.getD (m + 1) 0)) := (HW2.out.cellAt _).trans (ints_at l _ (by omega))
                have c2 : w2.cell? ⟨w.heap.size, q, none⟩ = some (.int .i64 (l.getD q 0)) := (HW2.out.cellAt _).trans (ints_at l _ (by omega))
                have f1 := HW2.out.free (m + 1)
                have f2 := HW2.out.free q
                have c3 := cell_put HW2.out (m + 1) q (by omega)
                have f3 := free_put HW2.out (m + 1) q (l.getD q 0)
                have HP := Lib.hid (whole_swp HW2.out (m + 1) q)
                have HLs : Hid ((swp l (m + 1) q).length = k) := Lib.hid (by rw [swp_length]; exact hlen)
                clear hlen hl HW2
                generalize l.getD (m + 1) 0 = x1 at *
                generalize l.getD q 0 = x2 at *
                generalize swp l (m + 1) q = l2 at *
                go_wp2_with fail
                go_region
                go_wp2_with fail
                go_roundw
                case rel => exact ⟨m + 1, l2, s', by omega, by go_num, hPn, HLs, HR, Lib.hid (hfar _ _ _ HI2.out ((((Keeps.refl (fun b => b = w.heap.size) w2).setCell (fun _ => rfl) _).setCell (fun _ => rfl) _).drew)), Lib.hid HP.out, Lib.hid ((HK2.out.setCell (fun h => absurd h (Nat.lt_irrefl _)) _).setCell (fun h => absurd h (Nat.lt_irrefl _)) _).drew, by simpa using hsz2⟩
                case measure => simp [intOf]; omega
end
end Go.Proofs.YtalngbdjabjahaaDoor
