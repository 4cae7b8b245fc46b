/-
  The marked copies of a list of cards: the walk. Conditions: a length within 10 ^ 9.
-/
import Derived.Test.YthmfbcfbcookiaaGreatDoorWMd
namespace Go.Proofs.YthmfbcfbcookiaaGreatDoor
open Go.RowKit
set_option maxHeartbeats 1000000 in
theorem wideCards_any (xs : List Cd) (A : Option Addr) (cap : Nat) (w : World) (hx : CdLies w w.heap.size A xs) (hl : xs.length ≤ 1000000000) :
    Calls Tryz.prog 21 #[.slice A xs.length cap] w fun e w' => e = .returned (.slice (some ⟨w.heap.size, 0, none⟩) xs.length (xs.length + 64)) ∧ Whole w' w.heap.size 42 (flat Cd.cells (wideCd xs)).toArray ∧ Keeps (fun _ => False) w w' := by
  have HX := Lib.hid hx; clear hx
  have hmk : ∀ w : World, (Instr.makeSlice 23 (.int .i64 ((xs.length : Int) + 64)) (.int .i64 ((xs.length : Int) + 64))).run Tryz.prog w = .ok (.slice (some ⟨w.heap.size, 0, none⟩) (xs.length + 64) (xs.length + 64)) (w.alloc (.cells (madeCells #[.int .i64 0, .int .i64 0, .int .i32 0, .int .i32 0, .int .i32 0, .int .i32 0] ((xs.length + 64) * 6)) 42)) := fun w => make_rows 23 42 _ 6 32 Tryz.underlying23 info_cd (xs.length + 64) (by omega) (by omega) w
  go_enter Tryz.func21, Tryz.ntmps21
  go_wp2_with fail
  clear hmk
  have hms : (madeCells #[.int .i64 0, .int .i64 0, .int .i32 0, .int .i32 0, .int .i32 0, .int .i32 0] ((xs.length + 64) * 6)).size = (flat Cd.cells (wideCd xs)).toArray.size := by rw [size_madeCells, List.size_toArray, flat_length (k := 6) (fun _ => rfl), wideCd_length]
  have HW0 := Lib.hid (Whole.made w 42 (madeCells #[.int .i64 0, .int .i64 0, .int .i32 0, .int .i32 0, .int .i32 0, .int .i32 0] ((xs.length + 64) * 6)))
  have HK0 : Hid (Keeps (fun b => b = w.heap.size) w (w.alloc (.cells (madeCells #[.int .i64 0, .int .i64 0, .int .i32 0, .int .i32 0, .int .i32 0, .int .i32 0] ((xs.length + 64) * 6)) 42))) := Lib.hid ((Keeps.refl _ w).alloc _)
  generalize madeCells #[.int .i64 0, .int .i64 0, .int .i32 0, .int .i32 0, .int .i32 0, .int .i32 0] ((xs.length + 64) * 6) = c0 at *
  go_loopw [4] (fun vi wr => ∃ (i : Nat) (cs : Array Value), i ≤ xs.length + 64 ∧ vi = .int .i64 i ∧ Hid (Filled (flat Cd.cells (wideCd xs)).toArray cs (i * 6)) ∧ Hid (Whole wr w.heap.size 42 cs) ∧ Hid (Keeps (fun b => b = w.heap.size) w wr)) (fun vi _ => xs.length + 64 - (intOf vi).toNat)
  case atStart => exact ⟨0, _, by omega, rfl, Lib.hid (Filled.zero hms), HW0, HK0⟩
  case round =>
    clear HW0 HK0 hms
    obtain ⟨i, cs, hi, rfl, HF, HW, HK⟩ := hrel
    by_cases hlt : i < xs.length
    · obtain ⟨g, off, rfl, hg, k0, k1, k2, k3, k4, k5⟩ := CdLies.cells (FLies.keeps HX.out HK.out (fun b hb e => by omega)) i xs[i] (by simp [hlt])
      have hv := wideCd_low xs i hlt
      generalize xs[i] = x at *
      have hsz : cs.size = (xs.length + 64) * 6 := by rw [HF.out.1, List.size_toArray, flat_length (k := 6) (fun _ => rfl), wideCd_length]
      obtain ⟨u0, u1, u2, u3, u4, u5, f0, f1, f2, f3, f4, f5⟩ := cd_at HW.out (i := i) (by omega)
      have HN := Lib.hid (cd_put HF.out HW.out HK.out hv)
      clear hv HF HW HK
      go_wp2_with fail
      go_roundw
      case rel =>
        obtain ⟨cs', h1, h2, h3⟩ := HN.out
        exact ⟨i + 1, cs', by omega, by go_num, Lib.hid h1, Lib.hid h2, Lib.hid h3⟩
      case measure => simp [intOf]; omega
    · have hsz : cs.size = (xs.length + 64) * 6 := by rw [HF.out.1, List.size_toArray, flat_length (k := 6) (fun _ => rfl), wideCd_length]
      by_cases hlt2 : i < xs.length + 64
      · have hv := wideCd_high xs i hlt hlt2
        obtain ⟨u0, u1, u2, u3, u4, u5, f0, f1, f2, f3, f4, f5⟩ := cd_at HW.out (i := i) (by omega)
        have HN := Lib.hid (cd_put HF.out HW.out HK.out hv)
        clear hv HF HW HK
        go_wp2_with fail
        refine (num_any 9 i _ (by omega) (by omega)).mono ?_
        rintro e w1 ⟨rfl, rfl⟩
        go_wp2_with fail
        go_roundw
        case rel =>
          obtain ⟨cs', h1, h2, h3⟩ := HN.out
          exact ⟨i + 1, cs', by omega, by go_num, Lib.hid h1, Lib.hid h2, Lib.hid h3⟩
        case measure => simp [intOf]; omega
      · obtain rfl : i = xs.length + 64 := by omega
        have hfull := HF.out.full (by rw [List.size_toArray, flat_length (k := 6) (fun _ => rfl), wideCd_length]; omega)
        subst hfull
        go_wp2_with fail
        go_ret
        exact ⟨rfl, HW.out, HK.out.mono (fun b hb e => absurd e (by omega))⟩
end Go.Proofs.YthmfbcfbcookiaaGreatDoor
/-
  The marked copies of a list of players: the walk. Conditions: a length within 10 ^ 9.
-/
namespace Go.Proofs.YthmfbcfbcookiaaGreatDoor
open Go.RowKit
set_option maxHeartbeats 1000000 in
theorem widePlayers_any (xs : List Pl) (A : Option Addr) (cap : Nat) (w : World) (hx : PlLies w w.heap.size A xs) (hl : xs.length ≤ 1000000000) :
    Calls Tryz.prog 20 #[.slice A xs.length cap] w fun e w' => e = .returned (.slice (some ⟨w.heap.size, 0, none⟩) xs.length (xs.length + 64)) ∧ Whole w' w.heap.size 44 (flat Pl.cells (widePl xs)).toArray ∧ Keeps (fun _ => False) w w' := by
  have HX := Lib.hid hx; clear hx
  have hmk : ∀ w : World, (Instr.makeSlice 22 (.int .i64 ((xs.length : Int) + 64)) (.int .i64 ((xs.length : Int) + 64))).run Tryz.prog w = .ok (.slice (some ⟨w.heap.size, 0, none⟩) (xs.length + 64) (xs.length + 64)) (w.alloc (.cells (madeCells #[.int .i32 0, .int .i32 0, .bool false] ((xs.length + 64) * 3)) 44)) := fun w => make_rows 22 44 _ 3 12 Tryz.underlying22 info_pl (xs.length + 64) (by omega) (by omega) w
  go_enter Tryz.func20, Tryz.ntmps20
  go_wp2_with fail
  clear hmk
  have hms : (madeCells #[.int .i32 0, .int .i32 0, .bool false] ((xs.length + 64) * 3)).size = (flat Pl.cells (widePl xs)).toArray.size := by rw [size_madeCells, List.size_toArray, flat_length (k := 3) (fun _ => rfl), widePl_length]
  have HW0 := Lib.hid (Whole.made w 44 (madeCells #[.int .i32 0, .int .i32 0, .bool false] ((xs.length + 64) * 3)))
  have HK0 : Hid (Keeps (fun b => b = w.heap.size) w (w.alloc (.cells (madeCells #[.int .i32 0, .int .i32 0, .bool false] ((xs.length + 64) * 3)) 44))) := Lib.hid ((Keeps.refl _ w).alloc _)
  generalize madeCells #[.int .i32 0, .int .i32 0, .bool false] ((xs.length + 64) * 3) = c0 at *
  go_loopw [4] (fun vi wr => ∃ (i : Nat) (cs : Array Value), i ≤ xs.length + 64 ∧ vi = .int .i64 i ∧ Hid (Filled (flat Pl.cells (widePl xs)).toArray cs (i * 3)) ∧ Hid (Whole wr w.heap.size 44 cs) ∧ Hid (Keeps (fun b => b = w.heap.size) w wr)) (fun vi _ => xs.length + 64 - (intOf vi).toNat)
  case atStart => exact ⟨0, _, by omega, rfl, Lib.hid (Filled.zero hms), HW0, HK0⟩
  case round =>
    clear HW0 HK0 hms
    obtain ⟨i, cs, hi, rfl, HF, HW, HK⟩ := hrel
    by_cases hlt : i < xs.length
    · obtain ⟨g, off, rfl, hg, k0, k1, k2⟩ := PlLies.cells (FLies.keeps HX.out HK.out (fun b hb e => by omega)) i xs[i] (by simp [hlt])
      have hv := widePl_low xs i hlt
      generalize xs[i] = x at *
      have hsz : cs.size = (xs.length + 64) * 3 := by rw [HF.out.1, List.size_toArray, flat_length (k := 3) (fun _ => rfl), widePl_length]
      obtain ⟨u0, u1, u2, f0, f1, f2⟩ := pl_at HW.out (i := i) (by omega)
      have HN := Lib.hid (pl_put HF.out HW.out HK.out hv)
      clear hv HF HW HK
      go_wp2_with fail
      go_roundw
      case rel =>
        obtain ⟨cs', h1, h2, h3⟩ := HN.out
        exact ⟨i + 1, cs', by omega, by go_num, Lib.hid h1, Lib.hid h2, Lib.hid h3⟩
      case measure => simp [intOf]; omega
    · have hsz : cs.size = (xs.length + 64) * 3 := by rw [HF.out.1, List.size_toArray, flat_length (k := 3) (fun _ => rfl), widePl_length]
      by_cases hlt2 : i < xs.length + 64
      · have hv := widePl_high xs i hlt hlt2
        obtain ⟨u0, u1, u2, f0, f1, f2⟩ := pl_at HW.out (i := i) (by omega)
        have HN := Lib.hid (pl_put HF.out HW.out HK.out hv)
        clear hv HF HW HK
        go_wp2_with fail
        refine (num_any 9 i _ (by omega) (by omega)).mono ?_
        rintro e w1 ⟨rfl, rfl⟩
        go_wp2_with fail
        go_roundw
        case rel =>
          obtain ⟨cs', h1, h2, h3⟩ := HN.out
          exact ⟨i + 1, cs', by omega, by go_num, Lib.hid h1, Lib.hid h2, Lib.hid h3⟩
        case measure => simp [intOf]; omega
      · obtain rfl : i = xs.length + 64 := by omega
        have hfull := HF.out.full (by rw [List.size_toArray, flat_length (k := 3) (fun _ => rfl), widePl_length]; omega)
        subst hfull
        go_wp2_with fail
        go_ret
        exact ⟨rfl, HW.out, HK.out.mono (fun b hb e => absurd e (by omega))⟩
end Go.Proofs.YthmfbcfbcookiaaGreatDoor
