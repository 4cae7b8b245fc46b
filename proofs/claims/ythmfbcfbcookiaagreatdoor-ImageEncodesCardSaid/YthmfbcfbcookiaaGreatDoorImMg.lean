/-
  image.four: the walk. Conditions: none.
-/
import Derived.Test.YthmfbcfbcookiaaGreatDoorImMa
import Derived.Test.YthmfbcfbcookiaaGreatDoorProg
import Derived.WalkKit
import Derived.Test.YthmfbcfbcookiaaGreatDoorBuf
import Derived.LoopN
import Derived.OwnWalk
namespace Go.Proofs.YthmfbcfbcookiaaGreatDoor
open Go.RowKit
set_option maxHeartbeats 1000000 in
theorem four_any (x : Int) (w : World) (_ : -2147483648 ≤ x) (_ : x ≤ 2147483647) :
    Calls Tryz.prog 26 #[.int .i32 x] w fun e w' => e = .returned (.agg #[.int .u8 (x / 16777216 % 256), .int .u8 (x / 65536 % 256), .int .u8 (x / 256 % 256), .int .u8 (x % 256)]) ∧ Keeps (fun _ => False) w w' := by
  go_enter Tryz.func26, Tryz.ntmps26
  go_wp2_with fail
  have e3 : x % 4294967296 / 16777216 = x / 16777216 % 256 := by omega
  have e2 : x % 4294967296 / 65536 % 256 = x / 65536 % 256 := by omega
  have e1 : x % 4294967296 / 256 % 256 = x / 256 % 256 := by omega
  rw [e3, e2, e1]
  clear e3 e2 e1
  refine bodyPost_ret (v := .agg #[.int .u8 (x / 16777216 % 256), .int .u8 (x / 65536 % 256), .int .u8 (x / 256 % 256), .int .u8 (x % 256)]) (by simp [results, Tryz.results26, go_sem]) rfl ⟨rfl, (Keeps.refl _ _).alloc _⟩
end Go.Proofs.YthmfbcfbcookiaaGreatDoor
/-
  image.Encode's put: the walk. Conditions: numbers of 32 bits, one, two or four bytes of each; what is written keeps within 2 ^ 47 bytes.
-/
namespace Go.Proofs.YthmfbcfbcookiaaGreatDoor
open Go.RowKit
theorem be_drop (k n : Nat) : ∀ x : Int, (be (k + n) x).drop k = be n x := by
  induction n with
  | zero => intro x; rw [Nat.add_zero, List.drop_eq_nil_of_le (by rw [be_length]; omega)]; rfl
  | succ n ih =>
    intro x
    rw [← Nat.add_assoc, be, List.drop_append_of_le_length (by rw [be_length]; omega), ih]
    rfl
/-- The cells of an array of four. -/
def fourC (x : Int) : Array Value := #[.int .u8 (x / 16777216 % 256), .int .u8 (x / 65536 % 256), .int .u8 (x / 256 % 256), .int .u8 (x % 256)]
theorem fourC_be (x : Int) : (fourC x).toList = bytesV (be 4 x) := by
  have e : ∀ y : Int, byteV (BitVec.ofInt 8 y) = .int .u8 (y % 256) := fun y => by unfold byteV; rw [oct_ofInt]
  have h2 : x / 256 / 256 = x / 65536 := by omega
  have h3 : x / 65536 / 256 = x / 16777216 := by omega
  simp only [fourC, be, bytesV, List.nil_append, List.cons_append, List.map_cons, List.map_nil, e, h2, h3]
theorem fourC_cells {w : World} {g : Nat} {t : TypeId} {x : Int} (h : Whole w g t (fourC x)) (k n : Nat) (hk : k + n = 4) : ∀ j v, (bytesV (be n x))[j]? = some v → w.cell? ⟨g, k + j, none⟩ = some v := fun j v hj => by
  rw [h.cellAt, ← Array.getElem?_toList, fourC_be, ← hk]
  rw [← be_drop k n x, bytesV, List.map_drop, List.getElem?_drop] at hj
  exact hj
/-- The numbers of 32 bits that a list holds. -/
def i32s (xs : List Int) : Array Value := (xs.map (Value.int .i32)).toArray
theorem i32s_get (xs : List Int) (i : Nat) (h : i < xs.length) : (i32s xs)[i]? = some (.int .i32 xs[i]) := by simp [i32s, h]
/-- Where put stands: the bytes so far, and what stays. -/
structure PutAt (b : Nat) (l : List Byte) (w wr : World) : Prop where
  buf : BufAt b l wr
  below : Below b w wr
  kept : ∀ g t cs, g ≠ b → t ≠ 5 → Whole w g t cs → Whole wr g t cs
theorem PutAt.past {b : Nat} {l : List Byte} {w wr w' : World} (h : PutAt b l w wr) (hk : Keeps (fun _ => False) wr w') : PutAt b l w w' :=
  ⟨bufPast h.buf hk, h.below.trans (hk.below (Nat.le_of_lt h.buf.lt) (fun _ e => e.elim)), fun g t cs hg ht hw => (h.kept g t cs hg ht hw).keeps hk id⟩
theorem PutAt.wrote {b : Nat} {l m : List Byte} {w wr w' : World} (h : PutAt b l w wr) (hb : BufAt b m w') (hk : Below b wr w') (ho : Lib.OthersKept 5 (some b) wr w') : PutAt b m w w' :=
  ⟨hb, h.below.trans hk, fun g t cs hg ht hw => kept_whole ho hg ht (h.kept g t cs hg ht hw)⟩
set_option maxHeartbeats 2000000 in
theorem put1_any (xs : List Int) (b g : Nat) (l : List Byte) (w : World) (hx : ∀ x ∈ xs, in32 x) (h : BufAt b l w) (hg : Whole w g 21 (i32s xs)) (hgb : g ≠ b) (hlim : l.length + 4 * xs.length ≤ 140737488355328) :
    Calls Tryz.prog 25 #[.int .i64 1, .slice (some ⟨g, 0, none⟩) xs.length xs.length, .pointer (some ⟨b, 0, none⟩)] w fun e w' => e = .returned (.tuple #[]) ∧ PutAt b (l ++ xs.flatMap (be 1)) w w' := by
  have P0 : Hid (PutAt b l w w) := Lib.hid ⟨h, Below.refl _ _, fun _ _ _ _ _ h => h⟩
  have HG := Lib.hid hg
  clear h hg
  go_enter Tryz.func25, Tryz.ntmps25
  go_wp2_with fail
  go_loopw [10] (fun vi wr => ∃ i : Nat, i ≤ xs.length ∧ vi = .int .i64 i ∧ Hid (PutAt b (l ++ (xs.take i).flatMap (be 1)) w wr)) (fun vi _ => xs.length - (intOf vi).toNat)
  case atStart => exact ⟨0, by omega, rfl, by simpa using P0⟩
  case round =>
    clear P0
    obtain ⟨i, hi, rfl, HP⟩ := hrel
    by_cases hlt : i < xs.length
    · have hW := HP.out.kept g _ _ hgb (by decide) HG.out
      have hc := (hW.cellAt i).trans (i32s_get xs i hlt)
      have hin := hx _ (List.getElem_mem hlt)
      have hts := take_snoc xs i hlt
      obtain ⟨x, hxe⟩ : ∃ x, x = xs[i] := ⟨_, rfl⟩
      rw [← hxe] at hc hin hts
      have HT := Lib.hid hts
      obtain ⟨h0, h1⟩ := hin
      clear hW hts hxe
      go_wp2_with fail
      refine (four_any x wr h0 h1).mono ?_
      rintro e w1 ⟨rfl, k1⟩
      have HP1 := Lib.hid (HP.out.past (k1.alloc (.cells (fourC x) 86)))
      have HC := Lib.hid (fourC_cells (Whole.made w1 86 (fourC x)))
      have hsz : b < w1.heap.size := Nat.lt_of_lt_of_le HP.out.buf.lt k1.size
      clear HP k1 h0 h1
      unfold fourC at HP1 HC
      have hl4 : (l ++ (xs.take i).flatMap (be 1)).length + 4 ≤ 140737488355328 := by
        have e : ∀ ys : List Int, (ys.flatMap (be 1)).length = ys.length * 1 := fun ys => by
          induction ys with
          | nil => simp
          | cons y ys ih => rw [List.flatMap_cons, List.length_append, ih, be_length, List.length_cons, Nat.succ_mul, Nat.add_comm]
        rw [List.length_append, e, List.length_take]
        have : min i xs.length * 1 ≤ min i xs.length * 4 := Nat.mul_le_mul_left _ (by omega)
        omega
      have HB := fun (k : Nat) (hk : k + 1 = 4) => bufWrite_any b w1.heap.size k (4 - k) _ (be 1 x) _ HP1.out.buf (by omega) (HC.out k 1 hk) (by rw [be_length]; omega)
      have hF : l ++ (xs.take i).flatMap (be 1) ++ be 1 x = l ++ (xs.take (i + 1)).flatMap (be 1) := by rw [HT.out]; simp
      rw [hF] at HB
      clear hF hl4 HC HT
      simp only [be_length] at HB
      have HB := HB 3 rfl
      go_wp2_with fail
      refine HB.mono ?_
      rintro e w2 ⟨rfl, b2, k2, o2⟩
      have HP2 := Lib.hid (HP1.out.wrote b2 k2 o2)
      clear b2 k2 o2 HP1 HB
      go_wp2_with fail
      go_roundw
      case rel => exact ⟨i + 1, by omega, by go_num, HP2⟩
      case measure => simp [intOf]; omega
    · obtain rfl : i = xs.length := by omega
      rw [List.take_length] at HP
      go_wp2_with fail
      go_end0
      exact ⟨rfl, HP.out⟩
set_option maxHeartbeats 2000000 in
theorem put2_any (xs : List Int) (b g : Nat) (l : List Byte) (w : World) (hx : ∀ x ∈ xs, in32 x) (h : BufAt b l w) (hg : Whole w g 21 (i32s xs)) (hgb : g ≠ b) (hlim : l.length + 4 * xs.length ≤ 140737488355328) :
    Calls Tryz.prog 25 #[.int .i64 2, .slice (some ⟨g, 0, none⟩) xs.length xs.length, .pointer (some ⟨b, 0, none⟩)] w fun e w' => e = .returned (.tuple #[]) ∧ PutAt b (l ++ xs.flatMap (be 2)) w w' := by
  have P0 : Hid (PutAt b l w w) := Lib.hid ⟨h, Below.refl _ _, fun _ _ _ _ _ h => h⟩
  have HG := Lib.hid hg
  clear h hg
  go_enter Tryz.func25, Tryz.ntmps25
  go_wp2_with fail
  go_loopw [10] (fun vi wr => ∃ i : Nat, i ≤ xs.length ∧ vi = .int .i64 i ∧ Hid (PutAt b (l ++ (xs.take i).flatMap (be 2)) w wr)) (fun vi _ => xs.length - (intOf vi).toNat)
  case atStart => exact ⟨0, by omega, rfl, by simpa using P0⟩
  case round =>
    clear P0
    obtain ⟨i, hi, rfl, HP⟩ := hrel
    by_cases hlt : i < xs.length
    · have hW := HP.out.kept g _ _ hgb (by decide) HG.out
      have hc := (hW.cellAt i).trans (i32s_get xs i hlt)
      have hin := hx _ (List.getElem_mem hlt)
      have hts := take_snoc xs i hlt
      obtain ⟨x, hxe⟩ : ∃ x, x = xs[i] := ⟨_, rfl⟩
      rw [← hxe] at hc hin hts
      have HT := Lib.hid hts
      obtain ⟨h0, h1⟩ := hin
      clear hW hts hxe
      go_wp2_with fail
      refine (four_any x wr h0 h1).mono ?_
      rintro e w1 ⟨rfl, k1⟩
      have HP1 := Lib.hid (HP.out.past (k1.alloc (.cells (fourC x) 86)))
      have HC := Lib.hid (fourC_cells (Whole.made w1 86 (fourC x)))
      have hsz : b < w1.heap.size := Nat.lt_of_lt_of_le HP.out.buf.lt k1.size
      clear HP k1 h0 h1
      unfold fourC at HP1 HC
      have hl4 : (l ++ (xs.take i).flatMap (be 2)).length + 4 ≤ 140737488355328 := by
        have e : ∀ ys : List Int, (ys.flatMap (be 2)).length = ys.length * 2 := fun ys => by
          induction ys with
          | nil => simp
          | cons y ys ih => rw [List.flatMap_cons, List.length_append, ih, be_length, List.length_cons, Nat.succ_mul, Nat.add_comm]
        rw [List.length_append, e, List.length_take]
        have : min i xs.length * 2 ≤ min i xs.length * 4 := Nat.mul_le_mul_left _ (by omega)
        omega
      have HB := fun (k : Nat) (hk : k + 2 = 4) => bufWrite_any b w1.heap.size k (4 - k) _ (be 2 x) _ HP1.out.buf (by omega) (HC.out k 2 hk) (by rw [be_length]; omega)
      have hF : l ++ (xs.take i).flatMap (be 2) ++ be 2 x = l ++ (xs.take (i + 1)).flatMap (be 2) := by rw [HT.out]; simp
      rw [hF] at HB
      clear hF hl4 HC HT
      simp only [be_length] at HB
      have HB := HB 2 rfl
      go_wp2_with fail
      refine HB.mono ?_
      rintro e w2 ⟨rfl, b2, k2, o2⟩
      have HP2 := Lib.hid (HP1.out.wrote b2 k2 o2)
      clear b2 k2 o2 HP1 HB
      go_wp2_with fail
      go_roundw
      case rel => exact ⟨i + 1, by omega, by go_num, HP2⟩
      case measure => simp [intOf]; omega
    · obtain rfl : i = xs.length := by omega
      rw [List.take_length] at HP
      go_wp2_with fail
      go_end0
      exact ⟨rfl, HP.out⟩
set_option maxHeartbeats 2000000 in
theorem put4_any (xs : List Int) (b g : Nat) (l : List Byte) (w : World) (hx : ∀ x ∈ xs, in32 x) (h : BufAt b l w) (hg : Whole w g 21 (i32s xs)) (hgb : g ≠ b) (hlim : l.length + 4 * xs.length ≤ 140737488355328) :
    Calls Tryz.prog 25 #[.int .i64 4, .slice (some ⟨g, 0, none⟩) xs.length xs.length, .pointer (some ⟨b, 0, none⟩)] w fun e w' => e = .returned (.tuple #[]) ∧ PutAt b (l ++ xs.flatMap (be 4)) w w' := by
  have P0 : Hid (PutAt b l w w) := Lib.hid ⟨h, Below.refl _ _, fun _ _ _ _ _ h => h⟩
  have HG := Lib.hid hg
  clear h hg
  go_enter Tryz.func25, Tryz.ntmps25
  go_wp2_with fail
  go_loopw [10] (fun vi wr => ∃ i : Nat, i ≤ xs.length ∧ vi = .int .i64 i ∧ Hid (PutAt b (l ++ (xs.take i).flatMap (be 4)) w wr)) (fun vi _ => xs.length - (intOf vi).toNat)
  case atStart => exact ⟨0, by omega, rfl, by simpa using P0⟩
  case round =>
    clear P0
    obtain ⟨i, hi, rfl, HP⟩ := hrel
    by_cases hlt : i < xs.length
    · have hW := HP.out.kept g _ _ hgb (by decide) HG.out
      have hc := (hW.cellAt i).trans (i32s_get xs i hlt)
      have hin := hx _ (List.getElem_mem hlt)
      have hts := take_snoc xs i hlt
      obtain ⟨x, hxe⟩ : ∃ x, x = xs[i] := ⟨_, rfl⟩
      rw [← hxe] at hc hin hts
      have HT := Lib.hid hts
      obtain ⟨h0, h1⟩ := hin
      clear hW hts hxe
      go_wp2_with fail
      refine (four_any x wr h0 h1).mono ?_
      rintro e w1 ⟨rfl, k1⟩
      have HP1 := Lib.hid (HP.out.past (k1.alloc (.cells (fourC x) 86)))
      have HC := Lib.hid (fourC_cells (Whole.made w1 86 (fourC x)))
      have hsz : b < w1.heap.size := Nat.lt_of_lt_of_le HP.out.buf.lt k1.size
      clear HP k1 h0 h1
      unfold fourC at HP1 HC
      have hl4 : (l ++ (xs.take i).flatMap (be 4)).length + 4 ≤ 140737488355328 := by
        have e : ∀ ys : List Int, (ys.flatMap (be 4)).length = ys.length * 4 := fun ys => by
          induction ys with
          | nil => simp
          | cons y ys ih => rw [List.flatMap_cons, List.length_append, ih, be_length, List.length_cons, Nat.succ_mul, Nat.add_comm]
        rw [List.length_append, e, List.length_take]
        have : min i xs.length * 4 ≤ min i xs.length * 4 := Nat.mul_le_mul_left _ (by omega)
        omega
      have HB := fun (k : Nat) (hk : k + 4 = 4) => bufWrite_any b w1.heap.size k (4 - k) _ (be 4 x) _ HP1.out.buf (by omega) (HC.out k 4 hk) (by rw [be_length]; omega)
      have hF : l ++ (xs.take i).flatMap (be 4) ++ be 4 x = l ++ (xs.take (i + 1)).flatMap (be 4) := by rw [HT.out]; simp
      rw [hF] at HB
      clear hF hl4 HC HT
      simp only [be_length] at HB
      have HB := HB 0 rfl
      go_wp2_with fail
      refine HB.mono ?_
      rintro e w2 ⟨rfl, b2, k2, o2⟩
      have HP2 := Lib.hid (HP1.out.wrote b2 k2 o2)
      clear b2 k2 o2 HP1 HB
      go_wp2_with fail
      go_roundw
      case rel => exact ⟨i + 1, by omega, by go_num, HP2⟩
      case measure => simp [intOf]; omega
    · obtain rfl : i = xs.length := by omega
      rw [List.take_length] at HP
      go_wp2_with fail
      go_end0
      exact ⟨rfl, HP.out⟩
end Go.Proofs.YthmfbcfbcookiaaGreatDoor
