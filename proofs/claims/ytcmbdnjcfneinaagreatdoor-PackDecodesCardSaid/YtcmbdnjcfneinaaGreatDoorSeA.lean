/-
  The walks of Sealed and turned (chapter 19). Conditions: lengths within 2 ^ 40.
-/
import Derived.Test.YtcmbdnjcfneinaaGreatDoorPMb
import Derived.Test.YtcmbdnjcfneinaaGreatDoorSuM
import Derived.Laws.ShiftsVarLaws
import Derived.Deep.Onto
import Derived.RegionTactic
import Derived.ChangeAlike
import Derived.Test.YtcmbdnjcfneinaaGreatDoorMemM
namespace Go.Proofs.YtcmbdnjcfneinaaGreatDoor
open Go.RowKit Crc
theorem le4V (s : W) : [Value.int .u8 (wn s % 256), .int .u8 (wn s / 256 % 256), .int .u8 (wn s / 65536 % 256), .int .u8 (wn s / 16777216 % 256)] = bytesV (le4 s) := by
  have h : ∀ k, ((s >>> k).setWidth 8).toNat = s.toNat / 2 ^ k % 256 := fun k => by simp [Nat.shiftRight_eq_div_pow]
  have h0 : (s.setWidth 8).toNat = s.toNat % 256 := by simp
  have h1 := h 8
  have h2 := h 16
  have h3 := h 24
  unfold bytesV le4 wn byteV
  simp only [List.map_cons, List.map_nil]
  rw [h0, h1, h2, h3]
  simp only [Int.natCast_emod, Int.natCast_ediv]
  rfl
theorem belowOn {w w1 w2 : World} (h : Below w.heap.size w w1) (h' : Below w1.heap.size w1 w2) : Below w.heap.size w w2 := h.trans (h'.mono h.size)
set_option maxRecDepth 4000 in
set_option maxHeartbeats 1000000 in
theorem sealed_any (b : List Byte) (A : Option Addr) (B cap : Nat) (w : World) (hl : Lies w B A (bytesV b)) (hB : B ≤ w.heap.size) (hm : b.length ≤ 1099511627776) :
    Calls Tryz.prog 17 #[.slice A b.length cap] w fun e w' => ∃ A' cap', e = .returned (.slice A' (sealedL b).length cap') ∧ w'.ownsRow w.heap.size 5 1 (.slice A' (sealedL b).length cap') (sealedL b).length (bytesV (sealedL b)) ∧ Below w.heap.size w w' := by
  have hlen := sealedL_length b
  have hL : bytesV (sealedL b) = bytesV b ++ bytesV (le4 (crc b)) := by unfold sealedL; rw [bytesV_append]
  have hs := le4V (crc b)
  rw [hL, hlen]
  clear hL hlen
  have HS := Lib.hid hs; clear hs
  go_enter Tryz.func17, Tryz.ntmps17
  go_wp2_with fail
  refine (copyBytes_any b A B cap w hl (by omega)).mono ?_
  rintro e w3 ⟨A3, cap3, rfl, hown3', _, hB3⟩
  have hl1 : Lies w3 B A (bytesV b) := hl.below (hB3.mono hB)
  go_wp2_with fail
  refine (refCrc_any b A B cap w3 hl1 (by omega)).mono ?_
  rintro e w2 ⟨rfl, rfl⟩
  clear hl1
  go_wp2_with (first
    | (at_builtin
       go_loud (refine wpList_append_lies _ rfl _ _ 32 rfl w.heap.size 5 (.int .u8 0) 1 Tryz.underlying32 info_u8 rfl _ b.length _ rfl (hown3'.alloc _) (w3.heap.size + 1) (some ⟨w3.heap.size, 0, none⟩) 4 4 _ rfl (Lies.row (t := 5) (fr := (0, 0)) (heap_alloc_new w3 _) (Nat.lt_succ_self _)) rfl (by intro u hu; simp only [List.mem_cons, List.not_mem_nil, or_false] at hu; rcases hu with rfl | rfl | rfl | rfl <;> rfl) (by simp only [maxLen]; omega) (by omega) (Nat.le_of_lt (Nat.lt_of_le_of_lt hB3.size (Whole.made w3 _ _).inside)) ?_)
       intro A' cap' w4 hown hg hbl hc
       rw [HS.out] at hown))
  go_ret
  exact ⟨A', cap', rfl, hown, (hB3.alloc hB3.size _).grown hg (Nat.le_of_lt (Nat.lt_of_le_of_lt hB3.size (Whole.made w3 _ _).inside)) (fun k hk => (hown3'.lt k hk).1)⟩

/-- What turned leaves behind k rounds. -/
structure TurnedTo (b : List Byte) (p : Nat) (T : W) (k : Nat) (y : List Byte) : Prop where
  len : y.length = b.length
  at_ : ∀ m, dbit b y m = (decide (p ≤ m) && decide (m < p + k) && T.getLsbD (m - p))
theorem TurnedTo.start (b : List Byte) (p : Nat) (T : W) : TurnedTo b p T 0 b := ⟨rfl, fun m => by
  rw [dbit_self]
  by_cases h : p ≤ m
  · rw [decide_eq_false (by omega : ¬ m < p + 0)]; simp
  · rw [decide_eq_false h]; simp⟩
theorem TurnedTo.skip {b : List Byte} {p : Nat} {T : W} {k : Nat} {y : List Byte} (h : TurnedTo b p T k y) (hb : T.getLsbD k = false) : TurnedTo b p T (k + 1) y := ⟨h.len, fun m => by
  rw [h.at_ m]
  by_cases hm : m = p + k
  · subst hm
    rw [Nat.add_sub_cancel_left, hb]; simp
  · have : decide (m < p + k) = decide (m < p + (k + 1)) := decide_eq_decide.2 ⟨fun _ => by omega, fun _ => by omega⟩
    rw [this]⟩
theorem gbit_here (l : List Byte) (q : Nat) (hq : q < 8 * l.length) : gbit (l.set (q / 8) (l.getD (q / 8) 0 ^^^ BitVec.twoPow 8 (q % 8))) q = !gbit l q := by
  unfold gbit
  have h1 : q / 8 < l.length := by omega
  have h2 : (l.set (q / 8) (l.getD (q / 8) 0 ^^^ BitVec.twoPow 8 (q % 8))).getD (q / 8) 0 = l.getD (q / 8) 0 ^^^ BitVec.twoPow 8 (q % 8) := by
    rw [List.getD_eq_getElem?_getD, List.getElem?_set_self h1]; rfl
  rw [h2, BitVec.getLsbD_xor, BitVec.getLsbD_twoPow, decide_eq_true (by omega : q % 8 < 8), decide_eq_true rfl]
  simp
theorem TurnedTo.turn {b : List Byte} {p : Nat} {T : W} {k : Nat} {y : List Byte} (h : TurnedTo b p T k y) (hb : T.getLsbD k = true) (hq : p + k < 8 * b.length) :
    TurnedTo b p T (k + 1) (y.set ((p + k) / 8) (y.getD ((p + k) / 8) 0 ^^^ BitVec.twoPow 8 ((p + k) % 8))) := ⟨by rw [List.length_set, h.len], fun m => by
  have hq' : p + k < 8 * y.length := by rw [h.len]; exact hq
  by_cases hm : m = p + k
  · subst hm
    have h1 := h.at_ (p + k)
    rw [decide_eq_false (by omega : ¬ p + k < p + k)] at h1
    rw [dbit_gbit] at h1 ⊢
    rw [gbit_here y (p + k) hq', Nat.add_sub_cancel_left, hb, decide_eq_true (by omega : p ≤ p + k), decide_eq_true (by omega : p + k < p + (k + 1))]
    revert h1
    cases gbit b (p + k) <;> cases gbit y (p + k) <;> simp
  · rw [dbit_gbit, gbit_set y (p + k) m hq' hm, ← dbit_gbit, h.at_ m]
    have : decide (m < p + k) = decide (m < p + (k + 1)) := decide_eq_decide.2 ⟨fun _ => by omega, fun _ => by omega⟩
    rw [this]⟩
theorem TurnedTo.window {b : List Byte} {p : Nat} {T : W} {k : Nat} {y : List Byte} (h : TurnedTo b p T k y) : ∀ m, dbit b y m = true → p ≤ m ∧ m < p + k := fun m hd => by
  rw [h.at_ m] at hd
  simp only [Bool.and_eq_true, decide_eq_true_eq] at hd
  exact hd.1
theorem TurnedTo.other {b : List Byte} {p : Nat} {T : W} {y : List Byte} (h : TurnedTo b p T 32 y) (hT : T ≠ 0#32) : b ≠ y := fun e => by
  apply hT
  apply BitVec.eq_of_getLsbD_eq
  intro i hi
  have h1 := h.at_ (p + i)
  rw [← e, dbit_self, Nat.add_sub_cancel_left, decide_eq_true (by omega : p ≤ p + i), decide_eq_true (by omega : p + i < p + 32)] at h1
  simpa using h1.symm
theorem xor8 (a b : Byte) : ((bits .xor .u8 (a.toNat : Int) (b.toNat : Int)) = ((a ^^^ b).toNat : Int)) := by
  rw [u8_xor_nat _ _ a.isLt b.isLt, BitVec.toNat_xor]
theorem wnShr (T : W) (k : Nat) : wn T / 2 ^ k = wn (T >>> k) := by
  unfold wn
  rw [BitVec.toNat_ushiftRight, Nat.shiftRight_eq_div_pow, Int.natCast_ediv, Int.natCast_pow]; rfl
theorem bitTrue {T : W} {k : Nat} (h : T.getLsbD k = true) : bits .and .u32 (wn T / 2 ^ k) 1 = 1 := by
  rw [wnShr]; exact and1_odd (by simpa using h)
theorem bitFalse {T : W} {k : Nat} (h : T.getLsbD k = false) : bits .and .u32 (wn T / 2 ^ k) 1 = 0 := by
  rw [wnShr]; exact and1_even (by simpa using h)
theorem powByte (m : Nat) (h : m < 8) : (2 : Int) ^ m % 256 = ((BitVec.twoPow 8 m).toNat : Int) := by
  revert m; decide
theorem bytesVset (l : List Byte) (j : Nat) (c : Byte) : (bytesV l).set j (.int .u8 (c.toNat : Int)) = bytesV (l.set j c) := by
  unfold bytesV; rw [List.map_set]; rfl
/-- What turned answers. -/
def TurnOut (b : List Byte) (p : Nat) (T : W) (w : World) (e : Ending) (w' : World) : Prop := ∃ A' cap' is y, e = .returned (.tuple #[.slice A' b.length cap', .bool is]) ∧ w'.ownsRow w.heap.size 5 1 (.slice A' b.length cap') b.length (bytesV y) ∧ (is = true → TurnedTo b p T 32 y ∧ T ≠ 0#32) ∧ Below w.heap.size w w'
end Go.Proofs.YtcmbdnjcfneinaaGreatDoor
