/-
  The walks of the references' small functions on lists of bytes: copies, lists with marks behind them, whether two are the same. Conditions: none.
-/
import Derived.Test.YtcmbdnjcfneinaaGreatDoorAppend
import Derived.Test.YtcmbdnjcfneinaaGreatDoorProg
import Derived.WalkLawsBesides
import Derived.Outline
import Derived.LoopN
import Derived.OwnWalk
import Derived.Deep.LoopGhost
import Derived.Deep.QuietTactic
import Derived.BigQuiet
import Derived.Lib.Hide
namespace Go.Proofs.YtcmbdnjcfneinaaGreatDoor
open Go.RowKit

abbrev Byte := BitVec 8
def byteV (c : Byte) : Value := .int .u8 (c.toNat : Int)
def bytesV (b : List Byte) : List Value := b.map byteV
theorem bytesV_length (b : List Byte) : (bytesV b).length = b.length := by simp [bytesV]
theorem bytesV_get (b : List Byte) (k : Nat) (h : k < b.length) : (bytesV b)[k]? = some (.int .u8 ((b[k]).toNat : Int)) := by simp [bytesV, byteV, h]
theorem bytesV_append (a b : List Byte) : bytesV (a ++ b) = bytesV a ++ bytesV b := by simp [bytesV]
theorem take_snoc {α : Type} (l : List α) (k : Nat) (h : k < l.length) : l.take (k + 1) = l.take k ++ [l[k]] := by
  rw [List.take_succ_eq_append_getElem h]

/-- What stands at a place of a list with marks behind it. -/
def wideAt (b : List Byte) (i : Nat) : Value := if h : i < b.length then byteV b[i] else .int .u8 ((282 + 7 * (i : Int)) % 256)
def wideB (b : List Byte) : Array Value := full (b.length + 64) (wideAt b)
theorem wideAt_in (b : List Byte) (i : Nat) (h : i < b.length) : wideAt b i = .int .u8 ((b[i]).toNat : Int) := by unfold wideAt; rw [dif_pos h]; rfl
theorem wideAt_out (b : List Byte) (i : Nat) (h : b.length ≤ i) : wideAt b i = .int .u8 ((282 + 7 * (i : Int)) % 256) := by unfold wideAt; rw [dif_neg (by omega)]
theorem wideB_size (b : List Byte) : (wideB b).size = b.length + 64 := full_size _ _
theorem wideB_get (b : List Byte) (i : Nat) (h : i < b.length + 64) : (wideB b)[i]? = some (wideAt b i) := full_get _ _ i h
theorem wideB_lies {w : World} {g B : Nat} (b : List Byte) (h : Whole w g 5 (wideB b)) (hB : g < B) : Lies w B (some ⟨g, 0, none⟩) (bytesV b) := by
  refine Lies.whole h ?_ hB
  intro k u hu
  have hk : k < b.length := by
    rcases Nat.lt_or_ge k b.length with h | h
    · exact h
    · rw [List.getElem?_eq_none (by rw [bytesV_length]; omega)] at hu; cases hu
  rw [Nat.zero_add, wideB_get b k (by omega), wideAt_in b k hk, ← hu, bytesV_get b k hk]

theorem info_u8 : (Tryz.prog.info? 5).map (fun i => (i.zero, i.size, i.bytes)) = some (some (.int .u8 0), 1, 1) := by kernel_rfl

set_option maxHeartbeats 400000 in
theorem wideBytes_any (b : List Byte) (A : Option Addr) (B cap : Nat) (w : World) (hl : Lies w B A (bytesV b)) (hB : B ≤ w.heap.size) (hm : b.length ≤ 140737488351232) :
    Calls Tryz.prog 18 #[.slice A b.length cap] w fun e w' => e = .returned (.slice (some ⟨w.heap.size, 0, none⟩) b.length (b.length + 64)) ∧ w.alloc (.cells (wideB b) 5) = w' := by
  have e64 : ((b.length + 64 : Nat) : Int) = (b.length : Int) + 64 := by omega
  have hmk := fun w => run_make_row' (P := Tryz.prog) 32 5 (.int .u8 0) 1 Tryz.underlying32 info_u8 rfl .i64 .i64 (b.length + 64) (by omega) (by omega) w
  simp only [e64, fillTo_zero (b.length + 64) (wideAt b)] at hmk
  clear e64
  go_enter Tryz.func18, Tryz.ntmps18
  go_wp2
  clear hmk
  go_loopw [4] (fun i wr => ∃ k : Nat, k ≤ b.length + 64 ∧ i = .int .i64 k ∧ wr = w.alloc (.cells (fillTo (b.length + 64) (wideAt b) (.int .u8 0) k) 5)) (fun i _ => b.length + 64 - (intOf i).toNat)
  case atStart => exact ⟨0, by omega, rfl, rfl⟩
  case round =>
    obtain ⟨k, hk, rfl, rfl⟩ := hrel
    by_cases hlt : k < b.length + 64
    · have hcell := fillTo_here (b.length + 64) (wideAt b) (.int .u8 0) k hlt
      have hstep := fillTo_step (b.length + 64) (wideAt b) (.int .u8 0) k
      by_cases hin : k < b.length
      · obtain ⟨g, off, rfl, hg, hc⟩ := (hl.alloc hB (.cells (fillTo (b.length + 64) (wideAt b) (.int .u8 0) k) 5)) k _ (bytesV_get b k hin)
        rw [wideAt_in b k hin] at hstep
        have hne : g ≠ w.heap.size := by omega
        go_wp2
        go_roundw
        case rel => exact ⟨k + 1, by omega, by go_num, rfl⟩
        case measure => simp [intOf]; omega
      · have hout : b.length ≤ k := by omega
        rw [wideAt_out b k hout] at hstep
        have e7 : (279 + 7 * (k : Int) + 3) % 256 = (282 + 7 * (k : Int)) % 256 := by omega
        go_wp2
        go_roundw
        case rel => exact ⟨k + 1, by omega, by go_num, rfl⟩
        case measure => simp [intOf]; omega
    · obtain rfl : k = b.length + 64 := by omega
      rw [fillTo_full]
      go_wp2
      go_ret
      exact ⟨rfl, rfl⟩

/-- The same, the new block under a name of its own. -/
theorem wideBytes_new (b : List Byte) (A : Option Addr) (B cap : Nat) (w : World) (hl : Lies w B A (bytesV b)) (hB : B ≤ w.heap.size) (hm : b.length ≤ 140737488351232) :
    Calls Tryz.prog 18 #[.slice A b.length cap] w fun e w' => ∃ g, e = .returned (.slice (some ⟨g, 0, none⟩) b.length (b.length + 64)) ∧ w.heap.size ≤ g ∧ Whole w' g 5 (wideB b) ∧ Below w.heap.size w w' :=
  (wideBytes_any b A B cap w hl hB hm).mono fun _ _ ⟨he, hw⟩ => ⟨w.heap.size, he, Nat.le_refl _, hw ▸ Whole.made w _ _, hw ▸ (Below.refl _ _).alloc (Nat.le_refl _) _⟩

set_option maxHeartbeats 400000 in
theorem spareBytes_any (b : List Byte) (g : Nat) (w : World) (hw : Whole w g 5 (wideB b)) (hm : b.length ≤ 140737488351232) :
    Calls Tryz.prog 21 #[.slice (some ⟨g, 0, none⟩) b.length (b.length + 64)] w fun e w' => e = .returned (.bool true) ∧ w = w' := by
  go_enter Tryz.func21, Tryz.ntmps21
  go_wp2
  go_loop [4] (fun i => ∃ k : Nat, b.length ≤ k ∧ k ≤ b.length + 64 ∧ i = .int .i64 k) (fun i => b.length + 64 - (intOf i).toNat)
  case atStart => exact ⟨b.length, by omega, by omega, rfl⟩
  case round =>
    obtain ⟨k, hk0, hk, rfl⟩ := hrel
    by_cases hlt : k < b.length + 64
    · have hcell := (hw.cellAt k).trans (wideB_get b k hlt)
      rw [wideAt_out b k hk0] at hcell
      have e7 : (279 + 7 * (k : Int) + 3) % 256 = (282 + 7 * (k : Int)) % 256 := by omega
      go_wp2
      go_round
      case rel => exact ⟨k + 1, by omega, by omega, by go_num⟩
      case measure => simp [intOf]; omega
    · obtain rfl : k = b.length + 64 := by omega
      go_wp2
      go_ret
      exact ⟨rfl, rfl⟩

theorem copyBytes_any (b : List Byte) (A : Option Addr) (B cap : Nat) (w : World) (hl : Lies w B A (bytesV b)) (hm : b.length ≤ 140737488351232) :
    Calls Tryz.prog 75 #[.slice A b.length cap] w fun e w' => ∃ A' cap', e = .returned (.slice A' b.length cap') ∧ w'.ownsRow w.heap.size 5 1 (.slice A' b.length cap') b.length (bytesV b) ∧ b.length ≤ cap' ∧ Below w.heap.size w w' := by
  go_enter Tryz.func75, Tryz.ntmps75
  go_wp2_with (first
    | (at_builtin
       refine wpList_append_lies _ rfl _ _ 32 rfl w.heap.size 5 (.int .u8 0) 1 Tryz.underlying32 info_u8 rfl (.slice none 0 0) 0 [] rfl (World.ownsRow_nil _ _ _ _) B A b.length cap (bytesV b) rfl hl (bytesV_length b) (by simp [bytesV, byteV]; intros; rfl) (by simp only [maxLen]; omega) (by omega) (Nat.le_refl _) ?_
       intro A' cap' w1 hown hg _ hc
       simp only [Nat.zero_add, List.nil_append] at hown hc))
  go_ret
  simp only []
  exact ⟨A', cap', rfl, hown, hc, (Below.refl _ _).grown hg (Nat.le_refl _) (by simp [Value.ownBlock])⟩

set_option maxHeartbeats 400000 in
theorem eqBytes_any (x y : List Byte) (A A' : Option Addr) (B B' cap cap' : Nat) (w : World) (hx : Lies w B A (bytesV x)) (hy : Lies w B' A' (bytesV y)) (hm : x.length ≤ 9223372036854775807) :
    Calls Tryz.prog 13 #[.slice A x.length cap, .slice A' y.length cap'] w fun e w' => e = .returned (.bool (decide (x = y))) ∧ Below w.heap.size w w' := by
  by_cases hlen : x.length = y.length
  · go_enter Tryz.func13, Tryz.ntmps13
    go_wp2
    go_loopw [5] (fun i wr => ∃ k d : Nat, k ≤ x.length ∧ i = .int .i64 k ∧ x.take k = y.take k ∧ wr = w.drewN d) (fun i _ => x.length - (intOf i).toNat)
    case atStart => exact ⟨0, 0, by omega, rfl, rfl, rfl⟩
    case round =>
      obtain ⟨k, d, hk, rfl, heq, rfl⟩ := hrel
      have HE := Lib.hid heq; clear heq
      by_cases hlt : k < x.length
      · have hlt' : k < y.length := by omega
        obtain ⟨g, off, rfl, _, hc⟩ := hx k _ (bytesV_get x k hlt)
        obtain ⟨g', off', rfl, _, hc'⟩ := hy k _ (bytesV_get y k hlt')
        by_cases hxy : x[k] = y[k]
        · have hs : Hid (x.take (k + 1) = y.take (k + 1)) := Lib.hid (by rw [take_snoc x k hlt, take_snoc y k hlt', HE.out, hxy])
          have ht : (((x[k]).toNat : Int) != ((y[k]).toNat : Int)) = false := by rw [hxy]; simp
          have HL := Lib.hid hlen; clear hlen hxy
          go_wp2_with fail
          go_quiet (fail)
          go_wp2
          go_roundw
          case rel => exact ⟨k + 1, _, by omega, by go_num, hs.out, rfl⟩
          case measure => simp [intOf]; omega
        · have ht : (((x[k]).toNat : Int) != ((y[k]).toNat : Int)) = true := by
            rw [bne_iff_ne]; intro e; exact hxy (BitVec.eq_of_toNat_eq (by omega))
          have hne : x ≠ y := fun e => hxy (by subst e; rfl)
          go_wp2_with fail
          go_quiet (fail)
          go_wp2
          go_ret
          exact ⟨by simp [hne], belowN (belowN (Below.refl _ _) _) _⟩
      · obtain rfl : k = x.length := by omega
        have he : x = y := by have := HE.out; rw [List.take_length, hlen, List.take_length] at this; exact this
        have HF := Lib.hid he; clear he
        go_wp2
        go_ret
        exact ⟨by simp [HF.out], belowN (Below.refl _ _) _⟩
  · have hne : x ≠ y := fun e => hlen (by rw [e])
    go_enter Tryz.func13, Tryz.ntmps13
    go_wp2
    go_ret
    exact ⟨by simp [hne], Below.refl _ _⟩
end Go.Proofs.YtcmbdnjcfneinaaGreatDoor
