/-
  All of dice, whatever the body does to them: the iterator's walk. Conditions: none.
-/
import Derived.Test.YtalngbdjabjahaaDoorTurn
import Derived.Test.YtalngbdjabjahaaDoorDiceC
import Derived.RangeFuncBound
import Derived.RangeFuncCalls
import Derived.RangeFuncLeaves
import Derived.RangeFuncFrom
import Derived.OwnWalkIn
import Derived.Shelf.Abstract
import Derived.Shelf.RegionOpen
import Derived.TacticsInMore
import Derived.LoopNIn
import Derived.LoopIn
import Derived.Sort.LoopGhostIn
namespace Go.Proofs.YtalngbdjabjahaaDoor
open Go.RowKit Go.Shelf
attribute [local go_sem] Oper.semAt_some

set_option maxRecDepth 100000 in
set_option maxHeartbeats 1000000 in
/-- All of dice: round k is handed what the dice give then; at most N rounds go on. -/
theorem all1_turn (n : Nat) (hn : 2 ≤ n) (l c g N : Nat) (J : Nat → Nat → World → Prop) (Jx : World → Prop)
    (hJ : ∀ k z W, J k z W → W.cell? ⟨c, 0, none⟩ = some (.pointer (some ⟨g, 0, none⟩)) ∧ DiceAt W g z)
    (hY : ∀ k z W W', J k z W → DiceAt W' g (adv z) → Keeps (fun b => b = g) W W' → YieldAt Fence.wide (n - 1) Tryd.prog l #[.int .u64 (mix (adv z) : Nat)] W' fun e W'' =>
      (e = .returned (.bool true) ∧ k < N ∧ ∃ z', J (k + 1) z' W'') ∨ (e = .returned (.bool false) ∧ Jx W''))
    (z₀ : Nat) (W : World) (h0 : J 0 z₀ W) :
    CallsIn Fence.wide n Tryd.prog 58 #[.func (.yield l) #[] #[], .pointer (some ⟨c, 0, none⟩)] W fun e W' => (∃ v, e = .returned v) ∧ Jx W' := by
  have HY := Lib.hid hY; have H0 := Lib.hid h0
  clear hY h0
  refine callsIn_of_wp Tryd.func58 rfl trivial ?_ rfl
  simp only [Tryd.ntmps58, List.size_toArray, List.length_cons, List.length_nil, Nat.reduceAdd, Nat.reduceSub, Array.replicate_succ, Array.replicate_zero, List.push_toArray, List.append_toArray, List.nil_append, List.cons_append]
  gi_wp2_with fail
  gi_loopg [4] (N + 1) (fun m _ wr => ∃ k z, m + k = N + 1 ∧ J k z wr)
  case atStart => exact ⟨0, z₀, rfl, H0.out⟩
  case round =>
    obtain ⟨k, z, hm, hj⟩ := hrel
    obtain ⟨hc, hd⟩ := hJ k z wr hj
    have HJ := Lib.hid hj; have HD := Lib.hid hd; have HM := Lib.hid hm
    clear hj hd hm
    gi_wp2_with fail
    refine ⟨trivial, fun _ => by omega, (callsIn_wide.2 (none_any g z _ HD.out)).mono ?_⟩
    rintro e w' ⟨rfl, rfl⟩
    gi_wp2_with fail
    refine ⟨trivial, fun _ => by omega, (callsIn_wide.2 (next_rel g z _ HD.out)).mono ?_⟩
    rintro e w' ⟨rfl, hd', hk'⟩
    obtain ⟨fn, tmps, assign, body, hy, hR⟩ := HY.out k z _ _ HJ.out hd' hk'
    have HR := Lib.hid hR
    clear hR hd' hk'
    gi_wp2_with fail
    refine ⟨fun _ => by omega, HR.out.mono ?_⟩
    rintro e W3 (⟨rfl, hk, z', hj'⟩ | ⟨rfl, hx⟩)
    · have HJ' := Lib.hid hj'
      clear hj'
      have hm' := HM.out
      gi_wp2_with fail
      gi_roundg (N - k)
      case measure => omega
      case rel => exact ⟨k + 1, z', by omega, HJ'.out⟩
    · have HX := Lib.hid hx
      clear hx
      gi_wp2_with fail
      go_end0
      exact ⟨⟨_, rfl⟩, HX.out⟩
end Go.Proofs.YtalngbdjabjahaaDoor
