/-
  The walk of the law SumsBursts: it returns true for all a, b. Conditions: none.
-/
import Derived.Test.YtcdolkifahlakaaSumsF
namespace Go.Proofs.Ytcdolkifahlakaa
open Go.RowKit Crc

set_option maxHeartbeats 1000000 in
theorem sumsBursts_any (a b : List Byte) (A A' : Option Addr) (cap cap' : Nat) (w : World) (hl : Lies w w.heap.size A (bytesV a)) (hl' : Lies w w.heap.size A' (bytesV b)) (hm : a.length ≤ 140737488351232) (hm' : b.length ≤ 140737488351232) :
    Calls Try.prog 5 #[.slice A a.length cap, .slice A' b.length cap'] w fun e w' => e = .returned (.bool true) ∧ Below w.heap.size w w' := by
  by_cases hlong : 16777216 < a.length
  · go_enter Try.func5, Try.ntmps5
    go_wp2
    go_ret
    exact ⟨rfl, Below.refl _ _⟩
  by_cases hlong' : 16777216 < b.length
  · go_enter Try.func5, Try.ntmps5
    go_wp2
    go_ret
    exact ⟨rfl, Below.refl _ _⟩
  have hself := Lib.hid (burst_self a)
  have hcomm := Lib.hid (burst_comm b a)
  go_enter Try.func5, Try.ntmps5
  go_wp2_with (go_at_call 9; go_in)
  refine (wideBytes_new a A _ cap w hl (Nat.le_refl _) hm).mono ?_
  rintro e w1 ⟨g, rfl, hg, hW1, hB1⟩
  have hlb1 := hl'.below hB1
  go_wp2_with fail
  refine (wideBytes_new b A' _ cap' w1 hlb1 hB1.size hm').mono ?_
  rintro e w2 ⟨g', rfl, hg', hW2', hb2⟩
  have hB2 := belowThen' hB1 hb2
  have hW2 := hW1.past hb2
  have hla2 := hl.below hB2
  have hlb2 := hl'.below hB2
  clear hb2 hlb1 hW1 hB1
  have hx2 := wideB_lies a hW2 hW2.inside
  have hy2 := wideB_lies b hW2' hW2'.inside
  go_wp2_with fail
  refine (burst_any a b _ _ _ _ _ _ w2 hx2 hy2 hm).mono ?_
  rintro e w3 ⟨rfl, hb3⟩
  have hB3 := belowThen' hB2 hb3
  have hx3 := hx2.past hb3
  have hy3 := hy2.past hb3
  go_wp2_with fail
  have hc := burst_any b a _ _ _ _ (b.length + 64) (a.length + 64) w3 hy3 hx3 hm'
  rw [hcomm.out] at hc
  refine hc.mono ?_
  clear hc
  rintro e w4 ⟨rfl, hb4⟩
  have hB4 := belowThen' hB3 hb4
  have hx4 := hx3.past hb4
  have hla4 := hl.below hB4
  go_wp2_with fail
  refine (copyBytes_any a A _ cap w4 hla4 hm).mono ?_
  rintro e w5 ⟨A5, cap5, rfl, hown, _, hb5⟩
  have hl5 := own_lies hown
  have hx5 := hx4.past hb5
  have hB5 := belowThen' hB4 hb5
  go_wp2_with fail
  have hc := burst_any a a _ _ _ _ (a.length + 64) cap5 w5 hx5 hl5 hm
  rw [hself.out] at hc
  refine hc.mono ?_
  clear hc
  rintro e w6 ⟨rfl, hb6⟩
  have hB6 := belowThen' hB5 hb6
  have hla6 := hl.below hB6
  have hlb6 := hl'.below hB6
  go_wp2_with fail
  refine (refBurst_any a b A A' _ _ cap cap' w6 hla6 hlb6 hm).mono ?_
  rintro e w7 ⟨rfl, hb7⟩
  have hB7 := belowThen' hB6 hb7
  have hla7 := hl.below hB7
  have hlb7 := hl'.below hB7
  have hb37 := belowThen' hb3 (belowThen' hb4 (belowThen' hb5 (belowThen' hb6 hb7)))
  have hW7 := hW2.past hb37
  have hW7' := hW2'.past hb37
  clear hb37 hb3 hb4 hb5 hb6 hb7 hB2 hB3 hB4 hB5 hB6 hla2 hlb2 hla4 hla6 hlb6 hx2 hy2 hx3 hy3 hx4 hx5 hl5 hown hW2 hW2'
  go_wp2_with fail
  refine (eqBytes_any a a _ _ _ _ _ _ w7 (wideB_lies a hW7 hW7.inside) hla7 (by omega)).mono ?_
  rintro e w8 ⟨rfl, hb8⟩
  have hB8 := belowThen' hB7 hb8
  have hW8 := hW7.past hb8
  have hW8' := hW7'.past hb8
  have hlb8 := hl'.below hB8
  go_wp2_with fail
  refine (spareBytes_any a g _ hW8 hm).mono ?_
  rintro e w' ⟨rfl, rfl⟩
  go_wp2_with fail
  refine (eqBytes_any b b _ _ _ _ _ _ w8 (wideB_lies b hW8' hW8'.inside) hlb8 (by omega)).mono ?_
  rintro e w9 ⟨rfl, hb9⟩
  have hB9 := belowThen' hB8 hb9
  have hW9' := hW8'.past hb9
  go_wp2_with fail
  refine (spareBytes_any b g' _ hW9' hm').mono ?_
  rintro e w' ⟨rfl, rfl⟩
  go_wp2_with fail
  refine (works_any w9).mono ?_
  rintro e w10 ⟨rfl, hb10⟩
  go_wp2
  go_ret
  exact ⟨rfl, belowThen' hB9 hb10⟩
end Go.Proofs.Ytcdolkifahlakaa
