/-
  The reader of chapter 19: a kind more: the walk. Conditions: lengths within 2 ^ 20.
-/
import Derived.Test.YtcmbdnjcfneinaaGreatDoorRdMb
namespace Go.Proofs.YtcmbdnjcfneinaaGreatDoor
open Go.RowKit
theorem info_knd : (Tryz.prog.info? 40).map (fun i => (i.zero, i.size, i.bytes)) = some (some (.agg #[.int .i64 0, .int .i64 0, .int .i64 0, .int .i64 0, .slice none 0 0, .slice none 0 0]), 6, 80) := by kernel_rfl
section
variable {w0 w : World} {rb g off cap i en bx n c : Nat} {A : Option Addr} {b : List Oct} {F : Flt} {x4 x5 x6 x8 : Value} {xs : List Value} {Q : List Loc}
/-- Four numbers, read. -/
def FourN (b : List Oct) (i : Nat) (F : Flt) (na co po he i4 : Nat) (F4 : Flt) : Prop := ∃ i1 F1 i2 F2 i3 F3, Goes (numP 2) b i F i1 F1 (na : Int) ∧ Goes (numP 4) b i1 F1 i2 F2 (co : Int) ∧ Goes (numP 4) b i2 F2 i3 F3 (po : Int) ∧ Goes (numP 4) b i3 F3 i4 F4 (he : Int) ∧ i ≤ i4
set_option maxRecDepth 8000 in
set_option maxHeartbeats 4000000 in
theorem kindMore_any (h : RdAt w0 w rb g off cap b i en F x4 x5 x6 (.slice A n c) x8 (Loc.own w0.heap.size 40 6 (.slice A n c) n xs :: Loc.box bx 176 #[.pointer (some ⟨rb, 0, none⟩)] :: Q)) (hn : n ≤ 1048576) :
    Calls Tryz.prog 142 #[.pointer (some ⟨bx, 0, none⟩)] w fun r w' => r = .returned (.tuple #[]) ∧ ∃ (p : PK) (A' : Option Addr) (c' : Nat), Step kndP b en i F p.knd fun j F' =>
      RdAt w0 w' rb g off cap b j en F' x4 x5 x6 (.slice A' (n + 1) c') x8 (Loc.own w0.heap.size 40 6 (.slice A' (n + 1) c') (n + 1) (xs ++ p.vals.toList) :: Loc.box bx 176 #[.pointer (some ⟨rb, 0, none⟩)] :: (Q ++ p.locs w0.heap.size)) := by
  have HD := Lib.hid (h.past ((Keeps.refl _ w).drew))
  have hS0 : Hid (w.drew.cell? ⟨bx, 0, none⟩ = some (.pointer (some ⟨rb, 0, none⟩))) := Lib.hid ((HD.out.boxq 1 rfl).cellAt 0)
  clear h
  have hmf : ∀ (fn : Fn) (first cap : Array Value) (w : World), (Instr.makeFunc fn first cap).run Tryz.prog w = .ok (.func fn first cap) w := fun _ _ _ _ => rfl
  go_enter Tryz.func142, Tryz.ntmps142
  go_wp2_with fail
  refine region_cut (fun a' w' => ∃ (kb na co po he i4 : Nat) (F4 : Flt), FourN (b.take en) i F na co po he i4 F4 ∧ a' = { tmps := #[.pointer (some ⟨bx, 0, none⟩), .pointer (some ⟨kb, 0, none⟩), .pointer (some ⟨rb, 0, none⟩), .pointer (some ⟨rb, 0, none⟩), .pointer (some ⟨rb, 0, none⟩), .int .i64 na, .pointer (some ⟨rb, 0, none⟩), .pointer (some ⟨rb, 0, none⟩), .pointer (some ⟨rb, 0, none⟩), .int .i64 co, .pointer (some ⟨rb, 0, none⟩), .pointer (some ⟨rb, 0, none⟩), .pointer (some ⟨rb, 0, none⟩), .int .i64 po, .pointer (some ⟨rb, 0, none⟩), .pointer (some ⟨rb, 0, none⟩), .pointer (some ⟨rb, 0, none⟩), .int .i64 he, .agg #[.int .i64 na, .int .i64 co, .int .i64 po, .int .i64 he, .slice none 0 0, .slice none 0 0], undef, undef, undef, undef, undef, undef, undef, undef, undef, undef, undef, undef, undef, undef, undef, undef, undef, undef, undef, undef, undef, undef, undef, undef, undef, undef, undef, undef, undef, undef], defers := [] } ∧ RdAt w0 w' rb g off cap b i4 en F4 x4 x5 x6 (.slice A n c) x8 (Loc.box kb 40 #[.int .i64 na, .int .i64 co, .int .i64 po, .int .i64 he, .slice none 0 0, .slice none 0 0] :: Loc.own w0.heap.size 40 6 (.slice A n c) n xs :: Loc.box bx 176 #[.pointer (some ⟨rb, 0, none⟩)] :: Q)) ?reg ?rest
  case reg =>
    refine wp_region_upTo 18 (fun W => W.cell? ⟨bx, 0, none⟩ = some (.pointer (some ⟨rb, 0, none⟩))) (fun _ => True) (by kernel_rfl) ?_
    refine upTo_take (i := 0) (v := ?v1) rfl (by kernel_rfl) (by kernel_rfl) (by kernel_rfl) (fun _ _ _ h => by first | exact h | exact absurd h.1 (fun e => by cases e)) (by decide) (Or.inl ⟨by rfl, ?hy1⟩) (hS0.out) (fun _ => trivial) ?rest1
    case hy1 =>
      intro w hSw
      obtain qh := hSw
      go_simp
      try with_reducible rfl
    go_simp
    refine upTo_take (i := 1) (v := ?v2) rfl (by kernel_rfl) (by kernel_rfl) (by kernel_rfl) (fun _ _ _ h => by first | exact h | exact absurd h.1 (fun e => by cases e)) (by decide) (Or.inl ⟨by rfl, ?hy2⟩) (hS0.out) (fun _ => trivial) ?rest2
    case hy2 =>
      intro w hSw
      clear hSw
      go_simp
      try with_reducible rfl
    go_simp
    refine upTo_take (i := 2) (v := ?v3) rfl (by kernel_rfl) (by kernel_rfl) (by kernel_rfl) (fun _ _ _ h => by first | exact h | exact absurd h.1 (fun e => by cases e)) (by decide) (Or.inl ⟨by rfl, ?hy3⟩) (hS0.out) (fun _ => trivial) ?rest3
    case hy3 =>
      intro w hSw
      clear hSw
      go_simp
      try with_reducible rfl
    go_simp
    refine upTo_take (i := 4) (v := ?v4) rfl (by kernel_rfl) (by kernel_rfl) (by kernel_rfl) (fun _ _ _ h => by first | exact h | exact absurd h.1 (fun e => by cases e)) (by decide) (Or.inl ⟨by rfl, ?hy4⟩) (hS0.out) (fun _ => trivial) ?rest4
    case hy4 =>
      intro w hSw
      obtain qh := hSw
      go_simp
      try with_reducible rfl
    go_simp
    refine upTo_take (i := 5) (v := ?v5) rfl (by kernel_rfl) (by kernel_rfl) (by kernel_rfl) (fun _ _ _ h => by first | exact h | exact absurd h.1 (fun e => by cases e)) (by decide) (Or.inl ⟨by rfl, ?hy5⟩) (hS0.out) (fun _ => trivial) ?rest5
    case hy5 =>
      intro w hSw
      clear hSw
      go_simp
      try with_reducible rfl
    go_simp
    refine upTo_take (i := 6) (v := ?v6) rfl (by kernel_rfl) (by kernel_rfl) (by kernel_rfl) (fun _ _ _ h => by first | exact h | exact absurd h.1 (fun e => by cases e)) (by decide) (Or.inl ⟨by rfl, ?hy6⟩) (hS0.out) (fun _ => trivial) ?rest6
    case hy6 =>
      intro w hSw
      clear hSw
      go_simp
      try with_reducible rfl
    go_simp
    refine upTo_take (i := 8) (v := ?v7) rfl (by kernel_rfl) (by kernel_rfl) (by kernel_rfl) (fun _ _ _ h => by first | exact h | exact absurd h.1 (fun e => by cases e)) (by decide) (Or.inl ⟨by rfl, ?hy7⟩) (hS0.out) (fun _ => trivial) ?rest7
    case hy7 =>
      intro w hSw
      obtain qh := hSw
      go_simp
      try with_reducible rfl
    go_simp
    refine upTo_take (i := 9) (v := ?v8) rfl (by kernel_rfl) (by kernel_rfl) (by kernel_rfl) (fun _ _ _ h => by first | exact h | exact absurd h.1 (fun e => by cases e)) (by decide) (Or.inl ⟨by rfl, ?hy8⟩) (hS0.out) (fun _ => trivial) ?rest8
    case hy8 =>
      intro w hSw
      clear hSw
      go_simp
      try with_reducible rfl
    go_simp
    refine upTo_take (i := 10) (v := ?v9) rfl (by kernel_rfl) (by kernel_rfl) (by kernel_rfl) (fun _ _ _ h => by first | exact h | exact absurd h.1 (fun e => by cases e)) (by decide) (Or.inl ⟨by rfl, ?hy9⟩) (hS0.out) (fun _ => trivial) ?rest9
    case hy9 =>
      intro w hSw
      clear hSw
      go_simp
      try with_reducible rfl
    go_simp
    refine upTo_take (i := 12) (v := ?v10) rfl (by kernel_rfl) (by kernel_rfl) (by kernel_rfl) (fun _ _ _ h => by first | exact h | exact absurd h.1 (fun e => by cases e)) (by decide) (Or.inl ⟨by rfl, ?hy10⟩) (hS0.out) (fun _ => trivial) ?rest10
    case hy10 =>
      intro w hSw
      obtain qh := hSw
      go_simp
      try with_reducible rfl
    go_simp
    refine upTo_take (i := 13) (v := ?v11) rfl (by kernel_rfl) (by kernel_rfl) (by kernel_rfl) (fun _ _ _ h => by first | exact h | exact absurd h.1 (fun e => by cases e)) (by decide) (Or.inl ⟨by rfl, ?hy11⟩) (hS0.out) (fun _ => trivial) ?rest11
    case hy11 =>
      intro w hSw
      clear hSw
      go_simp
      try with_reducible rfl
    go_simp
    refine upTo_take (i := 14) (v := ?v12) rfl (by kernel_rfl) (by kernel_rfl) (by kernel_rfl) (fun _ _ _ h => by first | exact h | exact absurd h.1 (fun e => by cases e)) (by decide) (Or.inl ⟨by rfl, ?hy12⟩) (hS0.out) (fun _ => trivial) ?rest12
    case hy12 =>
      intro w hSw
      clear hSw
      go_simp
      try with_reducible rfl
    go_simp
    refine upTo_ready (rs := [3, 17]) (by kernel_rfl) (by simp) ?_
    refine AllU.cons rfl ?sa0 (AllU.cons rfl ?sb0 AllU.nil)
    case sa0 =>
      intro K hK
      go_simp
      refine (numberS_any 2 b g off HD.out (by decide)).mono ?_
      rintro r w1 ⟨na, rfl, hna, i1, F1, hg1, hi1, h1⟩
      have H1 := Lib.hid h1
      have HG1 := Lib.hid hg1
      clear h1 hg1
      refine hK.out _ _ ((H1.out.boxq 1 rfl).cellAt 0) (fun _ => trivial) ?_
      clear hK K
      go_simp
      refine upTo_ready (rs := [7, 17]) (by kernel_rfl) (by simp) ?_
      refine AllU.cons rfl ?sa1 (AllU.cons rfl ?sb1 AllU.nil)
      case sa1 =>
        intro K hK
        go_simp
        refine (numberS_any 4 b g off H1.out (by decide)).mono ?_
        rintro r w2 ⟨co, rfl, hco, i2, F2, hg2, hi2, h2⟩
        have H2 := Lib.hid h2
        have HG2 := Lib.hid hg2
        clear h2 hg2
        refine hK.out _ _ ((H2.out.boxq 1 rfl).cellAt 0) (fun _ => trivial) ?_
        clear hK K
        go_simp
        refine upTo_ready (rs := [11, 17]) (by kernel_rfl) (by simp) ?_
        refine AllU.cons rfl ?sa2 (AllU.cons rfl ?sb2 AllU.nil)
        case sa2 =>
          intro K hK
          go_simp
          refine (numberS_any 4 b g off H2.out (by decide)).mono ?_
          rintro r w3 ⟨po, rfl, hpo, i3, F3, hg3, hi3, h3⟩
          have H3 := Lib.hid h3
          have HG3 := Lib.hid hg3
          clear h3 hg3
          refine hK.out _ _ ((H3.out.boxq 1 rfl).cellAt 0) (fun _ => trivial) ?_
          clear hK K
          go_simp
          refine upTo_ready (rs := [15, 17]) (by kernel_rfl) (by simp) ?_
          refine AllU.cons rfl ?sa3 (AllU.cons rfl ?sb3 AllU.nil)
          case sa3 =>
            intro K hK
            go_simp
            refine (numberS_any 4 b g off H3.out (by decide)).mono ?_
            rintro r w4 ⟨he, rfl, hhe, i4, F4, hg4, hi4, h4⟩
            have H4 := Lib.hid h4
            have HG4 := Lib.hid hg4
            clear h4 hg4
            refine hK.out _ _ ((H4.out.boxq 1 rfl).cellAt 0) (fun _ => trivial) ?_
            clear hK K
            go_simp
            refine upTo_take (i := 16) (v := ?v13) rfl (by kernel_rfl) (by kernel_rfl) (by kernel_rfl) (fun _ _ _ h => by first | exact h | exact absurd h.1 (fun e => by cases e)) (by decide) (Or.inl ⟨by rfl, ?hy13⟩) ((H4.out.boxq 1 rfl).cellAt 0) (fun _ => trivial) ?rest13
            case hy13 =>
              intro w hSw
              clear hSw
              go_simp
              try with_reducible rfl
            go_simp
            refine upTo_next (i := 17) (by kernel_rfl) rfl ?_
            intro K hK
            have Ha4 := Lib.hid (H4.out.make 40 #[.int .i64 0, .int .i64 0, .int .i64 0, .int .i64 0, .slice none 0 0, .slice none 0 0])
            go_simp
            refine hK.out _ _ ((Ha4.out.boxq 2 rfl).cellAt 0) (fun _ => trivial) ?_
            clear hK K
            go_simp
            refine upTo_next (i := 18) (by kernel_rfl) rfl ?_
            intro K hK
            have e0 := (Ha4.out.boxq 0 rfl)
            obtain ⟨k0, k1, k2, k3, k4, k5⟩ := six e0
            have f0 := e0.free 0
            have f1 := e0.free 1
            have f2 := e0.free 2
            have f3 := e0.free 3
            have f4 := e0.free 4
            have f5 := e0.free 5
            have HZ := Lib.hid (H4.out.make 40 #[.int .i64 na, .int .i64 co, .int .i64 po, .int .i64 he, .slice none 0 0, .slice none 0 0])
            go_simp
            refine hK.out _ _ ((HZ.out.boxq 2 rfl).cellAt 0) (fun h => absurd h (by decide)) ?_
            clear hK K
            go_simp
            refine upTo_done (by kernel_rfl) ?_ _
            exact ⟨rfl, _, na, co, po, he, i4, F4, ⟨i1, F1, i2, F2, i3, F3, HG1.out, HG2.out, HG3.out, HG4.out, by omega⟩, rfl, HZ.out⟩
          case sb3 =>
            intro K hK
            have Ha3 := Lib.hid (H3.out.make 40 #[.int .i64 0, .int .i64 0, .int .i64 0, .int .i64 0, .slice none 0 0, .slice none 0 0])
            go_simp
            refine hK.out _ _ ((Ha3.out.boxq 2 rfl).cellAt 0) (fun _ => trivial) ?_
            clear hK K
            go_simp
            refine upTo_next (i := 15) (by kernel_rfl) rfl ?_
            intro K hK
            go_simp
            refine (numberS_any 4 b g off Ha3.out (by decide)).mono ?_
            rintro r w4 ⟨he, rfl, hhe, i4, F4, hg4, hi4, h4⟩
            have Ha4 := Lib.hid h4
            have HG4 := Lib.hid hg4
            clear h4 hg4
            refine hK.out _ _ ((Ha4.out.boxq 2 rfl).cellAt 0) (fun _ => trivial) ?_
            clear hK K
            go_simp
            refine upTo_take (i := 16) (v := ?v14) rfl (by kernel_rfl) (by kernel_rfl) (by kernel_rfl) (fun _ _ _ h => by first | exact h | exact absurd h.1 (fun e => by cases e)) (by decide) (Or.inl ⟨by rfl, ?hy14⟩) ((Ha4.out.boxq 2 rfl).cellAt 0) (fun _ => trivial) ?rest14
            case hy14 =>
              intro w hSw
              clear hSw
              go_simp
              try with_reducible rfl
            go_simp
            refine upTo_next (i := 18) (by kernel_rfl) rfl ?_
            intro K hK
            have e0 := (Ha4.out.boxq 0 rfl)
            obtain ⟨k0, k1, k2, k3, k4, k5⟩ := six e0
            have f0 := e0.free 0
            have f1 := e0.free 1
            have f2 := e0.free 2
            have f3 := e0.free 3
            have f4 := e0.free 4
            have f5 := e0.free 5
            have HZ := Lib.hid (((((((Ha4.out.cellq 0 rfl 0 (.int .i64 na)).cellq 0 rfl 1 (.int .i64 co)).cellq 0 rfl 2 (.int .i64 po)).cellq 0 rfl 3 (.int .i64 he)).cellq 0 rfl 4 (.slice none 0 0)).cellq 0 rfl 5 (.slice none 0 0)))
            go_simp
            refine hK.out _ _ ((HZ.out.boxq 2 rfl).cellAt 0) (fun h => absurd h (by decide)) ?_
            clear hK K
            go_simp
            refine upTo_done (by kernel_rfl) ?_ _
            exact ⟨rfl, _, na, co, po, he, i4, F4, ⟨i1, F1, i2, F2, i3, F3, HG1.out, HG2.out, HG3.out, HG4.out, by omega⟩, rfl, HZ.out⟩
        case sb2 =>
          intro K hK
          have Ha2 := Lib.hid (H2.out.make 40 #[.int .i64 0, .int .i64 0, .int .i64 0, .int .i64 0, .slice none 0 0, .slice none 0 0])
          go_simp
          refine hK.out _ _ ((Ha2.out.boxq 2 rfl).cellAt 0) (fun _ => trivial) ?_
          clear hK K
          go_simp
          refine upTo_next (i := 11) (by kernel_rfl) rfl ?_
          intro K hK
          go_simp
          refine (numberS_any 4 b g off Ha2.out (by decide)).mono ?_
          rintro r w3 ⟨po, rfl, hpo, i3, F3, hg3, hi3, h3⟩
          have Ha3 := Lib.hid h3
          have HG3 := Lib.hid hg3
          clear h3 hg3
          refine hK.out _ _ ((Ha3.out.boxq 2 rfl).cellAt 0) (fun _ => trivial) ?_
          clear hK K
          go_simp
          refine upTo_next (i := 15) (by kernel_rfl) rfl ?_
          intro K hK
          go_simp
          refine (numberS_any 4 b g off Ha3.out (by decide)).mono ?_
          rintro r w4 ⟨he, rfl, hhe, i4, F4, hg4, hi4, h4⟩
          have Ha4 := Lib.hid h4
          have HG4 := Lib.hid hg4
          clear h4 hg4
          refine hK.out _ _ ((Ha4.out.boxq 2 rfl).cellAt 0) (fun _ => trivial) ?_
          clear hK K
          go_simp
          refine upTo_take (i := 16) (v := ?v15) rfl (by kernel_rfl) (by kernel_rfl) (by kernel_rfl) (fun _ _ _ h => by first | exact h | exact absurd h.1 (fun e => by cases e)) (by decide) (Or.inl ⟨by rfl, ?hy15⟩) ((Ha4.out.boxq 2 rfl).cellAt 0) (fun _ => trivial) ?rest15
          case hy15 =>
            intro w hSw
            clear hSw
            go_simp
            try with_reducible rfl
          go_simp
          refine upTo_next (i := 18) (by kernel_rfl) rfl ?_
          intro K hK
          have e0 := (Ha4.out.boxq 0 rfl)
          obtain ⟨k0, k1, k2, k3, k4, k5⟩ := six e0
          have f0 := e0.free 0
          have f1 := e0.free 1
          have f2 := e0.free 2
          have f3 := e0.free 3
          have f4 := e0.free 4
          have f5 := e0.free 5
          have HZ := Lib.hid (((((((Ha4.out.cellq 0 rfl 0 (.int .i64 na)).cellq 0 rfl 1 (.int .i64 co)).cellq 0 rfl 2 (.int .i64 po)).cellq 0 rfl 3 (.int .i64 he)).cellq 0 rfl 4 (.slice none 0 0)).cellq 0 rfl 5 (.slice none 0 0)))
          go_simp
          refine hK.out _ _ ((HZ.out.boxq 2 rfl).cellAt 0) (fun h => absurd h (by decide)) ?_
          clear hK K
          go_simp
          refine upTo_done (by kernel_rfl) ?_ _
          exact ⟨rfl, _, na, co, po, he, i4, F4, ⟨i1, F1, i2, F2, i3, F3, HG1.out, HG2.out, HG3.out, HG4.out, by omega⟩, rfl, HZ.out⟩
      case sb1 =>
        intro K hK
        have Ha1 := Lib.hid (H1.out.make 40 #[.int .i64 0, .int .i64 0, .int .i64 0, .int .i64 0, .slice none 0 0, .slice none 0 0])
        go_simp
        refine hK.out _ _ ((Ha1.out.boxq 2 rfl).cellAt 0) (fun _ => trivial) ?_
        clear hK K
        go_simp
        refine upTo_next (i := 7) (by kernel_rfl) rfl ?_
        intro K hK
        go_simp
        refine (numberS_any 4 b g off Ha1.out (by decide)).mono ?_
        rintro r w2 ⟨co, rfl, hco, i2, F2, hg2, hi2, h2⟩
        have Ha2 := Lib.hid h2
        have HG2 := Lib.hid hg2
        clear h2 hg2
        refine hK.out _ _ ((Ha2.out.boxq 2 rfl).cellAt 0) (fun _ => trivial) ?_
        clear hK K
        go_simp
        refine upTo_next (i := 11) (by kernel_rfl) rfl ?_
        intro K hK
        go_simp
        refine (numberS_any 4 b g off Ha2.out (by decide)).mono ?_
        rintro r w3 ⟨po, rfl, hpo, i3, F3, hg3, hi3, h3⟩
        have Ha3 := Lib.hid h3
        have HG3 := Lib.hid hg3
        clear h3 hg3
        refine hK.out _ _ ((Ha3.out.boxq 2 rfl).cellAt 0) (fun _ => trivial) ?_
        clear hK K
        go_simp
        refine upTo_next (i := 15) (by kernel_rfl) rfl ?_
        intro K hK
        go_simp
        refine (numberS_any 4 b g off Ha3.out (by decide)).mono ?_
        rintro r w4 ⟨he, rfl, hhe, i4, F4, hg4, hi4, h4⟩
        have Ha4 := Lib.hid h4
        have HG4 := Lib.hid hg4
        clear h4 hg4
        refine hK.out _ _ ((Ha4.out.boxq 2 rfl).cellAt 0) (fun _ => trivial) ?_
        clear hK K
        go_simp
        refine upTo_take (i := 16) (v := ?v16) rfl (by kernel_rfl) (by kernel_rfl) (by kernel_rfl) (fun _ _ _ h => by first | exact h | exact absurd h.1 (fun e => by cases e)) (by decide) (Or.inl ⟨by rfl, ?hy16⟩) ((Ha4.out.boxq 2 rfl).cellAt 0) (fun _ => trivial) ?rest16
        case hy16 =>
          intro w hSw
          clear hSw
          go_simp
          try with_reducible rfl
        go_simp
        refine upTo_next (i := 18) (by kernel_rfl) rfl ?_
        intro K hK
        have e0 := (Ha4.out.boxq 0 rfl)
        obtain ⟨k0, k1, k2, k3, k4, k5⟩ := six e0
        have f0 := e0.free 0
        have f1 := e0.free 1
        have f2 := e0.free 2
        have f3 := e0.free 3
        have f4 := e0.free 4
        have f5 := e0.free 5
        have HZ := Lib.hid (((((((Ha4.out.cellq 0 rfl 0 (.int .i64 na)).cellq 0 rfl 1 (.int .i64 co)).cellq 0 rfl 2 (.int .i64 po)).cellq 0 rfl 3 (.int .i64 he)).cellq 0 rfl 4 (.slice none 0 0)).cellq 0 rfl 5 (.slice none 0 0)))
        go_simp
        refine hK.out _ _ ((HZ.out.boxq 2 rfl).cellAt 0) (fun h => absurd h (by decide)) ?_
        clear hK K
        go_simp
        refine upTo_done (by kernel_rfl) ?_ _
        exact ⟨rfl, _, na, co, po, he, i4, F4, ⟨i1, F1, i2, F2, i3, F3, HG1.out, HG2.out, HG3.out, HG4.out, by omega⟩, rfl, HZ.out⟩
    case sb0 =>
      intro K hK
      have Ha0 := Lib.hid (show RdAt w0 _ rb g off cap b i en F x4 x5 x6 (.slice A n c) x8 (Loc.box w.heap.size _ _ :: _) from HD.out.make 40 #[.int .i64 0, .int .i64 0, .int .i64 0, .int .i64 0, .slice none 0 0, .slice none 0 0])
      go_simp
      refine hK.out _ _ ((Ha0.out.boxq 2 rfl).cellAt 0) (fun _ => trivial) ?_
      clear hK K
      go_simp
      refine upTo_next (i := 3) (by kernel_rfl) rfl ?_
      intro K hK
      go_simp
      refine (numberS_any 2 b g off Ha0.out (by decide)).mono ?_
      rintro r w1 ⟨na, rfl, hna, i1, F1, hg1, hi1, h1⟩
      have Ha1 := Lib.hid h1
      have HG1 := Lib.hid hg1
      clear h1 hg1
      refine hK.out _ _ ((Ha1.out.boxq 2 rfl).cellAt 0) (fun _ => trivial) ?_
      clear hK K
      go_simp
      refine upTo_next (i := 7) (by kernel_rfl) rfl ?_
      intro K hK
      go_simp
      refine (numberS_any 4 b g off Ha1.out (by decide)).mono ?_
      rintro r w2 ⟨co, rfl, hco, i2, F2, hg2, hi2, h2⟩
      have Ha2 := Lib.hid h2
      have HG2 := Lib.hid hg2
      clear h2 hg2
      refine hK.out _ _ ((Ha2.out.boxq 2 rfl).cellAt 0) (fun _ => trivial) ?_
      clear hK K
      go_simp
      refine upTo_next (i := 11) (by kernel_rfl) rfl ?_
      intro K hK
      go_simp
      refine (numberS_any 4 b g off Ha2.out (by decide)).mono ?_
      rintro r w3 ⟨po, rfl, hpo, i3, F3, hg3, hi3, h3⟩
      have Ha3 := Lib.hid h3
      have HG3 := Lib.hid hg3
      clear h3 hg3
      refine hK.out _ _ ((Ha3.out.boxq 2 rfl).cellAt 0) (fun _ => trivial) ?_
      clear hK K
      go_simp
      refine upTo_next (i := 15) (by kernel_rfl) rfl ?_
      intro K hK
      go_simp
      refine (numberS_any 4 b g off Ha3.out (by decide)).mono ?_
      rintro r w4 ⟨he, rfl, hhe, i4, F4, hg4, hi4, h4⟩
      have Ha4 := Lib.hid h4
      have HG4 := Lib.hid hg4
      clear h4 hg4
      refine hK.out _ _ ((Ha4.out.boxq 2 rfl).cellAt 0) (fun _ => trivial) ?_
      clear hK K
      go_simp
      refine upTo_take (i := 16) (v := ?v17) rfl (by kernel_rfl) (by kernel_rfl) (by kernel_rfl) (fun _ _ _ h => by first | exact h | exact absurd h.1 (fun e => by cases e)) (by decide) (Or.inl ⟨by rfl, ?hy17⟩) ((Ha4.out.boxq 2 rfl).cellAt 0) (fun _ => trivial) ?rest17
      case hy17 =>
        intro w hSw
        clear hSw
        go_simp
        try with_reducible rfl
      go_simp
      refine upTo_next (i := 18) (by kernel_rfl) rfl ?_
      intro K hK
      have e0 := (Ha4.out.boxq 0 rfl)
      obtain ⟨k0, k1, k2, k3, k4, k5⟩ := six e0
      have f0 := e0.free 0
      have f1 := e0.free 1
      have f2 := e0.free 2
      have f3 := e0.free 3
      have f4 := e0.free 4
      have f5 := e0.free 5
      have HZ := Lib.hid (((((((Ha4.out.cellq 0 rfl 0 (.int .i64 na)).cellq 0 rfl 1 (.int .i64 co)).cellq 0 rfl 2 (.int .i64 po)).cellq 0 rfl 3 (.int .i64 he)).cellq 0 rfl 4 (.slice none 0 0)).cellq 0 rfl 5 (.slice none 0 0)))
      go_simp
      refine hK.out _ _ ((HZ.out.boxq 2 rfl).cellAt 0) (fun h => absurd h (by decide)) ?_
      clear hK K
      go_simp
      refine upTo_done (by kernel_rfl) ?_ _
      exact ⟨rfl, _, na, co, po, he, i4, F4, ⟨i1, F1, i2, F2, i3, F3, HG1.out, HG2.out, HG3.out, HG4.out, by omega⟩, rfl, HZ.out⟩
  rintro a2 w1 ⟨kb, na, co, po, he, i4, F4, hfour, rfl, hr⟩
  have HFo := Lib.hid hfour
  have h2 := hr.past ((Keeps.refl _ _).drew)
  have HD := Lib.hid (h2.nil w0.heap.size 3 1)
  have hS0 : Hid (w1.drew.cell? ⟨bx, 0, none⟩ = some (.pointer (some ⟨rb, 0, none⟩))) := Lib.hid ((HD.out.boxq 3 rfl).cellAt 0)
  have HC := Lib.hid (numberS_any 1 b g off HD.out (by decide))
  clear h2 hr hfour
  go_wp2_with fail
  refine wp_region_upTo 8 (fun W => W.cell? ⟨bx, 0, none⟩ = some (.pointer (some ⟨rb, 0, none⟩))) (fun _ => True) (by kernel_rfl) ?_
  refine upTo_take (i := 0) (v := ?v18) rfl (by kernel_rfl) (by kernel_rfl) (by kernel_rfl) (fun _ _ _ h => by first | exact h | exact absurd h.1 (fun e => by cases e)) (by decide) (Or.inl ⟨by rfl, ?hy18⟩) (hS0.out) (fun _ => trivial) ?rest18
  case hy18 =>
    intro w hSw
    obtain qh := hSw
    go_simp
    try with_reducible rfl
  go_simp
  refine upTo_take (i := 1) (v := ?v19) rfl (by kernel_rfl) (by kernel_rfl) (by kernel_rfl) (fun _ _ _ h => by first | exact h | exact absurd h.1 (fun e => by cases e)) (by decide) (Or.inl ⟨by rfl, ?hy19⟩) (hS0.out) (fun _ => trivial) ?rest19
  case hy19 =>
    intro w hSw
    clear hSw
    go_simp
    try with_reducible rfl
  go_simp
  refine upTo_take (i := 2) (v := ?v20) rfl (by kernel_rfl) (by kernel_rfl) (by kernel_rfl) (fun _ _ _ h => by first | exact h | exact absurd h.1 (fun e => by cases e)) (by decide) (Or.inl ⟨by rfl, ?hy20⟩) (hS0.out) (fun _ => trivial) ?rest20
  case hy20 =>
    intro w hSw
    clear hSw
    go_simp
    try with_reducible rfl
  go_simp
  refine upTo_take (i := 3) (v := ?v21) rfl (by kernel_rfl) (by kernel_rfl) (by kernel_rfl) (fun _ _ _ h => by first | exact h | exact absurd h.1 (fun e => by cases e)) (by decide) (Or.inl ⟨by rfl, ?hy21⟩) (hS0.out) (fun _ => trivial) ?rest21
  case hy21 =>
    intro w hSw
    obtain qh := hSw
    go_simp
    try with_reducible rfl
  go_simp
  refine upTo_take (i := 4) (v := ?v22) rfl (by kernel_rfl) (by kernel_rfl) (by kernel_rfl) (fun _ _ _ h => by first | exact h | exact absurd h.1 (fun e => by cases e)) (by decide) (Or.inl ⟨by rfl, ?hy22⟩) (hS0.out) (fun _ => trivial) ?rest22
  case hy22 =>
    intro w hSw
    clear hSw
    go_simp
    try with_reducible rfl
  go_simp
  refine upTo_take (i := 5) (v := ?v23) rfl (by kernel_rfl) (by kernel_rfl) (by kernel_rfl) (fun _ _ _ h => by first | exact h | exact absurd h.1 (fun e => by cases e)) (by decide) (Or.inl ⟨by rfl, ?hy23⟩) (hS0.out) (fun _ => trivial) ?rest23
  case hy23 =>
    intro w hSw
    clear hSw
    go_simp
    try with_reducible rfl
  go_simp
  refine upTo_take (i := 7) (v := ?v24) rfl (by kernel_rfl) (by kernel_rfl) (by kernel_rfl) (fun _ _ _ h => by first | exact h | exact absurd h.1 (fun e => by cases e)) (by decide) (Or.inl ⟨by rfl, ?hy24⟩) (hS0.out) (fun _ => trivial) ?rest24
  case hy24 =>
    intro w hSw
    clear hSw
    go_simp
    try with_reducible rfl
  go_simp
  refine upTo_next (i := 6) (by kernel_rfl) rfl ?_
  intro K hK
  go_simp
  refine (HC.out).mono ?_
  rintro r w2 ⟨n1, rfl, hn1, i5, F5, hg5, hi5, h5⟩
  have H5 := Lib.hid h5
  have HG5 := Lib.hid hg5
  clear h5 HC HD hS0 hg5
  refine hK.out _ _ ((H5.out.boxq 3 rfl).cellAt 0) (fun _ => trivial) ?_
  clear hK K
  go_simp
  refine upTo_next (i := 8) (by kernel_rfl) rfl ?_
  intro K hK
  go_simp
  refine (times_any 143 n1 rb #[.pointer (some ⟨kb, 0, none⟩), .pointer (some ⟨bx, 0, none⟩)] (enters_of Tryz.func143 (by kernel_rfl) rfl)
    (fun m W => ∃ (j : Nat) (F6 : Flt) (l : List Int) (A1 : Option Addr) (c1 : Nat), Goes (repP (numP 2) m) (b.take en) i5 F5 j F6 l ∧ l.length = m ∧ i5 ≤ j ∧
      RdAt w0 W rb g off cap b j en F6 x4 x5 x6 (.slice A n c) x8 (Loc.own w0.heap.size 3 1 (.slice A1 m c1) m (l.map (Value.int .i64)) :: Loc.box kb 40 #[.int .i64 na, .int .i64 co, .int .i64 po, .int .i64 he, .slice A1 m c1, .slice none 0 0] :: Loc.own w0.heap.size 40 6 (.slice A n c) n xs :: Loc.box bx 176 #[.pointer (some ⟨rb, 0, none⟩)] :: Q)) w2 (by omega)
    (fun m W hm => by obtain ⟨j, F6, l, A1, c1, hg, hl, hj, hr⟩ := hm; exact hr.err) (fun m W hm hlt hnil => ?step) ⟨i5, F5, [], none, 0, Goes.ret _, rfl, Nat.le_refl _, H5.out⟩).mono ?_
  case step =>
    obtain ⟨j, F6, l, A1, c1, hg, hl, hj, hr⟩ := hm
    refine (tagMore_any (kx := 1) hr rfl (by omega)).mono ?_
    rintro r W' ⟨rfl, y, A', c', hy, j2, F7, hg7, hj2, hr2⟩
    exact ⟨rfl, j2, F7, l ++ [(y : Int)], A', c', hg.snoc hg7, by rw [List.length_append, hl]; rfl, by omega, by rw [List.map_append]; exact hr2⟩
  rintro r w3 ⟨rfl, m, hm, ⟨i6, F6, tl, A1, c1, hg, hl, hi6, hr⟩, hend⟩
  have HGT : Hid (Goes (listP 1 (numP 2)) (b.take en) i4 F4 i6 F6 tl) := Lib.hid (HG5.out.list hg hm (hend.imp id hr.halted))
  subst hl
  have H6 := Lib.hid hr
  have htl : tl.length ≤ 256 := by omega
  clear hr hg hend H5 HG5
  refine hK.out _ _ ((H6.out.boxq 3 rfl).cellAt 0) (fun h => absurd h (by decide)) ?_
  clear hK K
  go_simp
  refine upTo_done (by kernel_rfl) ?_ _
  have h2 := (H6.out.past ((Keeps.refl _ w3).drew))
  have HD := Lib.hid (h2.nil w0.heap.size 43 4)
  have HE := Lib.hid (HD.out.perm ((List.Perm.swap _ _ _).cons _))
  have hS0 : Hid (w3.drew.cell? ⟨bx, 0, none⟩ = some (.pointer (some ⟨rb, 0, none⟩))) := Lib.hid ((HE.out.boxq 4 rfl).cellAt 0)
  have HC := Lib.hid (numberS_any 1 b g off HE.out (by decide))
  clear h2 HD H6
  go_wp2_with fail
  refine wp_region_upTo 8 (fun W => W.cell? ⟨bx, 0, none⟩ = some (.pointer (some ⟨rb, 0, none⟩))) (fun _ => True) (by kernel_rfl) ?_
  refine upTo_take (i := 0) (v := ?v25) rfl (by kernel_rfl) (by kernel_rfl) (by kernel_rfl) (fun _ _ _ h => by first | exact h | exact absurd h.1 (fun e => by cases e)) (by decide) (Or.inl ⟨by rfl, ?hy25⟩) (hS0.out) (fun _ => trivial) ?rest25
  case hy25 =>
    intro w hSw
    obtain qh := hSw
    go_simp
    try with_reducible rfl
  go_simp
  refine upTo_take (i := 1) (v := ?v26) rfl (by kernel_rfl) (by kernel_rfl) (by kernel_rfl) (fun _ _ _ h => by first | exact h | exact absurd h.1 (fun e => by cases e)) (by decide) (Or.inl ⟨by rfl, ?hy26⟩) (hS0.out) (fun _ => trivial) ?rest26
  case hy26 =>
    intro w hSw
    clear hSw
    go_simp
    try with_reducible rfl
  go_simp
  refine upTo_take (i := 2) (v := ?v27) rfl (by kernel_rfl) (by kernel_rfl) (by kernel_rfl) (fun _ _ _ h => by first | exact h | exact absurd h.1 (fun e => by cases e)) (by decide) (Or.inl ⟨by rfl, ?hy27⟩) (hS0.out) (fun _ => trivial) ?rest27
  case hy27 =>
    intro w hSw
    clear hSw
    go_simp
    try with_reducible rfl
  go_simp
  refine upTo_take (i := 3) (v := ?v28) rfl (by kernel_rfl) (by kernel_rfl) (by kernel_rfl) (fun _ _ _ h => by first | exact h | exact absurd h.1 (fun e => by cases e)) (by decide) (Or.inl ⟨by rfl, ?hy28⟩) (hS0.out) (fun _ => trivial) ?rest28
  case hy28 =>
    intro w hSw
    obtain qh := hSw
    go_simp
    try with_reducible rfl
  go_simp
  refine upTo_take (i := 4) (v := ?v29) rfl (by kernel_rfl) (by kernel_rfl) (by kernel_rfl) (fun _ _ _ h => by first | exact h | exact absurd h.1 (fun e => by cases e)) (by decide) (Or.inl ⟨by rfl, ?hy29⟩) (hS0.out) (fun _ => trivial) ?rest29
  case hy29 =>
    intro w hSw
    clear hSw
    go_simp
    try with_reducible rfl
  go_simp
  refine upTo_take (i := 5) (v := ?v30) rfl (by kernel_rfl) (by kernel_rfl) (by kernel_rfl) (fun _ _ _ h => by first | exact h | exact absurd h.1 (fun e => by cases e)) (by decide) (Or.inl ⟨by rfl, ?hy30⟩) (hS0.out) (fun _ => trivial) ?rest30
  case hy30 =>
    intro w hSw
    clear hSw
    go_simp
    try with_reducible rfl
  go_simp
  refine upTo_take (i := 7) (v := ?v31) rfl (by kernel_rfl) (by kernel_rfl) (by kernel_rfl) (fun _ _ _ h => by first | exact h | exact absurd h.1 (fun e => by cases e)) (by decide) (Or.inl ⟨by rfl, ?hy31⟩) (hS0.out) (fun _ => trivial) ?rest31
  case hy31 =>
    intro w hSw
    clear hSw
    go_simp
    try with_reducible rfl
  go_simp
  refine upTo_next (i := 6) (by kernel_rfl) rfl ?_
  intro K hK
  go_simp
  refine (HC.out).mono ?_
  rintro r w4 ⟨n2, rfl, hn2, i7, F7, hg7, hi7, h7⟩
  have H7 := Lib.hid h7
  have HG7 := Lib.hid hg7
  clear h7 HC HE hS0 hg7
  refine hK.out _ _ ((H7.out.boxq 4 rfl).cellAt 0) (fun _ => trivial) ?_
  clear hK K
  go_simp
  refine upTo_next (i := 8) (by kernel_rfl) rfl ?_
  intro K hK
  go_simp
  refine (times_any 144 n2 rb #[.pointer (some ⟨kb, 0, none⟩), .pointer (some ⟨bx, 0, none⟩)] (enters_of Tryz.func144 (by kernel_rfl) rfl)
    (fun m W => ∃ (j : Nat) (F8 : Flt) (es : List PE) (A2 : Option Addr) (c2 : Nat), Goes (repP effP m) (b.take en) i7 F7 j F8 (es.map PE.e) ∧ es.length = m ∧ i7 ≤ j ∧
      RdAt w0 W rb g off cap b j en F8 x4 x5 x6 (.slice A n c) x8 (Loc.own w0.heap.size 43 4 (.slice A2 m c2) m (effVals es) :: Loc.box kb 40 #[.int .i64 na, .int .i64 co, .int .i64 po, .int .i64 he, .slice A1 tl.length c1, .slice A2 m c2] :: ((Loc.own w0.heap.size 3 1 (.slice A1 tl.length c1) tl.length (tl.map (Value.int .i64)) :: Loc.own w0.heap.size 40 6 (.slice A n c) n xs :: Loc.box bx 176 #[.pointer (some ⟨rb, 0, none⟩)] :: Q) ++ es.flatMap (PE.locs w0.heap.size)))) w4 (by omega)
    (fun m W hm => by obtain ⟨j, F8, l, A2, c2, hg, hl, hj, hr⟩ := hm; exact hr.err) (fun m W hm hlt hnil => ?step) ⟨i7, F7, [], none, 0, Goes.ret _, rfl, Nat.le_refl _, by simp only [List.flatMap_nil, List.append_nil]; exact H7.out⟩).mono ?_
  case step =>
    obtain ⟨j, F8, es, A2, c2, hg, hl, hj, hr⟩ := hm
    refine (effMore_any (kx := 2) hr rfl (by omega)).mono ?_
    rintro r W' ⟨rfl, p, A', c', j2, F9, hg9, hj2, hr2⟩
    have e1 : effVals (es ++ [p]) = effVals es ++ p.vals.toList := by unfold effVals; simp
    have e2 : (es ++ [p]).flatMap (PE.locs w0.heap.size) = es.flatMap (PE.locs w0.heap.size) ++ p.locs w0.heap.size := by simp
    refine ⟨rfl, j2, F9, es ++ [p], A', c', by rw [List.map_append]; exact hg.snoc hg9, by rw [List.length_append, hl]; rfl, by omega, ?_⟩
    rw [e1, e2, ← List.append_assoc]
    exact hr2
  rintro r w5 ⟨rfl, m, hm, ⟨i8, F8, es, A2, c2, hg, hl, hi8, hr⟩, hend⟩
  have HGE : Hid (Goes (listP 1 effP) (b.take en) i6 F6 i8 F8 (es.map PE.e)) := Lib.hid (HG7.out.list hg hm (hend.imp id hr.halted))
  subst hl
  have H8 := Lib.hid hr
  clear hr hg hend H7 HG7
  refine hK.out _ _ ((H8.out.boxq 4 rfl).cellAt 0) (fun h => absurd h (by decide)) ?_
  clear hK K
  go_simp
  refine upTo_done (by kernel_rfl) ?_ _
  have HD := Lib.hid (H8.out.past ((Keeps.refl _ w5).drew))
  have hS0 : Hid (w5.drew.cell? ⟨bx, 0, none⟩ = some (.pointer (some ⟨rb, 0, none⟩)) ∧ w5.drew.cell? ⟨kb, 0, none⟩ = some (.int .i64 na) ∧ w5.drew.cell? ⟨kb, 1, none⟩ = some (.int .i64 co) ∧ w5.drew.cell? ⟨kb, 2, none⟩ = some (.int .i64 po) ∧ w5.drew.cell? ⟨kb, 3, none⟩ = some (.int .i64 he) ∧ w5.drew.cell? ⟨kb, 4, none⟩ = some (.slice A1 tl.length c1) ∧ w5.drew.cell? ⟨kb, 5, none⟩ = some (.slice A2 es.length c2)) := Lib.hid ⟨(HD.out.boxq 4 rfl).cellAt 0, six (HD.out.boxq 1 rfl)⟩
  have hT0 : Hid (w5.drew.cell? ⟨rb, 7, none⟩ = some (.slice A n c)) := Lib.hid (by
    obtain ⟨fb, hb⟩ := HD.out.rbox
    exact hb.cellAt 7)
  clear H8
  go_wp2_with fail
  refine wp_region_upTo 8 (fun W => W.cell? ⟨bx, 0, none⟩ = some (.pointer (some ⟨rb, 0, none⟩)) ∧ W.cell? ⟨kb, 0, none⟩ = some (.int .i64 na) ∧ W.cell? ⟨kb, 1, none⟩ = some (.int .i64 co) ∧ W.cell? ⟨kb, 2, none⟩ = some (.int .i64 po) ∧ W.cell? ⟨kb, 3, none⟩ = some (.int .i64 he) ∧ W.cell? ⟨kb, 4, none⟩ = some (.slice A1 tl.length c1) ∧ W.cell? ⟨kb, 5, none⟩ = some (.slice A2 es.length c2)) (fun W => W.cell? ⟨rb, 7, none⟩ = some (.slice A n c)) (by kernel_rfl) ?_
  refine upTo_take (i := 0) (v := ?v32) rfl (by kernel_rfl) (by kernel_rfl) (by kernel_rfl) (fun _ _ _ h => by first | exact h | exact absurd h.1 (fun e => by cases e)) (by decide) (Or.inl ⟨by rfl, ?hy32⟩) (hS0.out) (fun _ => hT0.out) ?rest32
  case hy32 =>
    intro w hSw
    obtain ⟨qh, k0, k1, k2, k3, k4, k5⟩ := hSw
    go_simp
    try with_reducible rfl
  go_simp
  refine upTo_take (i := 1) (v := ?v33) rfl (by kernel_rfl) (by kernel_rfl) (by kernel_rfl) (fun _ _ _ h => by first | exact h | exact absurd h.1 (fun e => by cases e)) (by decide) (Or.inl ⟨by rfl, ?hy33⟩) (hS0.out) (fun _ => hT0.out) ?rest33
  case hy33 =>
    intro w hSw
    obtain ⟨qh, k0, k1, k2, k3, k4, k5⟩ := hSw
    go_simp
    try with_reducible rfl
  go_simp
  refine upTo_take (i := 2) (v := ?v34) rfl (by kernel_rfl) (by kernel_rfl) (by kernel_rfl) (fun _ _ _ h => by first | exact h | exact absurd h.1 (fun e => by cases e)) (by decide) (Or.inl ⟨by rfl, ?hy34⟩) (hS0.out) (fun _ => hT0.out) ?rest34
  case hy34 =>
    intro w hSw
    clear hSw
    go_simp
    try with_reducible rfl
  go_simp
  refine upTo_take (i := 3) (v := ?v35) rfl (by kernel_rfl) (by kernel_rfl) (by kernel_rfl) (fun _ _ _ h => by first | exact h | exact absurd h.1 (fun e => by cases e)) (by decide) (Or.inl ⟨by rfl, ?hy35⟩) (hS0.out) (fun _ => hT0.out) ?rest35
  case hy35 =>
    intro w hSw
    clear hSw
    go_simp
    try with_reducible rfl
  go_simp
  refine upTo_take (i := 4) (v := ?v36) rfl (by kernel_rfl) (by kernel_rfl) (by kernel_rfl) (fun _ _ _ h => by first | exact h | exact absurd h.1 (fun e => by cases e)) (by decide) (Or.inl ⟨by rfl, ?hy36⟩) (hS0.out) (fun _ => hT0.out) ?rest36
  case hy36 =>
    intro w hSw
    clear hSw
    go_simp
    try with_reducible rfl
  go_simp
  refine upTo_load (i := 5) (v := ?v37) rfl (by kernel_rfl) (by kernel_rfl) (by kernel_rfl) (fun _ _ _ h => by first | exact h | exact absurd h.1 (fun e => by cases e)) (by decide) (by kernel_rfl) (by kernel_rfl) (Or.inl ⟨by rfl, ?hy37⟩) (hS0.out) (hT0.out) ?rest37
  case hy37 =>
    intro w hSw
    obtain qh := hSw
    go_simp
    try with_reducible rfl
  go_simp
  refine upTo_take (i := 6) (v := ?v38) rfl (by kernel_rfl) (by kernel_rfl) (by kernel_rfl) (fun _ _ _ h => by first | exact h | exact absurd h.1 (fun e => by cases e)) (by decide) (Or.inl ⟨by rfl, ?hy38⟩) (hS0.out) (fun _ => hT0.out) ?rest38
  case hy38 =>
    intro w hSw
    obtain ⟨qh, k0, k1, k2, k3, k4, k5⟩ := hSw
    go_simp
    try with_reducible rfl
  go_simp
  have H9 := Lib.hid (HD.out.past ((Keeps.refl _ w5.drew).alloc (.cells #[.int .i64 na, .int .i64 co, .int .i64 po, .int .i64 he, .slice A1 tl.length c1, .slice A2 es.length c2] 40)))
  refine upTo_next (i := 7) (by kernel_rfl) rfl ?_
  intro K hK
  go_simp
  refine hK.out _ _ (⟨(H9.out.boxq 4 rfl).cellAt 0, six (H9.out.boxq 1 rfl)⟩) (fun _ => by obtain ⟨fb, hb⟩ := H9.out.rbox; exact hb.cellAt 7) ?_
  clear hK K
  go_simp
  refine upTo_next (i := 8) (by kernel_rfl) rfl ?_
  intro K hK
  refine stepIfT (by rfl) ?_
  have hBs : w0.heap.size ≤ (w5.drew.alloc (.cells #[.int .i64 na, .int .i64 co, .int .i64 po, .int .i64 he, .slice A1 tl.length c1, .slice A2 es.length c2] 40)).heap.size := H9.out.old.size
  refine wp_append_cells _ _ _ 24 rfl w0.heap.size 40 (.agg #[.int .i64 0, .int .i64 0, .int .i64 0, .int .i64 0, .slice none 0 0, .slice none 0 0]) 6 80 Tryz.underlying24 info_knd rfl (by decide) (.slice A n c) n xs rfl (H9.out.own 3 rfl) (w5.heap.size + 1) (some ⟨w5.heap.size, 0, none⟩) 1 1 [.int .i64 na, .int .i64 co, .int .i64 po, .int .i64 he, .slice A1 tl.length c1, .slice A2 es.length c2] rfl (Lies.row (t := 40) (fr := (0, 0)) (heap_alloc_new _ _) (Nat.lt_succ_self _)) rfl (fun u hu => by
    simp only [List.mem_cons, List.not_mem_nil, or_false] at hu
    rcases hu with rfl | rfl | rfl | rfl | rfl | rfl <;> rfl) (by simp only [maxLen]; omega) (by omega) hBs ?_
  intro A3 c3 w6 own6 hg6 hor6 _ _
  have H10 := Lib.hid (H9.out.grow 3 rfl own6 hg6 hor6)
  have H11 := Lib.hid (H10.out.set7 (.slice A3 (n + 1) c3))
  obtain ⟨fb, hb5⟩ := H10.out.rbox
  have f5 := hb5.free 7
  have c5 := hb5.cellAt 7
  clear own6 hg6 hor6 hb5 hS0 hT0
  refine hK.out _ _ (⟨(H10.out.boxq 4 rfl).cellAt 0, six (H10.out.boxq 1 rfl)⟩) (fun h => absurd h (by decide)) ?_
  clear hK K
  go_simp
  refine upTo_take (i := 9) (v := ?v39) rfl (by kernel_rfl) (by kernel_rfl) (by kernel_rfl) (fun _ _ _ h => by first | exact h | exact absurd h.1 (fun e => by cases e)) (by decide) (Or.inl ⟨by rfl, ?hy39⟩) (⟨(H10.out.boxq 4 rfl).cellAt 0, six (H10.out.boxq 1 rfl)⟩) (fun h => absurd h (by decide)) ?rest39
  case hy39 =>
    intro w hSw
    clear hSw
    go_simp
    try with_reducible rfl
  go_simp
  refine upTo_take (i := 10) (v := ?v40) rfl (by kernel_rfl) (by kernel_rfl) (by kernel_rfl) (fun _ _ _ h => by first | exact h | exact absurd h.1 (fun e => by cases e)) (by decide) (Or.inl ⟨by rfl, ?hy40⟩) (⟨(H10.out.boxq 4 rfl).cellAt 0, six (H10.out.boxq 1 rfl)⟩) (fun h => absurd h (by decide)) ?rest40
  case hy40 =>
    intro w hSw
    clear hSw
    go_simp
    try with_reducible rfl
  go_simp
  refine upTo_take (i := 11) (v := ?v41) rfl (by kernel_rfl) (by kernel_rfl) (by kernel_rfl) (fun _ _ _ h => by first | exact h | exact absurd h.1 (fun e => by cases e)) (by decide) (Or.inl ⟨by rfl, ?hy41⟩) (⟨(H10.out.boxq 4 rfl).cellAt 0, six (H10.out.boxq 1 rfl)⟩) (fun h => absurd h (by decide)) ?rest41
  case hy41 =>
    intro w hSw
    clear hSw
    go_simp
    try with_reducible rfl
  go_simp
  refine upTo_next (i := 12) (by kernel_rfl) rfl ?_
  intro K hK
  go_simp
  refine hK.out _ _ (⟨(H11.out.boxq 4 rfl).cellAt 0, six (H11.out.boxq 1 rfl)⟩) (fun h => absurd h (by decide)) ?_
  clear hK K
  go_simp
  refine upTo_done (by kernel_rfl) ?_ _
  obtain ⟨i1, F1, i2, F2, i3, F3, g1, g2, g3, g4, hi4⟩ := HFo.out
  have hgo : Hid (Goes kndP (b.take en) i F i8 F8 (⟨na, co, po, he, tl, es.map PE.e⟩ : Knd)) := Lib.hid
    (g1.seq (f := fun n => (numP 4).andThen fun c => (numP 4).andThen fun p => (numP 4).andThen fun h => (listP 1 (numP 2)).andThen fun t => (listP 1 effP).map fun e => (⟨n, c, p, h, t, e⟩ : Knd))
    (g2.seq (f := fun c => (numP 4).andThen fun p => (numP 4).andThen fun h => (listP 1 (numP 2)).andThen fun t => (listP 1 effP).map fun e => (⟨(na : Int), c, p, h, t, e⟩ : Knd))
    (g3.seq (f := fun p => (numP 4).andThen fun h => (listP 1 (numP 2)).andThen fun t => (listP 1 effP).map fun e => (⟨(na : Int), (co : Int), p, h, t, e⟩ : Knd))
    (g4.seq (f := fun h => (listP 1 (numP 2)).andThen fun t => (listP 1 effP).map fun e => (⟨(na : Int), (co : Int), (po : Int), h, t, e⟩ : Knd))
    (HGT.out.seq (f := fun t => (listP 1 effP).map fun e => (⟨(na : Int), (co : Int), (po : Int), (he : Int), t, e⟩ : Knd)) (HGE.out.map fun e => (⟨(na : Int), (co : Int), (po : Int), (he : Int), tl, e⟩ : Knd)))))))
  have hle : i ≤ i8 := by omega
  go_end0
  refine ⟨rfl, ⟨na, co, po, he, tl, A1, c1, es, A2, c2⟩, A3, c3, i8, F8, hgo.out, hle, ?_⟩
  exact (H11.out.sub ((List.sublist_cons_self _ _).cons_cons _)).perm ((List.perm_append_comm_assoc [_, _] [_, _] _).trans ((((List.Perm.swap _ _ _).trans (List.perm_append_comm_assoc [_, _] Q _)).cons _).cons _))
end
end Go.Proofs.YtcmbdnjcfneinaaGreatDoor
