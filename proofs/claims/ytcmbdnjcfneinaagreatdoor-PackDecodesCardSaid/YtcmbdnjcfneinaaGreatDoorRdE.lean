/-
  The reader of chapter 19: the cards, the ints: the walks. Conditions: lengths within 2 ^ 20.
-/
import Derived.Test.YtcmbdnjcfneinaaGreatDoorRdMa
import Derived.Shelf.Abstract
namespace Go.Proofs.YtcmbdnjcfneinaaGreatDoor
open Go.RowKit
theorem Goes.list {α : Type} {p : Pr α} {b : List Oct} {i i1 j k n m : Nat} {F F1 G : Option (Nat × Nat)} {l : List α} (h : Goes (numP k) b i F i1 F1 (n : Int)) (h2 : Goes (repP p m) b i1 F1 j G l) (hm : m ≤ n) (he : m = n ∨ ∃ f, G = some f) : Goes (listP k p) b i F j G l := by
  refine h.seq ?_
  rw [Int.toNat_natCast]
  rcases he with rfl | ⟨f, rfl⟩
  · exact h2
  · exact h2.more hm
theorem errV_halt {F : Flt} {fb fb' : Nat} {f : Nat × Nat} (h : errV F fb = errV (some f) fb') : ∃ f', F = some f' := by
  cases F with
  | none => cases h
  | some f' => exact ⟨f', rfl⟩
section
variable {w0 w : World} {rb g off cap i en : Nat} {b : List Oct} {F : Flt} {x4 x5 x6 x7 x8 : Value} {Q : List Loc}
theorem RdAt.halted (h : RdAt w0 w rb g off cap b i en F x4 x5 x6 x7 x8 Q) (hh : Halted rb w) : ∃ f, F = some f := by
  obtain ⟨fb, hb⟩ := h.rbox
  obtain ⟨f, fb', hc⟩ := hh
  have e : w.cell? ⟨rb, 3, none⟩ = some (errV F fb) := hb.cellAt 3
  rw [e] at hc
  injection hc with hc
  exact errV_halt hc
theorem RdAt.err (h : RdAt w0 w rb g off cap b i en F x4 x5 x6 x7 x8 Q) : ∃ F fb, w.cell? ⟨rb, 3, none⟩ = some (errV F fb) := by
  obtain ⟨fb, hb⟩ := h.rbox
  exact ⟨F, fb, hb.cellAt 3⟩
/-- A number of at most four bytes. -/
theorem numberS_any (m : Nat) (b : List Oct) (g off : Nat) (h : RdAt w0 w rb g off cap b i en F x4 x5 x6 x7 x8 Q) (hm : m ≤ 4) :
    Calls Tryz.prog 137 #[.pointer (some ⟨rb, 0, none⟩), .int .i64 m] w fun r w' => ∃ y : Nat, r = .returned (.int .i64 y) ∧ y < 256 ^ m ∧
      Step (numP m) b en i F (y : Int) fun j F' => RdAt w0 w' rb g off cap b j en F' x4 x5 x6 x7 x8 Q := by
  refine (numberAt_any m b g off h (by omega)).mono ?_
  rintro r w' ⟨y, rfl, hy, hs⟩
  have h2 : 256 ^ m ≤ 256 ^ 4 := Nat.pow_le_pow_right (by decide) hm
  refine ⟨y, ?_, hy, hs⟩
  rw [sx64_small (by omega)]
set_option maxHeartbeats 1000000 in
theorem cards_any (h : RdAt w0 w rb g off cap b i en F x4 x5 x6 x7 x8 Q) :
    Calls Tryz.prog 104 #[.pointer (some ⟨rb, 0, none⟩)] w fun r w' => r = .returned (.tuple #[]) ∧ ∃ y : Nat, Step (numP 2) b en i F (y : Int) fun j F' => RdAt w0 w' rb g off cap b j en F' (.int .i64 y) x5 x6 x7 x8 Q := by
  have HC := Lib.hid (numberS_any 2 b g off h (by decide))
  clear h
  go_enter Tryz.func104, Tryz.ntmps104
  go_wp2_with fail
  refine HC.out.mono ?_
  rintro r w1 ⟨y, rfl, hy, j, F1, hg, hij, h1⟩
  obtain ⟨fb, hb⟩ := h1.rbox
  have c4 := hb.cellAt 4
  have f4 := hb.free 4
  have H2 := Lib.hid (h1.set4 (.int .i64 y))
  have HG := Lib.hid hg
  clear h1 hb HC hg
  go_wp2_with fail
  go_end0
  exact ⟨rfl, y, j, F1, HG.out, hij, H2.out⟩
set_option maxRecDepth 4000 in
set_option maxHeartbeats 2000000 in
theorem ints_any (h : RdAt w0 w rb g off cap b i en F x4 (.slice none 0 0) x6 x7 x8 Q) :
    Calls Tryz.prog 105 #[.pointer (some ⟨rb, 0, none⟩)] w fun r w' => r = .returned (.tuple #[]) ∧ ∃ (l : List Int) (A : Option Addr) (c : Nat), Step (listP 2 s64P) b en i F l fun j F' => RdAt w0 w' rb g off cap b j en F' x4 (.slice A l.length c) x6 x7 x8 (Loc.own w0.heap.size 2 1 (.slice A l.length c) l.length (l.map (Value.int .i64)) :: Q) := by
  have hm0 := (h.make 176 #[.pointer (some ⟨rb, 0, none⟩)]).past ((Keeps.refl _ (w.alloc (.cells #[.pointer (some ⟨rb, 0, none⟩)] 176))).drew)
  have HD := Lib.hid (hm0.nil w0.heap.size 2 1)
  have hS0 : Hid ((w.alloc (.cells #[.pointer (some ⟨rb, 0, none⟩)] 176)).drew.cell? ⟨w.heap.size, 0, none⟩ = some (.pointer (some ⟨rb, 0, none⟩))) := Lib.hid ((HD.out.boxq 1 rfl).cellAt 0)
  have HC := Lib.hid (numberS_any 2 b g off HD.out (by decide))
  clear h hm0
  have hmf : ∀ (fn : Fn) (first cap : Array Value) (w : World), (Instr.makeFunc fn first cap).run Tryz.prog w = .ok (.func fn first cap) w := fun _ _ _ _ => rfl
  go_enter Tryz.func105, Tryz.ntmps105
  go_wp2_with fail
  refine wp_region_upTo 8 (fun W => W.cell? ⟨w.heap.size, 0, none⟩ = some (.pointer (some ⟨rb, 0, none⟩))) (fun _ => True) (by kernel_rfl) ?_
  refine upTo_take (i := 0) (v := ?v1) rfl (by kernel_rfl) (by kernel_rfl) (by kernel_rfl) (fun _ _ _ h => by first | exact h | exact absurd h.1 (fun e => by cases e)) (by decide) (Or.inl ⟨by rfl, ?hy1⟩) (hS0.out) (fun _ => trivial) ?rest1
  case hy1 =>
    intro w hSw
    obtain qh := hSw
    go_simp
    try with_reducible rfl
  go_simp
  refine upTo_take (i := 1) (v := ?v2) rfl (by kernel_rfl) (by kernel_rfl) (by kernel_rfl) (fun _ _ _ h => by first | exact h | exact absurd h.1 (fun e => by cases e)) (by decide) (Or.inl ⟨by rfl, ?hy2⟩) (hS0.out) (fun _ => trivial) ?rest2
  case hy2 =>
    intro w hSw
    clear hSw
    go_simp
    try with_reducible rfl
  go_simp
  refine upTo_take (i := 2) (v := ?v3) rfl (by kernel_rfl) (by kernel_rfl) (by kernel_rfl) (fun _ _ _ h => by first | exact h | exact absurd h.1 (fun e => by cases e)) (by decide) (Or.inl ⟨by rfl, ?hy3⟩) (hS0.out) (fun _ => trivial) ?rest3
  case hy3 =>
    intro w hSw
    clear hSw
    go_simp
    try with_reducible rfl
  go_simp
  refine upTo_take (i := 3) (v := ?v4) rfl (by kernel_rfl) (by kernel_rfl) (by kernel_rfl) (fun _ _ _ h => by first | exact h | exact absurd h.1 (fun e => by cases e)) (by decide) (Or.inl ⟨by rfl, ?hy4⟩) (hS0.out) (fun _ => trivial) ?rest4
  case hy4 =>
    intro w hSw
    obtain qh := hSw
    go_simp
    try with_reducible rfl
  go_simp
  refine upTo_take (i := 4) (v := ?v5) rfl (by kernel_rfl) (by kernel_rfl) (by kernel_rfl) (fun _ _ _ h => by first | exact h | exact absurd h.1 (fun e => by cases e)) (by decide) (Or.inl ⟨by rfl, ?hy5⟩) (hS0.out) (fun _ => trivial) ?rest5
  case hy5 =>
    intro w hSw
    clear hSw
    go_simp
    try with_reducible rfl
  go_simp
  refine upTo_take (i := 5) (v := ?v6) rfl (by kernel_rfl) (by kernel_rfl) (by kernel_rfl) (fun _ _ _ h => by first | exact h | exact absurd h.1 (fun e => by cases e)) (by decide) (Or.inl ⟨by rfl, ?hy6⟩) (hS0.out) (fun _ => trivial) ?rest6
  case hy6 =>
    intro w hSw
    clear hSw
    go_simp
    try with_reducible rfl
  go_simp
  refine upTo_take (i := 7) (v := ?v7) rfl (by kernel_rfl) (by kernel_rfl) (by kernel_rfl) (fun _ _ _ h => by first | exact h | exact absurd h.1 (fun e => by cases e)) (by decide) (Or.inl ⟨by rfl, ?hy7⟩) (hS0.out) (fun _ => trivial) ?rest7
  case hy7 =>
    intro w hSw
    clear hSw
    go_simp
    try with_reducible rfl
  go_simp
  refine upTo_next (i := 6) (by kernel_rfl) rfl ?_
  intro K hK
  go_simp
  refine (HC.out).mono ?_
  rintro r w1 ⟨n, rfl, hn, i1, F1, hg1, hij, h1⟩
  have H1 := Lib.hid h1
  have HG1 := Lib.hid hg1
  have hn2 : n ≤ 65536 := by omega
  clear h1 HC HD hS0 hg1 hn
  refine hK.out _ _ ((H1.out.boxq 1 rfl).cellAt 0) (fun _ => trivial) ?_
  clear hK K
  go_simp
  refine upTo_next (i := 8) (by kernel_rfl) rfl ?_
  intro K hK
  go_simp
  refine (times_any 139 n rb #[.pointer (some ⟨w.heap.size, 0, none⟩)] (enters_of Tryz.func139 (by kernel_rfl) rfl) (fun m W => ∃ (j : Nat) (F2 : Flt) (l : List Int) (A : Option Addr) (c : Nat), Goes (repP s64P m) (b.take en) i1 F1 j F2 l ∧ l.length = m ∧ i1 ≤ j ∧
      RdAt w0 W rb g off cap b j en F2 x4 (.slice A m c) x6 x7 x8 (Loc.own w0.heap.size 2 1 (.slice A m c) m (l.map (Value.int .i64)) :: Loc.box w.heap.size 176 #[.pointer (some ⟨rb, 0, none⟩)] :: Q)) w1 (by omega)
    (fun m W hm => by obtain ⟨j, F2, l, A, c, hg, hl, hj, hr⟩ := hm; exact hr.err) (fun m W hm hlt hnil => ?step) ⟨i1, F1, [], none, 0, Goes.ret _, rfl, Nat.le_refl _, H1.out⟩).mono ?_
  case step =>
    obtain ⟨j, F2, l, A, c, hg, hl, hj, hr⟩ := hm
    refine (intMore_any hr (by omega)).mono ?_
    rintro r W' ⟨rfl, y, A', c', hy, j2, F3, hg2, hj2, hr2⟩
    exact ⟨rfl, j2, F3, l ++ [sx64 y], A', c', hg.snoc (hg2.map sx64), by rw [List.length_append, hl]; rfl, by omega, by rw [List.map_append]; exact hr2⟩
  rintro r w2 ⟨rfl, m, hm, ⟨j, F2, l, A, c, hg, hl, hj, hr⟩, hend⟩
  have HE : Hid (m = n ∨ ∃ f, F2 = some f) := Lib.hid (hend.imp id hr.halted)
  have HR := Lib.hid hr
  have HL := Lib.hid hl
  have HG := Lib.hid hg
  clear hr hl hg hend H1
  refine hK.out _ _ ((HR.out.boxq 1 rfl).cellAt 0) (fun h => absurd h (by decide)) ?_
  clear hK K
  go_simp
  refine upTo_done (by kernel_rfl) ?_ _
  go_end0
  have hl2 := HL.out
  subst hl2
  exact ⟨rfl, l, A, c, j, F2, HG1.out.list HG.out hm HE.out, by omega, HR.out.sub ((List.sublist_cons_self _ _).cons_cons _)⟩
end
end Go.Proofs.YtcmbdnjcfneinaaGreatDoor
