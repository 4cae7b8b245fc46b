/-
  The reader of chapter 19: an effect: the walks. Conditions: lengths within 2 ^ 20.
-/
import Derived.Test.YtcmbdnjcfneinaaGreatDoorRdF
import Derived.Test.YtcmbdnjcfneinaaGreatDoorWrG
namespace Go.Proofs.YtcmbdnjcfneinaaGreatDoor
open Go.RowKit
theorem wrap8_of (y : Nat) (h : y < 256) : IntKind.i8.wrap (y : Int) = sx8 y := by
  unfold sx8
  split
  · simp [IntKind.wrap, IntKind.signed, IntKind.bits]; omega
  · simp [IntKind.wrap, IntKind.signed, IntKind.bits]; omega
theorem info_i8 : (Tryz.prog.info? 80).map (fun i => (i.zero, i.size, i.bytes)) = some (some (.int .i8 0), 1, 1) := by kernel_rfl
set_option maxRecDepth 10000 in
theorem cloneNil_any (c : Nat) (w : World) : Calls Tryz.prog 40 #[.slice none 0 c] w fun e w' => e = .returned (.slice none 0 0) ∧ w' = w := by
  have hnil : ∀ W, (binOp .eql 32 (.slice none 0 c) (.slice none 0 0)).run Tryz.prog W = .ok (.bool true) W := fun W => Lib.run_eql_slice_nil_nil W 0 c Tryz.underlying32
  go_enter Tryz.func40, Tryz.ntmps40
  go_wp2_with fail
  go_ret
  exact ⟨rfl, rfl⟩
/-- Bytes, copied; nil stays nil. -/
theorem cloneL_any (l : List Oct) (A : Option Addr) (c B : Nat) (w : World) (hl : Lies w B A (bytesV l)) (hlim : l.length ≤ 140737488355328) :
    Calls Tryz.prog 40 #[.slice A l.length c] w fun e w' => ∃ A' c', e = .returned (.slice A' l.length c') ∧ w'.ownsRow w.heap.size 5 1 (.slice A' l.length c') l.length (bytesV l) ∧ Below w.heap.size w w' := by
  cases A with
  | none =>
    obtain rfl : l = [] := by
      cases l with
      | nil => rfl
      | cons x l => obtain ⟨g, off, e, _⟩ := hl 0 (byteV x) rfl; cases e
    refine (cloneNil_any c w).mono ?_
    rintro r w' ⟨rfl, rfl⟩
    exact ⟨none, 0, rfl, World.ownsRow_nil _ _ _ _, Below.refl _ _⟩
  | some a =>
    have e : (l.map fun c => (c.toNat : Int)).map (Value.int .u8) = bytesV l := by rw [List.map_map]; rfl
    have h := Any.bytes_Clone_at Tryz.laySlk4 a l.length c (l.map fun c => (c.toNat : Int)) w (by simp) hlim (fun i hi => by
      obtain ⟨g, off, e2, _, hc⟩ := hl i _ (bytesV_get l i hi)
      injection e2 with e2
      subst e2
      rw [Lib.addr_add, hc]
      simp [List.getD, List.getElem?_eq_getElem hi])
    rw [e] at h
    refine h.mono ?_
    rintro r w' ⟨v', rfl, hown, _, hb⟩
    obtain ⟨A', c', rfl, _, _⟩ := own_slice hown
    exact ⟨A', c', rfl, hown, hb⟩
theorem results_cellR {P : Program} {fn : Func} {a : Tmp} {t : TypeId} (h : fn.results = #[.cell a t]) (tmps : Array Value) (g : Nat) (hp : tmps.getD a undef = .pointer (some ⟨g, 0, none⟩)) (cs : Array Value) (w : World) (hW : Whole w g t cs) (d : TypeDesc) (hu : P.underlying t = some d)
    (hd : (match d with | .struct _ | .array _ _ => true | _ => false) = true) (hi : (P.info? t).map (·.size) = some cs.size) : (results fn tmps).run P w = .ok (.agg cs) w := by
  have hl := run_loadVar_row (P := P) w g t t cs (0, 0) d hW hu hd hi
  have hp' : tmps[a]?.getD undef = .pointer (some ⟨g, 0, none⟩) := by rw [← Array.getD_eq_getD_getElem?]; exact hp
  simp [results, h, hp', asAddr, hl]
/-- An effect, and where its lists lie. -/
structure PE where
  e : Eff
  As : Option Addr
  cs : Nat
  Ac : Option Addr
  cc : Nat
def PE.slots (B : Nat) (p : PE) : Loc := Loc.own B 80 1 (.slice p.As p.e.slots.length p.cs) p.e.slots.length (p.e.slots.map (Value.int .i8))
def PE.code (B : Nat) (p : PE) : Loc := Loc.own B 5 1 (.slice p.Ac p.e.code.length p.cc) p.e.code.length (bytesV p.e.code)
def PE.vals (p : PE) : Array Value := #[.int .i64 p.e.on, .slice p.As p.e.slots.length p.cs, .slice p.Ac p.e.code.length p.cc, .int .i64 p.e.bound]
section
variable {w0 w : World} {rb g off cap i en bx eb kx n c : Nat} {A : Option Addr} {b : List Oct} {F : Flt} {x4 x5 x6 x7 x8 v0 v2 v3 : Value} {xs : List Value} {Q : List Loc}
set_option maxRecDepth 4000 in
set_option maxHeartbeats 2000000 in
theorem slotMore_any (h : RdAt w0 w rb g off cap b i en F x4 x5 x6 x7 x8 (Loc.own w0.heap.size 80 1 (.slice A n c) n xs :: Loc.box eb 43 #[v0, .slice A n c, v2, v3] :: Q)) (hq : Q[kx]? = some (Loc.box bx 176 #[.pointer (some ⟨rb, 0, none⟩)])) (hn : n ≤ 1048576) :
    Calls Tryz.prog 158 #[.pointer (some ⟨eb, 0, none⟩), .pointer (some ⟨bx, 0, none⟩)] w fun r w' => r = .returned (.tuple #[]) ∧ ∃ (y : Nat) (A' : Option Addr) (c' : Nat), y < 256 ^ 1 ∧ Step (numP 1) b en i F (y : Int) fun j F' =>
      RdAt w0 w' rb g off cap b j en F' x4 x5 x6 x7 x8 (Loc.own w0.heap.size 80 1 (.slice A' (n + 1) c') (n + 1) (xs ++ [.int .i8 (sx8 y)]) :: Loc.box eb 43 #[v0, .slice A' (n + 1) c', v2, v3] :: Q) := by
  have HD := Lib.hid (h.past ((Keeps.refl _ w).drew))
  have hS0 : Hid (w.drew.cell? ⟨bx, 0, none⟩ = some (.pointer (some ⟨rb, 0, none⟩))) := Lib.hid ((HD.out.boxq (kx + 2) hq).cellAt 0)
  have hT0 : Hid (w.drew.cell? ⟨eb, 1, none⟩ = some (.slice A n c)) := Lib.hid ((HD.out.boxq 1 rfl).cellAt 1)
  have HC := Lib.hid (numberS_any 1 b g off HD.out (by decide))
  clear h
  go_enter Tryz.func158, Tryz.ntmps158
  go_wp2_with fail
  refine wp_region_upTo 8 (fun W => W.cell? ⟨bx, 0, none⟩ = some (.pointer (some ⟨rb, 0, none⟩))) (fun W => W.cell? ⟨eb, 1, none⟩ = some (.slice A n c)) (by kernel_rfl) ?_
  refine upTo_take (i := 0) (v := ?v1) rfl (by kernel_rfl) (by kernel_rfl) (by kernel_rfl) (fun _ _ _ h => by first | exact h | exact absurd h.1 (fun e => by cases e)) (by decide) (Or.inl ⟨by rfl, ?hy1⟩) (hS0.out) (fun _ => hT0.out) ?rest1
  case hy1 =>
    intro w hSw
    clear hSw
    go_simp
    try with_reducible rfl
  go_simp
  refine upTo_load (i := 1) (v := ?v2) rfl (by kernel_rfl) (by kernel_rfl) (by kernel_rfl) (fun _ _ _ h => by first | exact h | exact absurd h.1 (fun e => by cases e)) (by decide) (by kernel_rfl) (by kernel_rfl) (Or.inl ⟨by rfl, ?hy2⟩) (hS0.out) (hT0.out) ?rest2
  case hy2 =>
    intro w hSw
    obtain qh := hSw
    go_simp
    try with_reducible rfl
  go_simp
  refine upTo_take (i := 2) (v := ?v3) rfl (by kernel_rfl) (by kernel_rfl) (by kernel_rfl) (fun _ _ _ h => by first | exact h | exact absurd h.1 (fun e => by cases e)) (by decide) (Or.inl ⟨by rfl, ?hy3⟩) (hS0.out) (fun _ => hT0.out) ?rest3
  case hy3 =>
    intro w hSw
    obtain qh := hSw
    go_simp
    try with_reducible rfl
  go_simp
  refine upTo_take (i := 3) (v := ?v4) rfl (by kernel_rfl) (by kernel_rfl) (by kernel_rfl) (fun _ _ _ h => by first | exact h | exact absurd h.1 (fun e => by cases e)) (by decide) (Or.inl ⟨by rfl, ?hy4⟩) (hS0.out) (fun _ => hT0.out) ?rest4
  case hy4 =>
    intro w hSw
    clear hSw
    go_simp
    try with_reducible rfl
  go_simp
  refine upTo_take (i := 4) (v := ?v5) rfl (by kernel_rfl) (by kernel_rfl) (by kernel_rfl) (fun _ _ _ h => by first | exact h | exact absurd h.1 (fun e => by cases e)) (by decide) (Or.inl ⟨by rfl, ?hy5⟩) (hS0.out) (fun _ => hT0.out) ?rest5
  case hy5 =>
    intro w hSw
    clear hSw
    go_simp
    try with_reducible rfl
  go_simp
  refine upTo_next (i := 5) (by kernel_rfl) rfl ?_
  intro K hK
  go_simp
  refine (HC.out).mono ?_
  rintro r w1 ⟨y, rfl, hy, j, F1, hg1, hij, h1⟩
  have H1 := Lib.hid h1
  have hS1 : Hid (w1.cell? ⟨bx, 0, none⟩ = some (.pointer (some ⟨rb, 0, none⟩))) := Lib.hid ((h1.boxq (kx + 2) hq).cellAt 0)
  have hT1 : Hid (w1.cell? ⟨eb, 1, none⟩ = some (.slice A n c)) := Lib.hid ((h1.boxq 1 rfl).cellAt 1)
  have HG1 := Lib.hid hg1
  have hw8 := wrap8_of y (by omega)
  clear h1 HC HD hS0 hT0 hg1
  refine hK.out _ _ (hS1.out) (fun _ => hT1.out) ?_
  clear hK K
  go_simp
  refine upTo_take (i := 6) (v := ?v6) rfl (by kernel_rfl) (by kernel_rfl) (by kernel_rfl) (fun _ _ _ h => by first | exact h | exact absurd h.1 (fun e => by cases e)) (by decide) (Or.inl ⟨by rfl, ?hy6⟩) (hS1.out) (fun _ => hT1.out) ?rest6
  case hy6 =>
    intro w hSw
    clear hSw
    go_simp
    try with_reducible rfl
  go_simp
  have H2 := Lib.hid (H1.out.past ((Keeps.refl _ w1).alloc (.cells #[.int .i8 (sx8 y)] 80)))
  refine upTo_next (i := 7) (by kernel_rfl) rfl ?_
  intro K hK
  go_simp
  refine hK.out _ _ ((H2.out.boxq (kx + 2) hq).cellAt 0) (fun _ => (H2.out.boxq 1 rfl).cellAt 1) ?_
  clear hK K
  go_simp
  refine upTo_next (i := 8) (by kernel_rfl) rfl ?_
  intro K hK
  refine stepIfT (by rfl) ?_
  have hBs : w0.heap.size ≤ (w1.alloc (.cells #[.int .i8 (sx8 y)] 80)).heap.size := H2.out.old.size
  refine wp_append_cells _ _ _ 41 rfl w0.heap.size 80 (.int .i8 0) 1 1 Tryz.underlying41 info_i8 rfl (by decide) (.slice A n c) n xs rfl (H2.out.own 0 rfl) (w1.heap.size + 1) (some ⟨w1.heap.size, 0, none⟩) 1 1 [.int .i8 (sx8 y)] rfl (Lies.row (t := 80) (fr := (0, 0)) (heap_alloc_new _ _) (Nat.lt_succ_self _)) rfl (fun u hu => by simp at hu; rw [hu]; rfl) (by simp only [maxLen]; omega) (by omega) hBs ?_
  intro A2 c2 w5 own5 hg5 hor5 _ _
  have H5 := Lib.hid (H2.out.grow 0 rfl own5 hg5 hor5)
  have H6 := Lib.hid (H5.out.cellq 1 rfl 1 (.slice A2 (n + 1) c2))
  have f5 := (H5.out.boxq 1 rfl).free 1
  have c5 := (H5.out.boxq 1 rfl).cellAt 1
  clear own5 hg5 hor5 hS1 hT1
  refine hK.out _ _ ((H5.out.boxq (kx + 2) hq).cellAt 0) (fun h => absurd h (by decide)) ?_
  clear hK K
  go_simp
  refine upTo_take (i := 9) (v := ?v7) rfl (by kernel_rfl) (by kernel_rfl) (by kernel_rfl) (fun _ _ _ h => by first | exact h | exact absurd h.1 (fun e => by cases e)) (by decide) (Or.inl ⟨by rfl, ?hy7⟩) ((H5.out.boxq (kx + 2) hq).cellAt 0) (fun h => absurd h (by decide)) ?rest7
  case hy7 =>
    intro w hSw
    clear hSw
    go_simp
    try with_reducible rfl
  go_simp
  refine upTo_next (i := 10) (by kernel_rfl) rfl ?_
  intro K hK
  go_simp
  refine hK.out _ _ ((H6.out.boxq (kx + 2) hq).cellAt 0) (fun h => absurd h (by decide)) ?_
  clear hK K
  go_simp
  refine upTo_done (by kernel_rfl) ?_ _
  go_end0
  exact ⟨rfl, y, A2, c2, hy, j, F1, HG1.out, hij, H6.out⟩
end
end Go.Proofs.YtcmbdnjcfneinaaGreatDoor
/-
  The reader of chapter 19: an effect: the walk. Conditions: lengths within 2 ^ 20.
-/
namespace Go.Proofs.YtcmbdnjcfneinaaGreatDoor
open Go.RowKit
section
variable {w0 w : World} {rb g off cap i en : Nat} {b : List Oct} {F : Flt} {x4 x5 x6 x7 x8 : Value} {Q : List Loc}
set_option maxRecDepth 8000 in
set_option maxHeartbeats 4000000 in
theorem effect_any (h : RdAt w0 w rb g off cap b i en F x4 x5 x6 x7 x8 Q) :
    Calls Tryz.prog 145 #[.pointer (some ⟨rb, 0, none⟩)] w fun r w' => ∃ p : PE, r = .returned (.agg p.vals) ∧ Step effP b en i F p.e fun j F' => RdAt w0 w' rb g off cap b j en F' x4 x5 x6 x7 x8 (p.slots w0.heap.size :: p.code w0.heap.size :: Q) := by
  have h1 := h.make 176 #[.pointer (some ⟨rb, 0, none⟩)]
  have h2 := h1.make 43 #[.int .i64 0, .slice none 0 0, .slice none 0 0, .int .i64 0]
  have hrt : (w.alloc (.cells #[.pointer (some ⟨rb, 0, none⟩)] 176)).heap.size = w.heap.size + 1 := World.size_alloc _ _
  rw [hrt] at h2
  have c0 := (h2.boxq 1 rfl).cellAt 0
  have H2 := Lib.hid h2
  have HC := Lib.hid (numberS_any 1 b g off h2 (by decide))
  clear h h1 h2 hrt
  have hmf : ∀ (fn : Fn) (first cap : Array Value) (w : World), (Instr.makeFunc fn first cap).run Tryz.prog w = .ok (.func fn first cap) w := fun _ _ _ _ => rfl
  go_enter Tryz.func145, Tryz.ntmps145
  go_wp2_with fail
  refine HC.out.mono ?_
  rintro r w1 ⟨on, rfl, hon, i1, F1, hg1, hi1, h1⟩
  have d0 := (h1.boxq 1 rfl).cellAt 0
  have H1 := Lib.hid h1
  have HG1 := Lib.hid hg1
  clear h1 hg1 HC H2 c0
  go_wp2_with fail
  have h2 := (H1.out.make 43 #[.int .i64 on, .slice none 0 0, .slice none 0 0, .int .i64 0]).past ((Keeps.refl _ _).drew)
  have HD := Lib.hid (h2.nil w0.heap.size 80 1)
  have hS0 : Hid (((w1.alloc (.cells #[.int .i64 on, .slice none 0 0, .slice none 0 0, .int .i64 0] 43)).drew).cell? ⟨w.heap.size, 0, none⟩ = some (.pointer (some ⟨rb, 0, none⟩))) := Lib.hid ((HD.out.boxq 3 rfl).cellAt 0)
  have HC := Lib.hid (numberS_any 1 b g off HD.out (by decide))
  clear h2 H1 d0
  refine wp_region_upTo 8 (fun W => W.cell? ⟨w.heap.size, 0, none⟩ = some (.pointer (some ⟨rb, 0, none⟩))) (fun _ => True) (by kernel_rfl) ?_
  refine upTo_take (i := 0) (v := ?v1) rfl (by kernel_rfl) (by kernel_rfl) (by kernel_rfl) (fun _ _ _ h => by first | exact h | exact absurd h.1 (fun e => by cases e)) (by decide) (Or.inl ⟨by rfl, ?hy1⟩) (hS0.out) (fun _ => trivial) ?rest1
  case hy1 =>
    intro w hSw
    obtain qh := hSw
    go_simp
    try with_reducible rfl
  go_simp
  refine upTo_take (i := 1) (v := ?v2) rfl (by kernel_rfl) (by kernel_rfl) (by kernel_rfl) (fun _ _ _ h => by first | exact h | exact absurd h.1 (fun e => by cases e)) (by decide) (Or.inl ⟨by rfl, ?hy2⟩) (hS0.out) (fun _ => trivial) ?rest2
  case hy2 =>
    intro w hSw
    clear hSw
    go_simp
    try with_reducible rfl
  go_simp
  refine upTo_take (i := 2) (v := ?v3) rfl (by kernel_rfl) (by kernel_rfl) (by kernel_rfl) (fun _ _ _ h => by first | exact h | exact absurd h.1 (fun e => by cases e)) (by decide) (Or.inl ⟨by rfl, ?hy3⟩) (hS0.out) (fun _ => trivial) ?rest3
  case hy3 =>
    intro w hSw
    clear hSw
    go_simp
    try with_reducible rfl
  go_simp
  refine upTo_take (i := 3) (v := ?v4) rfl (by kernel_rfl) (by kernel_rfl) (by kernel_rfl) (fun _ _ _ h => by first | exact h | exact absurd h.1 (fun e => by cases e)) (by decide) (Or.inl ⟨by rfl, ?hy4⟩) (hS0.out) (fun _ => trivial) ?rest4
  case hy4 =>
    intro w hSw
    obtain qh := hSw
    go_simp
    try with_reducible rfl
  go_simp
  refine upTo_take (i := 4) (v := ?v5) rfl (by kernel_rfl) (by kernel_rfl) (by kernel_rfl) (fun _ _ _ h => by first | exact h | exact absurd h.1 (fun e => by cases e)) (by decide) (Or.inl ⟨by rfl, ?hy5⟩) (hS0.out) (fun _ => trivial) ?rest5
  case hy5 =>
    intro w hSw
    clear hSw
    go_simp
    try with_reducible rfl
  go_simp
  refine upTo_take (i := 5) (v := ?v6) rfl (by kernel_rfl) (by kernel_rfl) (by kernel_rfl) (fun _ _ _ h => by first | exact h | exact absurd h.1 (fun e => by cases e)) (by decide) (Or.inl ⟨by rfl, ?hy6⟩) (hS0.out) (fun _ => trivial) ?rest6
  case hy6 =>
    intro w hSw
    clear hSw
    go_simp
    try with_reducible rfl
  go_simp
  refine upTo_take (i := 7) (v := ?v7) rfl (by kernel_rfl) (by kernel_rfl) (by kernel_rfl) (fun _ _ _ h => by first | exact h | exact absurd h.1 (fun e => by cases e)) (by decide) (Or.inl ⟨by rfl, ?hy7⟩) (hS0.out) (fun _ => trivial) ?rest7
  case hy7 =>
    intro w hSw
    clear hSw
    go_simp
    try with_reducible rfl
  go_simp
  refine upTo_next (i := 6) (by kernel_rfl) rfl ?_
  intro K hK
  go_simp
  refine (HC.out).mono ?_
  rintro r w2 ⟨n, rfl, hn, i2, F2, hg2, hi2, h2⟩
  have H2 := Lib.hid h2
  have HG2 := Lib.hid hg2
  clear h2 HC HD hS0 hg2
  refine hK.out _ _ ((H2.out.boxq 3 rfl).cellAt 0) (fun _ => trivial) ?_
  clear hK K
  go_simp
  refine upTo_next (i := 8) (by kernel_rfl) rfl ?_
  intro K hK
  go_simp
  refine (times_any 158 n rb #[.pointer (some ⟨w1.heap.size, 0, none⟩), .pointer (some ⟨w.heap.size, 0, none⟩)] (enters_of Tryz.func158 (by kernel_rfl) rfl)
    (fun m W => ∃ (j : Nat) (F3 : Flt) (l : List Int) (A : Option Addr) (c : Nat), Goes (repP s8P m) (b.take en) i2 F2 j F3 l ∧ l.length = m ∧ i2 ≤ j ∧
      RdAt w0 W rb g off cap b j en F3 x4 x5 x6 x7 x8 (Loc.own w0.heap.size 80 1 (.slice A m c) m (l.map (Value.int .i8)) :: Loc.box w1.heap.size 43 #[.int .i64 on, .slice A m c, .slice none 0 0, .int .i64 0] :: Loc.box (w.heap.size + 1) 43 #[.int .i64 0, .slice none 0 0, .slice none 0 0, .int .i64 0] :: Loc.box w.heap.size 176 #[.pointer (some ⟨rb, 0, none⟩)] :: Q)) w2 (by omega)
    (fun m W hm => by obtain ⟨j, F3, l, A, c, hg, hl, hj, hr⟩ := hm; exact hr.err) (fun m W hm hlt hnil => ?step) ⟨i2, F2, [], none, 0, Goes.ret _, rfl, Nat.le_refl _, H2.out⟩).mono ?_
  case step =>
    obtain ⟨j, F3, l, A, c, hg, hl, hj, hr⟩ := hm
    refine (slotMore_any (kx := 1) hr rfl (by omega)).mono ?_
    rintro r W' ⟨rfl, y, A', c', hy, j2, F4, hg4, hj2, hr2⟩
    exact ⟨rfl, j2, F4, l ++ [sx8 y], A', c', hg.snoc (hg4.map sx8), by rw [List.length_append, hl]; rfl, by omega, by rw [List.map_append]; exact hr2⟩
  rintro r w3 ⟨rfl, m, hm, ⟨i3, F3, sl, A, c, hg, hl, hi3, hr⟩, hend⟩
  have HGS : Hid (Goes (listP 1 s8P) (b.take en) i1 F1 i3 F3 sl) := Lib.hid (HG2.out.list hg hm (hend.imp id hr.halted))
  subst hl
  have H3 := Lib.hid hr
  have hml : sl.length ≤ 256 := by omega
  clear hr hg hend H2 HG2
  refine hK.out _ _ ((H3.out.boxq 3 rfl).cellAt 0) (fun h => absurd h (by decide)) ?_
  clear hK K
  go_simp
  refine upTo_done (by kernel_rfl) ?_ _
  have d0 := (H3.out.boxq 3 rfl).cellAt 0
  have HC := Lib.hid (numberAt_any 8 b g off H3.out (by decide))
  go_wp2_with fail
  refine HC.out.mono ?_
  rintro r w4 ⟨bo, rfl, hbo, i4, F4, hg4, hi4, h4⟩
  have e3 := (h4.boxq 1 rfl).cellAt 3
  have f3 := (h4.boxq 1 rfl).free 3
  have H5 := Lib.hid (h4.cellq 1 rfl 3 (.int .i64 (sx64 bo)))
  have HG4 := Lib.hid hg4
  clear h4 hg4 HC H3 d0
  go_wp2_with fail
  have HD := Lib.hid (H5.out.past ((Keeps.refl _ _).drew))
  have hS0 : Hid (((w4.setCell ⟨w1.heap.size, 3, none⟩ (.int .i64 (sx64 bo))).drew).cell? ⟨w.heap.size, 0, none⟩ = some (.pointer (some ⟨rb, 0, none⟩))) := Lib.hid ((HD.out.boxq 3 rfl).cellAt 0)
  have HC := Lib.hid (numberS_any 2 b g off HD.out (by decide))
  clear e3 f3 H5
  refine wp_region_upTo 10 (fun W => W.cell? ⟨w.heap.size, 0, none⟩ = some (.pointer (some ⟨rb, 0, none⟩))) (fun _ => True) (by kernel_rfl) ?_
  refine upTo_take (i := 0) (v := ?v8) rfl (by kernel_rfl) (by kernel_rfl) (by kernel_rfl) (fun _ _ _ h => by first | exact h | exact absurd h.1 (fun e => by cases e)) (by decide) (Or.inl ⟨by rfl, ?hy8⟩) (hS0.out) (fun _ => trivial) ?rest8
  case hy8 =>
    intro w hSw
    obtain qh := hSw
    go_simp
    try with_reducible rfl
  go_simp
  refine upTo_take (i := 1) (v := ?v9) rfl (by kernel_rfl) (by kernel_rfl) (by kernel_rfl) (fun _ _ _ h => by first | exact h | exact absurd h.1 (fun e => by cases e)) (by decide) (Or.inl ⟨by rfl, ?hy9⟩) (hS0.out) (fun _ => trivial) ?rest9
  case hy9 =>
    intro w hSw
    clear hSw
    go_simp
    try with_reducible rfl
  go_simp
  refine upTo_take (i := 2) (v := ?v10) rfl (by kernel_rfl) (by kernel_rfl) (by kernel_rfl) (fun _ _ _ h => by first | exact h | exact absurd h.1 (fun e => by cases e)) (by decide) (Or.inl ⟨by rfl, ?hy10⟩) (hS0.out) (fun _ => trivial) ?rest10
  case hy10 =>
    intro w hSw
    clear hSw
    go_simp
    try with_reducible rfl
  go_simp
  refine upTo_take (i := 3) (v := ?v11) rfl (by kernel_rfl) (by kernel_rfl) (by kernel_rfl) (fun _ _ _ h => by first | exact h | exact absurd h.1 (fun e => by cases e)) (by decide) (Or.inl ⟨by rfl, ?hy11⟩) (hS0.out) (fun _ => trivial) ?rest11
  case hy11 =>
    intro w hSw
    obtain qh := hSw
    go_simp
    try with_reducible rfl
  go_simp
  refine upTo_take (i := 4) (v := ?v12) rfl (by kernel_rfl) (by kernel_rfl) (by kernel_rfl) (fun _ _ _ h => by first | exact h | exact absurd h.1 (fun e => by cases e)) (by decide) (Or.inl ⟨by rfl, ?hy12⟩) (hS0.out) (fun _ => trivial) ?rest12
  case hy12 =>
    intro w hSw
    clear hSw
    go_simp
    try with_reducible rfl
  go_simp
  refine upTo_take (i := 5) (v := ?v13) rfl (by kernel_rfl) (by kernel_rfl) (by kernel_rfl) (fun _ _ _ h => by first | exact h | exact absurd h.1 (fun e => by cases e)) (by decide) (Or.inl ⟨by rfl, ?hy13⟩) (hS0.out) (fun _ => trivial) ?rest13
  case hy13 =>
    intro w hSw
    clear hSw
    go_simp
    try with_reducible rfl
  go_simp
  refine upTo_next (i := 6) (by kernel_rfl) rfl ?_
  intro K hK
  go_simp
  refine (HC.out).mono ?_
  rintro r w5 ⟨nc, rfl, hnc, i5, F5, hg5, hi5, h5⟩
  have H5 := Lib.hid h5
  have HG5 := Lib.hid hg5
  have HC2 := Lib.hid (take_any nc b g off h5 (by omega))
  clear h5 HC HD hS0 hg5
  refine hK.out _ _ ((H5.out.boxq 3 rfl).cellAt 0) (fun _ => trivial) ?_
  clear hK K
  go_simp
  refine upTo_next (i := 7) (by kernel_rfl) rfl ?_
  intro K hK
  go_simp
  refine (HC2.out).mono ?_
  rintro r w6 ⟨co, Al, cl, rfl, hl, hlc, hly, j, F6, hg6, hjj, h6⟩
  have H6 := Lib.hid h6
  have HG6 : Hid (Goes (bytesP 2) (b.take en) i4 F4 j F6 co) := Lib.hid (HG5.out.seq (by rw [Int.toNat_natCast]; exact hg6))
  have HC3 := Lib.hid (cloneL_any co Al cl _ w6 (hl.keep fun g o hg => h6.old.cell hg id : Lies w6 _ Al (bytesV co)) (by omega))
  have hcol : co.length ≤ 65536 := by omega
  clear h6 HC2 H5 hg6 hl HG5
  refine hK.out _ _ ((H6.out.boxq 3 rfl).cellAt 0) (fun _ => trivial) ?_
  clear hK K
  go_simp
  refine upTo_next (i := 8) (by kernel_rfl) rfl ?_
  intro K hK
  go_simp
  refine (HC3.out).mono ?_
  rintro r w7 ⟨Ac, cc, rfl, hown, hbel⟩
  have h7 := H6.out.add (e := Loc.own w0.heap.size 5 1 (.slice Ac co.length cc) co.length (bytesV co)) (keepsAll hbel) (owns_base hown (fun k hk => Nat.le_trans H6.out.old.size (owns_inside hown hk).1)) (fun k hk => (owns_inside hown hk).1)
  have H7 := Lib.hid h7
  have e2 := (h7.boxq 2 rfl).cellAt 2
  have f2 := (h7.boxq 2 rfl).free 2
  have H8 := Lib.hid (h7.cellq 2 rfl 2 (.slice Ac co.length cc))
  clear h7 HC3 hown hbel H6
  refine hK.out _ _ ((H7.out.boxq 4 rfl).cellAt 0) (fun _ => trivial) ?_
  clear hK K
  go_simp
  refine upTo_take (i := 9) (v := ?v14) rfl (by kernel_rfl) (by kernel_rfl) (by kernel_rfl) (fun _ _ _ h => by first | exact h | exact absurd h.1 (fun e => by cases e)) (by decide) (Or.inl ⟨by rfl, ?hy14⟩) ((H7.out.boxq 4 rfl).cellAt 0) (fun _ => trivial) ?rest14
  case hy14 =>
    intro w hSw
    clear hSw
    go_simp
    try with_reducible rfl
  go_simp
  refine upTo_next (i := 10) (by kernel_rfl) rfl ?_
  intro K hK
  go_simp
  refine hK.out _ _ ((H8.out.boxq 4 rfl).cellAt 0) (fun h => absurd h (by decide)) ?_
  clear hK K
  go_simp
  refine upTo_done (by kernel_rfl) ?_ _
  have hWe := H8.out.boxq 2 rfl
  have hWr := H8.out.boxq 3 rfl
  obtain ⟨q0, q1, q2, q3⟩ := four hWe
  obtain ⟨p0, p1, p2, p3⟩ := four hWr
  have f0 := hWr.free 0
  have f1 := hWr.free 1
  have f2' := hWr.free 2
  have f3 := hWr.free 3
  clear e2 f2 H7
  have H9 := Lib.hid ((((H8.out.cellq 3 rfl 0 (.int .i64 on)).cellq 3 rfl 1 (.slice A sl.length c)).cellq 3 rfl 2 (.slice Ac co.length cc)).cellq 3 rfl 3 (.int .i64 (sx64 bo)))
  obtain ⟨z0, z1, z2, z3⟩ := four (H9.out.boxq 3 rfl)
  go_wp2_with fail
  have hgo : Hid (Goes effP (b.take en) i F j F6 (⟨on, sl, sx64 bo, co⟩ : Eff)) := Lib.hid (HG1.out.seq (f := fun on => (listP 1 s8P).andThen fun sl => s64P.andThen fun bo => (bytesP 2).map fun co => (⟨on, sl, bo, co⟩ : Eff)) (HGS.out.seq (f := fun sl => s64P.andThen fun bo => (bytesP 2).map fun co => (⟨on, sl, bo, co⟩ : Eff)) ((HG4.out.map sx64).seq (f := fun bo => (bytesP 2).map fun co => (⟨on, sl, bo, co⟩ : Eff)) (HG6.out.map fun co => (⟨on, sl, sx64 bo, co⟩ : Eff)))))
  have hle : i ≤ j := by omega
  refine bodyPost_ret (results_cellR (by rfl) _ (w.heap.size + 1) (by rfl) #[.int .i64 on, .slice A sl.length c, .slice Ac co.length cc, .int .i64 (sx64 bo)] _ (H9.out.boxq 3 rfl) _ Tryz.underlying43 rfl (by kernel_rfl)) rfl ?_
  refine ⟨⟨⟨on, sl, sx64 bo, co⟩, A, c, Ac, cc⟩, by simp only [PE.vals], j, F6, hgo.out, hle, ?_⟩
  exact (H9.out.sub ((((List.sublist_cons_self _ _).cons _).cons _).cons_cons _ |>.cons_cons _)).perm (List.Perm.swap _ _ _)
end
end Go.Proofs.YtcmbdnjcfneinaaGreatDoor
/-
  The reader of chapter 19: a tag more, an effect more: the walks. Conditions: lengths within 2 ^ 20.
-/
namespace Go.Proofs.YtcmbdnjcfneinaaGreatDoor
open Go.RowKit
theorem info_intR : (Tryz.prog.info? 3).map (fun i => (i.zero, i.size, i.bytes)) = some (some (.int .i64 0), 1, 8) := by kernel_rfl
theorem info_eff : (Tryz.prog.info? 43).map (fun i => (i.zero, i.size, i.bytes)) = some (some (.agg #[.int .i64 0, .slice none 0 0, .slice none 0 0, .int .i64 0]), 4, 64) := by kernel_rfl
/-- A kind, and where its lists lie. -/
structure PK where
  name : Int
  cost : Int
  power : Int
  health : Int
  tags : List Int
  At : Option Addr
  ct : Nat
  es : List PE
  Ae : Option Addr
  ce : Nat
def PE.locs (B : Nat) (p : PE) : List Loc := [p.slots B, p.code B]
def PK.tagsL (B : Nat) (p : PK) : Loc := Loc.own B 3 1 (.slice p.At p.tags.length p.ct) p.tags.length (p.tags.map (Value.int .i64))
def effVals (es : List PE) : List Value := es.flatMap fun p => p.vals.toList
def PK.effsL (B : Nat) (p : PK) : Loc := Loc.own B 43 4 (.slice p.Ae p.es.length p.ce) p.es.length (effVals p.es)
def PK.locs (B : Nat) (p : PK) : List Loc := p.tagsL B :: p.effsL B :: p.es.flatMap (PE.locs B)
def PK.vals (p : PK) : Array Value := #[.int .i64 p.name, .int .i64 p.cost, .int .i64 p.power, .int .i64 p.health, .slice p.At p.tags.length p.ct, .slice p.Ae p.es.length p.ce]
def PK.knd (p : PK) : Knd := ⟨p.name, p.cost, p.power, p.health, p.tags, p.es.map PE.e⟩
theorem perm_back (s c o k : Loc) (Q : List Loc) : (s :: c :: o :: k :: Q).Perm (o :: k :: (Q ++ [s, c])) :=
  (List.perm_append_comm_assoc [s, c] [o, k] Q).trans (((List.perm_append_comm (l₁ := [s, c]) (l₂ := Q)).cons _).cons _)
section
variable {w0 w : World} {rb g off cap i en bx eb kx n c : Nat} {A : Option Addr} {b : List Oct} {F : Flt} {x4 x5 x6 x7 x8 v0 v1 v2 v3 v5 : Value} {xs : List Value} {Q : List Loc}
set_option maxRecDepth 4000 in
set_option maxHeartbeats 2000000 in
theorem tagMore_any (h : RdAt w0 w rb g off cap b i en F x4 x5 x6 x7 x8 (Loc.own w0.heap.size 3 1 (.slice A n c) n xs :: Loc.box eb 40 #[v0, v1, v2, v3, .slice A n c, v5] :: Q)) (hq : Q[kx]? = some (Loc.box bx 176 #[.pointer (some ⟨rb, 0, none⟩)])) (hn : n ≤ 1048576) :
    Calls Tryz.prog 143 #[.pointer (some ⟨eb, 0, none⟩), .pointer (some ⟨bx, 0, none⟩)] w fun r w' => r = .returned (.tuple #[]) ∧ ∃ (y : Nat) (A' : Option Addr) (c' : Nat), y < 256 ^ 2 ∧ Step (numP 2) b en i F (y : Int) fun j F' =>
      RdAt w0 w' rb g off cap b j en F' x4 x5 x6 x7 x8 (Loc.own w0.heap.size 3 1 (.slice A' (n + 1) c') (n + 1) (xs ++ [.int .i64 (y : Int)]) :: Loc.box eb 40 #[v0, v1, v2, v3, .slice A' (n + 1) c', v5] :: Q) := by
  have HD := Lib.hid (h.past ((Keeps.refl _ w).drew))
  have hS0 : Hid (w.drew.cell? ⟨bx, 0, none⟩ = some (.pointer (some ⟨rb, 0, none⟩))) := Lib.hid ((HD.out.boxq (kx + 2) hq).cellAt 0)
  have hT0 : Hid (w.drew.cell? ⟨eb, 4, none⟩ = some (.slice A n c)) := Lib.hid ((HD.out.boxq 1 rfl).cellAt 4)
  have HC := Lib.hid (numberS_any 2 b g off HD.out (by decide))
  clear h
  go_enter Tryz.func143, Tryz.ntmps143
  go_wp2_with fail
  refine wp_region_upTo 7 (fun W => W.cell? ⟨bx, 0, none⟩ = some (.pointer (some ⟨rb, 0, none⟩))) (fun W => W.cell? ⟨eb, 4, none⟩ = some (.slice A n c)) (by kernel_rfl) ?_
  refine upTo_take (i := 0) (v := ?v1) rfl (by kernel_rfl) (by kernel_rfl) (by kernel_rfl) (fun _ _ _ h => by first | exact h | exact absurd h.1 (fun e => by cases e)) (by decide) (Or.inl ⟨by rfl, ?hy1⟩) (hS0.out) (fun _ => hT0.out) ?rest1
  case hy1 =>
    intro w hSw
    clear hSw
    go_simp
    try with_reducible rfl
  go_simp
  refine upTo_load (i := 1) (v := ?v2) rfl (by kernel_rfl) (by kernel_rfl) (by kernel_rfl) (fun _ _ _ h => by first | exact h | exact absurd h.1 (fun e => by cases e)) (by decide) (by kernel_rfl) (by kernel_rfl) (Or.inl ⟨by rfl, ?hy2⟩) (hS0.out) (hT0.out) ?rest2
  case hy2 =>
    intro w hSw
    obtain qh := hSw
    go_simp
    try with_reducible rfl
  go_simp
  refine upTo_take (i := 2) (v := ?v3) rfl (by kernel_rfl) (by kernel_rfl) (by kernel_rfl) (fun _ _ _ h => by first | exact h | exact absurd h.1 (fun e => by cases e)) (by decide) (Or.inl ⟨by rfl, ?hy3⟩) (hS0.out) (fun _ => hT0.out) ?rest3
  case hy3 =>
    intro w hSw
    obtain qh := hSw
    go_simp
    try with_reducible rfl
  go_simp
  refine upTo_take (i := 3) (v := ?v4) rfl (by kernel_rfl) (by kernel_rfl) (by kernel_rfl) (fun _ _ _ h => by first | exact h | exact absurd h.1 (fun e => by cases e)) (by decide) (Or.inl ⟨by rfl, ?hy4⟩) (hS0.out) (fun _ => hT0.out) ?rest4
  case hy4 =>
    intro w hSw
    clear hSw
    go_simp
    try with_reducible rfl
  go_simp
  refine upTo_take (i := 4) (v := ?v5) rfl (by kernel_rfl) (by kernel_rfl) (by kernel_rfl) (fun _ _ _ h => by first | exact h | exact absurd h.1 (fun e => by cases e)) (by decide) (Or.inl ⟨by rfl, ?hy5⟩) (hS0.out) (fun _ => hT0.out) ?rest5
  case hy5 =>
    intro w hSw
    clear hSw
    go_simp
    try with_reducible rfl
  go_simp
  refine upTo_next (i := 5) (by kernel_rfl) rfl ?_
  intro K hK
  go_simp
  refine (HC.out).mono ?_
  rintro r w1 ⟨y, rfl, hy, j, F1, hg1, hij, h1⟩
  have H1 := Lib.hid h1
  have hS1 : Hid (w1.cell? ⟨bx, 0, none⟩ = some (.pointer (some ⟨rb, 0, none⟩))) := Lib.hid ((h1.boxq (kx + 2) hq).cellAt 0)
  have hT1 : Hid (w1.cell? ⟨eb, 4, none⟩ = some (.slice A n c)) := Lib.hid ((h1.boxq 1 rfl).cellAt 4)
  have HG1 := Lib.hid hg1
  clear h1 HC HD hS0 hT0 hg1
  refine hK.out _ _ (hS1.out) (fun _ => hT1.out) ?_
  clear hK K
  go_simp
  have H2 := Lib.hid (H1.out.past ((Keeps.refl _ w1).alloc (.cells #[.int .i64 (y : Int)] 3)))
  refine upTo_next (i := 6) (by kernel_rfl) rfl ?_
  intro K hK
  go_simp
  refine hK.out _ _ ((H2.out.boxq (kx + 2) hq).cellAt 0) (fun _ => (H2.out.boxq 1 rfl).cellAt 4) ?_
  clear hK K
  go_simp
  refine upTo_next (i := 7) (by kernel_rfl) rfl ?_
  intro K hK
  refine stepIfT (by rfl) ?_
  have hBs : w0.heap.size ≤ (w1.alloc (.cells #[.int .i64 (y : Int)] 3)).heap.size := H2.out.old.size
  refine wp_append_cells _ _ _ 37 rfl w0.heap.size 3 (.int .i64 0) 1 8 Tryz.underlying37 info_intR rfl (by decide) (.slice A n c) n xs rfl (H2.out.own 0 rfl) (w1.heap.size + 1) (some ⟨w1.heap.size, 0, none⟩) 1 1 [.int .i64 (y : Int)] rfl (Lies.row (t := 3) (fr := (0, 0)) (heap_alloc_new _ _) (Nat.lt_succ_self _)) rfl (fun u hu => by simp at hu; rw [hu]; rfl) (by simp only [maxLen]; omega) (by omega) hBs ?_
  intro A2 c2 w5 own5 hg5 hor5 _ _
  have H5 := Lib.hid (H2.out.grow 0 rfl own5 hg5 hor5)
  have H6 := Lib.hid (H5.out.cellq 1 rfl 4 (.slice A2 (n + 1) c2))
  have f5 := (H5.out.boxq 1 rfl).free 4
  have c5 := (H5.out.boxq 1 rfl).cellAt 4
  clear own5 hg5 hor5 hS1 hT1
  refine hK.out _ _ ((H5.out.boxq (kx + 2) hq).cellAt 0) (fun h => absurd h (by decide)) ?_
  clear hK K
  go_simp
  refine upTo_take (i := 8) (v := ?v6) rfl (by kernel_rfl) (by kernel_rfl) (by kernel_rfl) (fun _ _ _ h => by first | exact h | exact absurd h.1 (fun e => by cases e)) (by decide) (Or.inl ⟨by rfl, ?hy6⟩) ((H5.out.boxq (kx + 2) hq).cellAt 0) (fun h => absurd h (by decide)) ?rest6
  case hy6 =>
    intro w hSw
    clear hSw
    go_simp
    try with_reducible rfl
  go_simp
  refine upTo_next (i := 9) (by kernel_rfl) rfl ?_
  intro K hK
  go_simp
  refine hK.out _ _ ((H6.out.boxq (kx + 2) hq).cellAt 0) (fun h => absurd h (by decide)) ?_
  clear hK K
  go_simp
  refine upTo_done (by kernel_rfl) ?_ _
  go_end0
  exact ⟨rfl, y, A2, c2, hy, j, F1, HG1.out, hij, H6.out⟩
end
section
variable {w0 w : World} {rb g off cap i en bx eb kx n c : Nat} {A : Option Addr} {b : List Oct} {F : Flt} {x4 x5 x6 x7 x8 v0 v1 v2 v3 v4 : Value} {xs : List Value} {Q : List Loc}
set_option maxRecDepth 4000 in
set_option maxHeartbeats 2000000 in
theorem effMore_any (h : RdAt w0 w rb g off cap b i en F x4 x5 x6 x7 x8 (Loc.own w0.heap.size 43 4 (.slice A n c) n xs :: Loc.box eb 40 #[v0, v1, v2, v3, v4, .slice A n c] :: Q)) (hq : Q[kx]? = some (Loc.box bx 176 #[.pointer (some ⟨rb, 0, none⟩)])) (hn : n ≤ 1048576) :
    Calls Tryz.prog 144 #[.pointer (some ⟨eb, 0, none⟩), .pointer (some ⟨bx, 0, none⟩)] w fun r w' => r = .returned (.tuple #[]) ∧ ∃ (p : PE) (A' : Option Addr) (c' : Nat), Step effP b en i F p.e fun j F' =>
      RdAt w0 w' rb g off cap b j en F' x4 x5 x6 x7 x8 (Loc.own w0.heap.size 43 4 (.slice A' (n + 1) c') (n + 1) (xs ++ p.vals.toList) :: Loc.box eb 40 #[v0, v1, v2, v3, v4, .slice A' (n + 1) c'] :: (Q ++ p.locs w0.heap.size)) := by
  have HD := Lib.hid (h.past ((Keeps.refl _ w).drew))
  have hS0 : Hid (w.drew.cell? ⟨bx, 0, none⟩ = some (.pointer (some ⟨rb, 0, none⟩))) := Lib.hid ((HD.out.boxq (kx + 2) hq).cellAt 0)
  have hT0 : Hid (w.drew.cell? ⟨eb, 5, none⟩ = some (.slice A n c)) := Lib.hid ((HD.out.boxq 1 rfl).cellAt 5)
  have HC := Lib.hid (effect_any HD.out)
  clear h
  go_enter Tryz.func144, Tryz.ntmps144
  go_wp2_with fail
  refine wp_region_upTo 5 (fun W => W.cell? ⟨bx, 0, none⟩ = some (.pointer (some ⟨rb, 0, none⟩))) (fun W => W.cell? ⟨eb, 5, none⟩ = some (.slice A n c)) (by kernel_rfl) ?_
  refine upTo_take (i := 0) (v := ?v7) rfl (by kernel_rfl) (by kernel_rfl) (by kernel_rfl) (fun _ _ _ h => by first | exact h | exact absurd h.1 (fun e => by cases e)) (by decide) (Or.inl ⟨by rfl, ?hy7⟩) (hS0.out) (fun _ => hT0.out) ?rest7
  case hy7 =>
    intro w hSw
    clear hSw
    go_simp
    try with_reducible rfl
  go_simp
  refine upTo_load (i := 1) (v := ?v8) rfl (by kernel_rfl) (by kernel_rfl) (by kernel_rfl) (fun _ _ _ h => by first | exact h | exact absurd h.1 (fun e => by cases e)) (by decide) (by kernel_rfl) (by kernel_rfl) (Or.inl ⟨by rfl, ?hy8⟩) (hS0.out) (hT0.out) ?rest8
  case hy8 =>
    intro w hSw
    obtain qh := hSw
    go_simp
    try with_reducible rfl
  go_simp
  refine upTo_take (i := 2) (v := ?v9) rfl (by kernel_rfl) (by kernel_rfl) (by kernel_rfl) (fun _ _ _ h => by first | exact h | exact absurd h.1 (fun e => by cases e)) (by decide) (Or.inl ⟨by rfl, ?hy9⟩) (hS0.out) (fun _ => hT0.out) ?rest9
  case hy9 =>
    intro w hSw
    obtain qh := hSw
    go_simp
    try with_reducible rfl
  go_simp
  refine upTo_next (i := 3) (by kernel_rfl) rfl ?_
  intro K hK
  go_simp
  refine (HC.out).mono ?_
  rintro r w1 ⟨p, rfl, j, F1, hg1, hij, h1⟩
  have hq1 : (Q ++ p.locs w0.heap.size)[kx]? = some (Loc.box bx 176 #[.pointer (some ⟨rb, 0, none⟩)]) := by
    rw [List.getElem?_append_left (List.getElem?_eq_some_iff.1 hq).1]
    exact hq
  have H1 := Lib.hid (h1.perm (perm_back _ _ _ _ Q))
  have hS1 : Hid (w1.cell? ⟨bx, 0, none⟩ = some (.pointer (some ⟨rb, 0, none⟩))) := Lib.hid ((H1.out.boxq (kx + 2) hq1).cellAt 0)
  have hT1 : Hid (w1.cell? ⟨eb, 5, none⟩ = some (.slice A n c)) := Lib.hid ((H1.out.boxq 1 rfl).cellAt 5)
  have HG1 := Lib.hid hg1
  clear h1 HC HD hS0 hT0 hg1 hq
  have H2 := Lib.hid (H1.out.past ((Keeps.refl _ w1).alloc (.cells p.vals 43)))
  have hv4 : Hid (p.vals.toList.length = 4) := Lib.hid rfl
  have hvs : Hid (∀ u ∈ p.vals.toList, u.oneCell' = true) := Lib.hid (fun u hu => by
    have hu2 : u ∈ [Value.int .i64 p.e.on, .slice p.As p.e.slots.length p.cs, .slice p.Ac p.e.code.length p.cc, .int .i64 p.e.bound] := hu
    simp only [List.mem_cons, List.not_mem_nil, or_false] at hu2
    rcases hu2 with rfl | rfl | rfl | rfl <;> rfl)
  unfold PE.vals
  refine hK.out _ _ (hS1.out) (fun _ => hT1.out) ?_
  clear hK K
  go_simp
  refine upTo_next (i := 4) (by kernel_rfl) rfl ?_
  intro K hK
  go_simp
  refine hK.out _ _ ((H2.out.boxq (kx + 2) hq1).cellAt 0) (fun _ => (H2.out.boxq 1 rfl).cellAt 5) ?_
  clear hK K
  go_simp
  refine upTo_next (i := 5) (by kernel_rfl) rfl ?_
  intro K hK
  refine stepIfT (by rfl) ?_
  have hBs : w0.heap.size ≤ (w1.alloc (.cells p.vals 43)).heap.size := H2.out.old.size
  refine wp_append_cells _ _ _ 38 rfl w0.heap.size 43 (.agg #[.int .i64 0, .slice none 0 0, .slice none 0 0, .int .i64 0]) 4 64 Tryz.underlying38 info_eff rfl (by decide) (.slice A n c) n xs rfl (H2.out.own 0 rfl) (w1.heap.size + 1) (some ⟨w1.heap.size, 0, none⟩) 1 1 p.vals.toList rfl (Lies.row (t := 43) (fr := (0, 0)) (heap_alloc_new _ _) (Nat.lt_succ_self _)) hv4.out hvs.out (by simp only [maxLen]; omega) (by omega) hBs ?_
  intro A2 c2 w5 own5 hg5 hor5 _ _
  have H5 := Lib.hid (H2.out.grow 0 rfl own5 hg5 hor5)
  have H6 := Lib.hid (H5.out.cellq 1 rfl 5 (.slice A2 (n + 1) c2))
  have f5 := (H5.out.boxq 1 rfl).free 5
  have c5 := (H5.out.boxq 1 rfl).cellAt 5
  clear own5 hg5 hor5 hS1 hT1
  refine hK.out _ _ ((H5.out.boxq (kx + 2) hq1).cellAt 0) (fun h => absurd h (by decide)) ?_
  clear hK K
  go_simp
  refine upTo_take (i := 6) (v := ?v10) rfl (by kernel_rfl) (by kernel_rfl) (by kernel_rfl) (fun _ _ _ h => by first | exact h | exact absurd h.1 (fun e => by cases e)) (by decide) (Or.inl ⟨by rfl, ?hy10⟩) ((H5.out.boxq (kx + 2) hq1).cellAt 0) (fun h => absurd h (by decide)) ?rest10
  case hy10 =>
    intro w hSw
    clear hSw
    go_simp
    try with_reducible rfl
  go_simp
  refine upTo_next (i := 7) (by kernel_rfl) rfl ?_
  intro K hK
  go_simp
  refine hK.out _ _ ((H6.out.boxq (kx + 2) hq1).cellAt 0) (fun h => absurd h (by decide)) ?_
  clear hK K
  go_simp
  refine upTo_done (by kernel_rfl) ?_ _
  go_end0
  exact ⟨rfl, p, A2, c2, j, F1, HG1.out, hij, H6.out⟩
end
end Go.Proofs.YtcmbdnjcfneinaaGreatDoor
