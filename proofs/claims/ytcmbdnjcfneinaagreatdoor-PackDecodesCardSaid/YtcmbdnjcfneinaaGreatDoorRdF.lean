/-
  The reader of chapter 19: the texts: the walks. Conditions: lengths within 2 ^ 20.
-/
import Derived.Test.YtcmbdnjcfneinaaGreatDoorRdE
import Derived.Test.YtcmbdnjcfneinaaGreatDoorPkM
import Derived.Lib.BufferRead
namespace Go.Proofs.YtcmbdnjcfneinaaGreatDoor
open Go.RowKit
theorem conv_bytes {w : World} {B : Nat} {A : Option Addr} (l : List Oct) (c : Nat) (hl : Lies w B A (bytesV l)) : (convert 32 9 (.slice A l.length c)).run Tryz.prog w = .ok (.string (strB l)) w := by
  have e : l.length = (l.map UInt8.ofBitVec).length := by simp
  have hs : ∀ a : Addr, (∀ j (hj : j < (l.map UInt8.ofBitVec).length), w.cell? (a.add j) = some (.int .u8 ((l.map UInt8.ofBitVec)[j].toNat : Int))) → (convert 32 9 (.slice (some a) l.length c)).run Tryz.prog w = .ok (.string (strB l)) w := fun a h => by
    rw [e]
    exact run_convert_bytes_back w _ _ 5 a c (l.map UInt8.ofBitVec) Tryz.underlying32 Tryz.underlying5 Tryz.underlying9 h
  cases l with
  | nil =>
    cases A with
    | none => exact Lib.run_convert_nil_bytes w _ _ 5 c Tryz.underlying32 Tryz.underlying5 Tryz.underlying9
    | some a => exact hs a fun j hj => by simp at hj
  | cons x l =>
    obtain ⟨g, off, rfl, hg, _⟩ := hl 0 (byteV x) rfl
    refine hs _ fun j hj => ?_
    rw [Lib.addr_add]
    have hj2 : j < (x :: l).length := by simpa using hj
    obtain ⟨g', off', e2, _, hc⟩ := hl j _ (bytesV_get (x :: l) j hj2)
    injection e2 with e2
    injection e2 with e3 e4
    subst e3 e4
    rw [hc]
    simp only [List.getElem_map]
    rfl
theorem info_string : (Tryz.prog.info? 9).map (fun i => (i.zero, i.size, i.bytes)) = some (some (.string ⟨#[]⟩), 1, 16) := by kernel_rfl
section
variable {w0 w : World} {rb g off cap i en bx n c : Nat} {A : Option Addr} {b : List Oct} {F : Flt} {x4 x5 x7 x8 : Value} {xs : List Value} {Q : List Loc}
set_option maxRecDepth 4000 in
set_option maxHeartbeats 2000000 in
theorem textMore_any (h : RdAt w0 w rb g off cap b i en F x4 x5 (.slice A n c) x7 x8 (Loc.own w0.heap.size 9 1 (.slice A n c) n xs :: Loc.box bx 176 #[.pointer (some ⟨rb, 0, none⟩)] :: Q)) (hn : n ≤ 1048576) :
    Calls Tryz.prog 140 #[.pointer (some ⟨bx, 0, none⟩)] w fun r w' => r = .returned (.tuple #[]) ∧ ∃ (l : List Oct) (A' : Option Addr) (c' : Nat), Step (bytesP 1) b en i F l fun j F' =>
      RdAt w0 w' rb g off cap b j en F' x4 x5 (.slice A' (n + 1) c') x7 x8 (Loc.own w0.heap.size 9 1 (.slice A' (n + 1) c') (n + 1) (xs ++ [.string (strB l)]) :: Loc.box bx 176 #[.pointer (some ⟨rb, 0, none⟩)] :: Q) := by
  have HD := Lib.hid (h.past ((Keeps.refl _ w).drew))
  have hS0 : Hid (w.drew.cell? ⟨bx, 0, none⟩ = some (.pointer (some ⟨rb, 0, none⟩))) := Lib.hid ((HD.out.boxq 1 rfl).cellAt 0)
  have hT0 : Hid (w.drew.cell? ⟨rb, 6, none⟩ = some (.slice A n c)) := Lib.hid (by
    obtain ⟨fb, hb⟩ := HD.out.rbox
    exact hb.cellAt 6)
  have HC := Lib.hid (numberS_any 1 b g off HD.out (by decide))
  clear h
  go_enter Tryz.func140, Tryz.ntmps140
  go_wp2_with fail
  refine wp_region_upTo 16 (fun W => W.cell? ⟨bx, 0, none⟩ = some (.pointer (some ⟨rb, 0, none⟩))) (fun W => W.cell? ⟨rb, 6, none⟩ = some (.slice A n c)) (by kernel_rfl) ?_
  refine upTo_take (i := 0) (v := ?v1) rfl (by kernel_rfl) (by kernel_rfl) (by kernel_rfl) (fun _ _ _ h => by first | exact h | exact absurd h.1 (fun e => by cases e)) (by decide) (Or.inl ⟨by rfl, ?hy1⟩) (hS0.out) (fun _ => hT0.out) ?rest1
  case hy1 =>
    intro w hSw
    obtain qh := hSw
    go_simp
    try with_reducible rfl
  go_simp
  refine upTo_take (i := 1) (v := ?v2) rfl (by kernel_rfl) (by kernel_rfl) (by kernel_rfl) (fun _ _ _ h => by first | exact h | exact absurd h.1 (fun e => by cases e)) (by decide) (Or.inl ⟨by rfl, ?hy2⟩) (hS0.out) (fun _ => hT0.out) ?rest2
  case hy2 =>
    intro w hSw
    obtain qh := hSw
    go_simp
    try with_reducible rfl
  go_simp
  refine upTo_take (i := 2) (v := ?v3) rfl (by kernel_rfl) (by kernel_rfl) (by kernel_rfl) (fun _ _ _ h => by first | exact h | exact absurd h.1 (fun e => by cases e)) (by decide) (Or.inl ⟨by rfl, ?hy3⟩) (hS0.out) (fun _ => hT0.out) ?rest3
  case hy3 =>
    intro w hSw
    clear hSw
    go_simp
    try with_reducible rfl
  go_simp
  refine upTo_take (i := 3) (v := ?v4) rfl (by kernel_rfl) (by kernel_rfl) (by kernel_rfl) (fun _ _ _ h => by first | exact h | exact absurd h.1 (fun e => by cases e)) (by decide) (Or.inl ⟨by rfl, ?hy4⟩) (hS0.out) (fun _ => hT0.out) ?rest4
  case hy4 =>
    intro w hSw
    clear hSw
    go_simp
    try with_reducible rfl
  go_simp
  refine upTo_take (i := 4) (v := ?v5) rfl (by kernel_rfl) (by kernel_rfl) (by kernel_rfl) (fun _ _ _ h => by first | exact h | exact absurd h.1 (fun e => by cases e)) (by decide) (Or.inl ⟨by rfl, ?hy5⟩) (hS0.out) (fun _ => hT0.out) ?rest5
  case hy5 =>
    intro w hSw
    clear hSw
    go_simp
    try with_reducible rfl
  go_simp
  refine upTo_load (i := 5) (v := ?v6) rfl (by kernel_rfl) (by kernel_rfl) (by kernel_rfl) (fun _ _ _ h => by first | exact h | exact absurd h.1 (fun e => by cases e)) (by decide) (by kernel_rfl) (by kernel_rfl) (Or.inl ⟨by rfl, ?hy6⟩) (hS0.out) (hT0.out) ?rest6
  case hy6 =>
    intro w hSw
    obtain qh := hSw
    go_simp
    try with_reducible rfl
  go_simp
  refine upTo_take (i := 6) (v := ?v7) rfl (by kernel_rfl) (by kernel_rfl) (by kernel_rfl) (fun _ _ _ h => by first | exact h | exact absurd h.1 (fun e => by cases e)) (by decide) (Or.inl ⟨by rfl, ?hy7⟩) (hS0.out) (fun _ => hT0.out) ?rest7
  case hy7 =>
    intro w hSw
    obtain qh := hSw
    go_simp
    try with_reducible rfl
  go_simp
  refine upTo_take (i := 7) (v := ?v8) rfl (by kernel_rfl) (by kernel_rfl) (by kernel_rfl) (fun _ _ _ h => by first | exact h | exact absurd h.1 (fun e => by cases e)) (by decide) (Or.inl ⟨by rfl, ?hy8⟩) (hS0.out) (fun _ => hT0.out) ?rest8
  case hy8 =>
    intro w hSw
    clear hSw
    go_simp
    try with_reducible rfl
  go_simp
  refine upTo_take (i := 8) (v := ?v9) rfl (by kernel_rfl) (by kernel_rfl) (by kernel_rfl) (fun _ _ _ h => by first | exact h | exact absurd h.1 (fun e => by cases e)) (by decide) (Or.inl ⟨by rfl, ?hy9⟩) (hS0.out) (fun _ => hT0.out) ?rest9
  case hy9 =>
    intro w hSw
    clear hSw
    go_simp
    try with_reducible rfl
  go_simp
  refine upTo_take (i := 9) (v := ?v10) rfl (by kernel_rfl) (by kernel_rfl) (by kernel_rfl) (fun _ _ _ h => by first | exact h | exact absurd h.1 (fun e => by cases e)) (by decide) (Or.inl ⟨by rfl, ?hy10⟩) (hS0.out) (fun _ => hT0.out) ?rest10
  case hy10 =>
    intro w hSw
    obtain qh := hSw
    go_simp
    try with_reducible rfl
  go_simp
  refine upTo_take (i := 10) (v := ?v11) rfl (by kernel_rfl) (by kernel_rfl) (by kernel_rfl) (fun _ _ _ h => by first | exact h | exact absurd h.1 (fun e => by cases e)) (by decide) (Or.inl ⟨by rfl, ?hy11⟩) (hS0.out) (fun _ => hT0.out) ?rest11
  case hy11 =>
    intro w hSw
    clear hSw
    go_simp
    try with_reducible rfl
  go_simp
  refine upTo_take (i := 11) (v := ?v12) rfl (by kernel_rfl) (by kernel_rfl) (by kernel_rfl) (fun _ _ _ h => by first | exact h | exact absurd h.1 (fun e => by cases e)) (by decide) (Or.inl ⟨by rfl, ?hy12⟩) (hS0.out) (fun _ => hT0.out) ?rest12
  case hy12 =>
    intro w hSw
    clear hSw
    go_simp
    try with_reducible rfl
  go_simp
  refine upTo_next (i := 12) (by kernel_rfl) rfl ?_
  intro K hK
  go_simp
  refine (HC.out).mono ?_
  rintro r w1 ⟨y, rfl, hy, i1, F1, hg1, hij, h1⟩
  have H1 := Lib.hid h1
  have hS1 : Hid (w1.cell? ⟨bx, 0, none⟩ = some (.pointer (some ⟨rb, 0, none⟩))) := Lib.hid ((h1.boxq 1 rfl).cellAt 0)
  have hT1 : Hid (w1.cell? ⟨rb, 6, none⟩ = some (.slice A n c)) := Lib.hid (by
    obtain ⟨fb, hb⟩ := h1.rbox
    exact hb.cellAt 6)
  have HG1 := Lib.hid hg1
  have HC2 := Lib.hid (take_any y b g off h1 (by omega))
  clear h1 HC HD hS0 hT0 hg1
  refine hK.out _ _ (hS1.out) (fun _ => hT1.out) ?_
  clear hK K
  go_simp
  refine upTo_next (i := 13) (by kernel_rfl) rfl ?_
  intro K hK
  go_simp
  refine (HC2.out).mono ?_
  rintro r w2 ⟨l, Al, cl, rfl, hl, hlc, hly, j, F2, hg2, hjj, h2⟩
  have H2 := Lib.hid h2
  have hS2 : Hid (w2.cell? ⟨bx, 0, none⟩ = some (.pointer (some ⟨rb, 0, none⟩))) := Lib.hid ((h2.boxq 1 rfl).cellAt 0)
  have hT2 : Hid (w2.cell? ⟨rb, 6, none⟩ = some (.slice A n c)) := Lib.hid (by
    obtain ⟨fb, hb⟩ := h2.rbox
    exact hb.cellAt 6)
  have HG2 : Hid (Goes (bytesP 1) (b.take en) i F j F2 l) := Lib.hid (HG1.out.seq (by rw [Int.toNat_natCast]; exact hg2))
  have hcv := conv_bytes l cl (hl.keep fun g o hg => h2.old.cell hg id : Lies w2 _ Al (bytesV l))
  clear h2 HC2 H1 hS1 hT1 hg2 hl HG1
  refine hK.out _ _ (hS2.out) (fun _ => hT2.out) ?_
  clear hK K
  go_simp
  refine upTo_next (i := 14) (by kernel_rfl) rfl ?_
  intro K hK
  go_simp
  refine hK.out _ _ (hS2.out) (fun _ => hT2.out) ?_
  clear hK K
  go_simp
  have H3 := Lib.hid (H2.out.past ((Keeps.refl _ w2).alloc (.cells #[.string (strB l)] 9)))
  refine upTo_next (i := 15) (by kernel_rfl) rfl ?_
  intro K hK
  go_simp
  refine hK.out _ _ ((H3.out.boxq 1 rfl).cellAt 0) (fun _ => by obtain ⟨fb, hb⟩ := H3.out.rbox; exact hb.cellAt 6) ?_
  clear hK K
  go_simp
  refine upTo_next (i := 16) (by kernel_rfl) rfl ?_
  intro K hK
  refine stepIfT (by rfl) ?_
  have hBs : w0.heap.size ≤ (w2.alloc (.cells #[.string (strB l)] 9)).heap.size := H3.out.old.size
  refine wp_append_cells _ _ _ 23 rfl w0.heap.size 9 (.string ⟨#[]⟩) 1 16 Tryz.underlying23 info_string rfl (by decide) (.slice A n c) n xs rfl (H3.out.own 0 rfl) (w2.heap.size + 1) (some ⟨w2.heap.size, 0, none⟩) 1 1 [.string (strB l)] rfl (Lies.row (t := 9) (fr := (0, 0)) (heap_alloc_new _ _) (Nat.lt_succ_self _)) rfl (fun u hu => by simp at hu; rw [hu]; rfl) (by simp only [maxLen]; omega) (by omega) hBs ?_
  intro A2 c2 w5 own5 hg5 hor5 _ _
  have H5 := Lib.hid (H3.out.grow 0 rfl own5 hg5 hor5)
  have H6 := Lib.hid (H5.out.set6 (.slice A2 (n + 1) c2))
  obtain ⟨fb, hb5⟩ := H5.out.rbox
  have f5 := hb5.free 6
  have c5 := hb5.cellAt 6
  clear own5 hg5 hor5 hb5 hS2 hT2 hcv
  refine hK.out _ _ ((H5.out.boxq 1 rfl).cellAt 0) (fun h => absurd h (by decide)) ?_
  clear hK K
  go_simp
  refine upTo_take (i := 17) (v := ?v13) rfl (by kernel_rfl) (by kernel_rfl) (by kernel_rfl) (fun _ _ _ h => by first | exact h | exact absurd h.1 (fun e => by cases e)) (by decide) (Or.inl ⟨by rfl, ?hy13⟩) ((H5.out.boxq 1 rfl).cellAt 0) (fun h => absurd h (by decide)) ?rest13
  case hy13 =>
    intro w hSw
    clear hSw
    go_simp
    try with_reducible rfl
  go_simp
  refine upTo_take (i := 18) (v := ?v14) rfl (by kernel_rfl) (by kernel_rfl) (by kernel_rfl) (fun _ _ _ h => by first | exact h | exact absurd h.1 (fun e => by cases e)) (by decide) (Or.inl ⟨by rfl, ?hy14⟩) ((H5.out.boxq 1 rfl).cellAt 0) (fun h => absurd h (by decide)) ?rest14
  case hy14 =>
    intro w hSw
    clear hSw
    go_simp
    try with_reducible rfl
  go_simp
  refine upTo_take (i := 19) (v := ?v15) rfl (by kernel_rfl) (by kernel_rfl) (by kernel_rfl) (fun _ _ _ h => by first | exact h | exact absurd h.1 (fun e => by cases e)) (by decide) (Or.inl ⟨by rfl, ?hy15⟩) ((H5.out.boxq 1 rfl).cellAt 0) (fun h => absurd h (by decide)) ?rest15
  case hy15 =>
    intro w hSw
    clear hSw
    go_simp
    try with_reducible rfl
  go_simp
  refine upTo_next (i := 20) (by kernel_rfl) rfl ?_
  intro K hK
  go_simp
  refine hK.out _ _ ((H6.out.boxq 1 rfl).cellAt 0) (fun h => absurd h (by decide)) ?_
  clear hK K
  go_simp
  refine upTo_done (by kernel_rfl) ?_ _
  go_end0
  exact ⟨rfl, l, A2, c2, j, F2, HG2.out, by omega, H6.out⟩
end
section
variable {w0 w : World} {rb g off cap i en : Nat} {b : List Oct} {F : Flt} {x4 x5 x6 x7 x8 : Value} {Q : List Loc}
set_option maxRecDepth 4000 in
set_option maxHeartbeats 2000000 in
theorem texts_any (h : RdAt w0 w rb g off cap b i en F x4 x5 (.slice none 0 0) x7 x8 Q) :
    Calls Tryz.prog 106 #[.pointer (some ⟨rb, 0, none⟩)] w fun r w' => r = .returned (.tuple #[]) ∧ ∃ (l : List (List Oct)) (A : Option Addr) (c : Nat), Step (listP 2 (bytesP 1)) b en i F l fun j F' => RdAt w0 w' rb g off cap b j en F' x4 x5 (.slice A l.length c) x7 x8 (Loc.own w0.heap.size 9 1 (.slice A l.length c) l.length (textsV l) :: Q) := by
  have hm0 := (h.make 176 #[.pointer (some ⟨rb, 0, none⟩)]).past ((Keeps.refl _ (w.alloc (.cells #[.pointer (some ⟨rb, 0, none⟩)] 176))).drew)
  have HD := Lib.hid (hm0.nil w0.heap.size 9 1)
  have hS0 : Hid ((w.alloc (.cells #[.pointer (some ⟨rb, 0, none⟩)] 176)).drew.cell? ⟨w.heap.size, 0, none⟩ = some (.pointer (some ⟨rb, 0, none⟩))) := Lib.hid ((HD.out.boxq 1 rfl).cellAt 0)
  have HC := Lib.hid (numberS_any 2 b g off HD.out (by decide))
  clear h hm0
  have hmf : ∀ (fn : Fn) (first cap : Array Value) (w : World), (Instr.makeFunc fn first cap).run Tryz.prog w = .ok (.func fn first cap) w := fun _ _ _ _ => rfl
  go_enter Tryz.func106, Tryz.ntmps106
  go_wp2_with fail
  refine wp_region_upTo 8 (fun W => W.cell? ⟨w.heap.size, 0, none⟩ = some (.pointer (some ⟨rb, 0, none⟩))) (fun _ => True) (by kernel_rfl) ?_
  refine upTo_take (i := 0) (v := ?v16) rfl (by kernel_rfl) (by kernel_rfl) (by kernel_rfl) (fun _ _ _ h => by first | exact h | exact absurd h.1 (fun e => by cases e)) (by decide) (Or.inl ⟨by rfl, ?hy16⟩) (hS0.out) (fun _ => trivial) ?rest16
  case hy16 =>
    intro w hSw
    obtain qh := hSw
    go_simp
    try with_reducible rfl
  go_simp
  refine upTo_take (i := 1) (v := ?v17) rfl (by kernel_rfl) (by kernel_rfl) (by kernel_rfl) (fun _ _ _ h => by first | exact h | exact absurd h.1 (fun e => by cases e)) (by decide) (Or.inl ⟨by rfl, ?hy17⟩) (hS0.out) (fun _ => trivial) ?rest17
  case hy17 =>
    intro w hSw
    clear hSw
    go_simp
    try with_reducible rfl
  go_simp
  refine upTo_take (i := 2) (v := ?v18) rfl (by kernel_rfl) (by kernel_rfl) (by kernel_rfl) (fun _ _ _ h => by first | exact h | exact absurd h.1 (fun e => by cases e)) (by decide) (Or.inl ⟨by rfl, ?hy18⟩) (hS0.out) (fun _ => trivial) ?rest18
  case hy18 =>
    intro w hSw
    clear hSw
    go_simp
    try with_reducible rfl
  go_simp
  refine upTo_take (i := 3) (v := ?v19) rfl (by kernel_rfl) (by kernel_rfl) (by kernel_rfl) (fun _ _ _ h => by first | exact h | exact absurd h.1 (fun e => by cases e)) (by decide) (Or.inl ⟨by rfl, ?hy19⟩) (hS0.out) (fun _ => trivial) ?rest19
  case hy19 =>
    intro w hSw
    obtain qh := hSw
    go_simp
    try with_reducible rfl
  go_simp
  refine upTo_take (i := 4) (v := ?v20) rfl (by kernel_rfl) (by kernel_rfl) (by kernel_rfl) (fun _ _ _ h => by first | exact h | exact absurd h.1 (fun e => by cases e)) (by decide) (Or.inl ⟨by rfl, ?hy20⟩) (hS0.out) (fun _ => trivial) ?rest20
  case hy20 =>
    intro w hSw
    clear hSw
    go_simp
    try with_reducible rfl
  go_simp
  refine upTo_take (i := 5) (v := ?v21) rfl (by kernel_rfl) (by kernel_rfl) (by kernel_rfl) (fun _ _ _ h => by first | exact h | exact absurd h.1 (fun e => by cases e)) (by decide) (Or.inl ⟨by rfl, ?hy21⟩) (hS0.out) (fun _ => trivial) ?rest21
  case hy21 =>
    intro w hSw
    clear hSw
    go_simp
    try with_reducible rfl
  go_simp
  refine upTo_take (i := 7) (v := ?v22) rfl (by kernel_rfl) (by kernel_rfl) (by kernel_rfl) (fun _ _ _ h => by first | exact h | exact absurd h.1 (fun e => by cases e)) (by decide) (Or.inl ⟨by rfl, ?hy22⟩) (hS0.out) (fun _ => trivial) ?rest22
  case hy22 =>
    intro w hSw
    clear hSw
    go_simp
    try with_reducible rfl
  go_simp
  refine upTo_next (i := 6) (by kernel_rfl) rfl ?_
  intro K hK
  go_simp
  refine (HC.out).mono ?_
  rintro r w1 ⟨n, rfl, hn, i1, F1, hg1, hij, h1⟩
  have H1 := Lib.hid h1
  have HG1 := Lib.hid hg1
  have hn2 : n ≤ 65536 := by omega
  clear h1 HC HD hS0 hg1 hn
  refine hK.out _ _ ((H1.out.boxq 1 rfl).cellAt 0) (fun _ => trivial) ?_
  clear hK K
  go_simp
  refine upTo_next (i := 8) (by kernel_rfl) rfl ?_
  intro K hK
  go_simp
  refine (times_any 140 n rb #[.pointer (some ⟨w.heap.size, 0, none⟩)] (enters_of Tryz.func140 (by kernel_rfl) rfl) (fun m W => ∃ (j : Nat) (F2 : Flt) (l : List (List Oct)) (A : Option Addr) (c : Nat), Goes (repP (bytesP 1) m) (b.take en) i1 F1 j F2 l ∧ l.length = m ∧ i1 ≤ j ∧
      RdAt w0 W rb g off cap b j en F2 x4 x5 (.slice A m c) x7 x8 (Loc.own w0.heap.size 9 1 (.slice A m c) m (textsV l) :: Loc.box w.heap.size 176 #[.pointer (some ⟨rb, 0, none⟩)] :: Q)) w1 (by omega)
    (fun m W hm => by obtain ⟨j, F2, l, A, c, hg, hl, hj, hr⟩ := hm; exact hr.err) (fun m W hm hlt hnil => ?step) ⟨i1, F1, [], none, 0, Goes.ret _, rfl, Nat.le_refl _, H1.out⟩).mono ?_
  case step =>
    obtain ⟨j, F2, l, A, c, hg, hl, hj, hr⟩ := hm
    refine (textMore_any hr (by omega)).mono ?_
    rintro r W' ⟨rfl, t, A', c', j2, F3, hg2, hj2, hr2⟩
    exact ⟨rfl, j2, F3, l ++ [t], A', c', hg.snoc hg2, by rw [List.length_append, hl]; rfl, by omega, by unfold textsV; rw [List.map_append]; exact hr2⟩
  rintro r w2 ⟨rfl, m, hm, ⟨j, F2, l, A, c, hg, hl, hj, hr⟩, hend⟩
  have HE : Hid (m = n ∨ ∃ f, F2 = some f) := Lib.hid (hend.imp id hr.halted)
  have HR := Lib.hid hr
  have HL := Lib.hid hl
  have HG := Lib.hid hg
  clear hr hl hg hend H1
  refine hK.out _ _ ((HR.out.boxq 1 rfl).cellAt 0) (fun h => absurd h (by decide)) ?_
  clear hK K
  go_simp
  refine upTo_done (by kernel_rfl) ?_ _
  go_end0
  have hl2 := HL.out
  subst hl2
  exact ⟨rfl, l, A, c, j, F2, HG1.out.list HG.out hm HE.out, by omega, HR.out.sub ((List.sublist_cons_self _ _).cons_cons _)⟩
end
end Go.Proofs.YtcmbdnjcfneinaaGreatDoor
