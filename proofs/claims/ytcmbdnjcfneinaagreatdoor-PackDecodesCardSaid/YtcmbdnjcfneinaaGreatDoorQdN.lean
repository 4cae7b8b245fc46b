/-
  The reference's reader of a pack: a cut around a loop; sections, one behind the other. Conditions: none.
-/
import Derived.Test.YtcmbdnjcfneinaaGreatDoorQdE
import Derived.Test.YtcmbdnjcfneinaaGreatDoorCqM
import Derived.Test.YtcmbdnjcfneinaaGreatDoorRdF
import Derived.Deep.Cut
namespace Go.Proofs.YtcmbdnjcfneinaaGreatDoor
open Go.RowKit
theorem wp_cut_in {P : Program} {s : Code} {m : Nat} {K : Act → World → Prop} {Q' : Exit → Act → World → Prop} {a : Act} {w : World} (R : Act → World → Prop)
    (rest : ∀ a' w', R a' w' → K a' w')
    (first : ∀ K' : Act → World → Prop, (∀ a' w', Met R a' w' → K' a' w') → s.wp P (Exit.inBlock m (Exit.then K' Q')) a w) : s.wp P (Exit.inBlock m (Exit.then K Q')) a w := by
  refine Code.wp_mono ?_ (first R (fun _ _ q => q))
  intro e a' w' hq
  cases e with
  | normal => exact rest _ _ hq
  | exit id =>
    simp only [Exit.inBlock] at hq ⊢
    split at hq
    · rename_i h; rw [if_pos h]; exact rest _ _ hq
    · rename_i h; rw [if_neg h]; exact hq
  | goto l => exact hq
  | ret => exact hq
  | panic ch => exact hq
  | outgrown => exact hq
/-- The frame of the reader of a pack, between two of its loops. -/
def FrP (rb r0 xb : Nat) (a : Act) : Prop := ∀ M : Act → Prop, (∀ u1 u4 u5 u6 u7 u8 u9 u10 u11 u12 u13 u14 u15 u16 u17 u18 u19 u20 u21 u22 u23 u24 u25 u26 u27 u28 u29 u30 u31 u32 u33 u34 u35 u36 u37 u38 u39 u40 u41 u42 u43 u44 u45 u46 u47 u48 u49 u50 u51 u52 u53 u54 u55 u56 u57 u58 u59 u60 u61 u62 u63 u64 u65 u66 u67 u68 u69 u70 u71 u72 u73 u74 u75 u76 u77 u78 u79 u80 u81 u82 u83 u84 u85 u86 u87 u88 u89 u90 u91 u92 u93 u94 u95 u96 u97 u98 u99 u100 u101 u102 u103 u104 u105 u106 u107 u108 u109 u110 u111 u112 u113 u114 u115 u116 u117 u118 u119 u120 u121 u122 u123 : Value, M ⟨#[.pointer (some ⟨rb, 0, none⟩), u1, .pointer (some ⟨r0, 0, none⟩), .pointer (some ⟨xb, 0, none⟩), u4, u5, u6, u7, u8, u9, u10, u11, u12, u13, u14, u15, u16, u17, u18, u19, u20, u21, u22, u23, u24, u25, u26, u27, u28, u29, u30, u31, u32, u33, u34, u35, u36, u37, u38, u39, u40, u41, u42, u43, u44, u45, u46, u47, u48, u49, u50, u51, u52, u53, u54, u55, u56, u57, u58, u59, u60, u61, u62, u63, u64, u65, u66, u67, u68, u69, u70, u71, u72, u73, u74, u75, u76, u77, u78, u79, u80, u81, u82, u83, u84, u85, u86, u87, u88, u89, u90, u91, u92, u93, u94, u95, u96, u97, u98, u99, u100, u101, u102, u103, u104, u105, u106, u107, u108, u109, u110, u111, u112, u113, u114, u115, u116, u117, u118, u119, u120, u121, u122, u123], []⟩) → M a
def CutQ (rb r0 xb : Nat) (T : World → Prop) (a : Act) (w : World) : Prop := FrP rb r0 xb a ∧ T w
theorem FrP.rest {rb r0 xb : Nat} {K : Act → World → Prop} {T : World → Prop} (h : ∀ (w' : World), T w' → ∀ u1 u4 u5 u6 u7 u8 u9 u10 u11 u12 u13 u14 u15 u16 u17 u18 u19 u20 u21 u22 u23 u24 u25 u26 u27 u28 u29 u30 u31 u32 u33 u34 u35 u36 u37 u38 u39 u40 u41 u42 u43 u44 u45 u46 u47 u48 u49 u50 u51 u52 u53 u54 u55 u56 u57 u58 u59 u60 u61 u62 u63 u64 u65 u66 u67 u68 u69 u70 u71 u72 u73 u74 u75 u76 u77 u78 u79 u80 u81 u82 u83 u84 u85 u86 u87 u88 u89 u90 u91 u92 u93 u94 u95 u96 u97 u98 u99 u100 u101 u102 u103 u104 u105 u106 u107 u108 u109 u110 u111 u112 u113 u114 u115 u116 u117 u118 u119 u120 u121 u122 u123 : Value, K ⟨#[.pointer (some ⟨rb, 0, none⟩), u1, .pointer (some ⟨r0, 0, none⟩), .pointer (some ⟨xb, 0, none⟩), u4, u5, u6, u7, u8, u9, u10, u11, u12, u13, u14, u15, u16, u17, u18, u19, u20, u21, u22, u23, u24, u25, u26, u27, u28, u29, u30, u31, u32, u33, u34, u35, u36, u37, u38, u39, u40, u41, u42, u43, u44, u45, u46, u47, u48, u49, u50, u51, u52, u53, u54, u55, u56, u57, u58, u59, u60, u61, u62, u63, u64, u65, u66, u67, u68, u69, u70, u71, u72, u73, u74, u75, u76, u77, u78, u79, u80, u81, u82, u83, u84, u85, u86, u87, u88, u89, u90, u91, u92, u93, u94, u95, u96, u97, u98, u99, u100, u101, u102, u103, u104, u105, u106, u107, u108, u109, u110, u111, u112, u113, u114, u115, u116, u117, u118, u119, u120, u121, u122, u123], []⟩ w') : ∀ a' w', CutQ rb r0 xb T a' w' → K a' w' := fun _ w' hc => hc.1 (fun a => K a w') (h w' hc.2)
theorem Rw.callE {w W W' : World} {rb g off cap i j en en' r0 xb : Nat} {b : List Oct} {F G : Flt} {t : TypeId} {rcs cs : Array Value} (h : Rw w W rb g off cap b i en F t r0 xb rcs cs) (hk : Keeps (fun k => k = rb) W W') (hr : Rf W' rb g off cap b j en' G) : Rw w W' rb g off cap b j en' G t r0 xb rcs cs :=
  ⟨h.lo, h.r0lo, h.xblo, h.ne, h.res.keeps hk (fun e => by have := h.lo; have := h.r0lo; omega), h.box.keeps hk (fun e => by have := h.lo; have := h.xblo; omega), hr, h.keeps.trans hk⟩
theorem Opened.room {id : Oct} {b : List Oct} {i en j : Nat} {F : Flt} (h : Opened id b i F en j none) (h4 : 4 ≤ b.length) : F = none ∧ en + 4 ≤ b.length := by
  cases F with
  | some f =>
    have h' : (none : Flt) = some f := h
    cases h'
  | none =>
    rcases h with ⟨h1, _⟩ | ⟨_, _, _, h2, _⟩
    · cases h1
    · exact ⟨rfl, by omega⟩
theorem Goes.none' {α : Type} {p : Pr α} {b : List Oct} {i j : Nat} {F : Flt} {a : α} (h : Goes p b i F j none a) : F = none := by
  cases F with
  | some f => exact absurd h.1 (by simp)
  | none => rfl
theorem shutF_none {k en : Nat} {H : Flt} (h : shutF k en H = none) : H = none := by
  cases H with
  | some f =>
    have h' : (some f : Flt) = none := h
    cases h'
  | none => rfl
/-- What is known between two sections: a place that a section may begin at. -/
theorem sec_room {α : Type} {id : Oct} {q : Pr α} {b : List Oct} {i j k en : Nat} {F G H : Flt} {a : α} (ho : Opened id b i F en j G) (hg : Goes q (b.take en) j G k H a) (hk : H = none → k ≤ en) (h4 : 4 ≤ b.length) : shutF k en H = none → k + 4 ≤ b.length := fun h => by
  have h1 := shutF_none h
  subst h1
  have h2 := hg.none'
  subst h2
  have := (ho.room h4).2
  have := hk rfl
  omega
def UPk (w : World) (B : Nat) (v : Value) (l : List Knd) (cells : List Value) : Prop := OUp OlKd 6 40 w B v l cells
theorem UPk.keeps {S : Nat → Prop} {w w' : World} {B : Nat} {v : Value} {l : List Knd} {cells : List Value} (h : UPk w B v l cells) (hk : Keeps S w w') (hS : ∀ b, B ≤ b → ¬ S b) : UPk w' B v l cells := OUp.keeps OlKd_k h hk hS
theorem OlKd.keeps {S : Nat → Prop} {w w' : World} {B : Nat} {v : List Value} {x : Knd} (h : OlKd w B v x) (hk : Keeps S w w') (hS : ∀ b, B ≤ b → ¬ S b) : OlKd w' B v x := OlKd_k.keeps _ _ _ _ _ _ h hk hS
theorem info_i64D : (Tryz.prog.info? 2).map (fun i => (i.zero, i.size, i.bytes)) = some (some (.int .i64 0), 1, 8) := by kernel_rfl
theorem info_strD : (Tryz.prog.info? 9).map (fun i => (i.zero, i.size, i.bytes)) = some (some (.string ⟨#[]⟩), 1, 16) := by kernel_rfl
theorem info_kndD : (Tryz.prog.info? 40).map (fun i => (i.zero, i.size, i.bytes)) = some (some (.agg #[.int .i64 0, .int .i64 0, .int .i64 0, .int .i64 0, .slice none 0 0, .slice none 0 0]), 6, 80) := by kernel_rfl
end Go.Proofs.YtcmbdnjcfneinaaGreatDoor
/-
  The reference's reader of a pack: the walk. Conditions: lengths within 2 ^ 20.
-/
namespace Go.Proofs.YtcmbdnjcfneinaaGreatDoor
open Go.RowKit
/-- The ints are read. -/
def CutI (w : World) (rb g off cap : Nat) (b : List Oct) (xb en n i5 : Nat) (F5 : Flt) (yc : Nat) (wr : World) : Prop := ∃ (l : List Int) (A : Option Addr) (c j : Nat) (G : Flt), l.length ≤ n ∧ Hid (Rw w wr rb g off cap b j en G 26 w.heap.size xb #[.int .i64 0, .slice none 0 0, .slice none 0 0, .slice none 0 0] #[.int .i64 (yc : Int), .slice A l.length c, .slice none 0 0, .slice none 0 0]) ∧ Hid (wr.ownsRow w.heap.size 2 1 (.slice A l.length c) l.length (l.map (Value.int .i64))) ∧ Hid (Goes (repP s64P n) (b.take en) i5 F5 j G l) ∧ Hid (i5 ≤ j) ∧ Hid (∀ x ∈ l, -9223372036854775808 ≤ x ∧ x ≤ 9223372036854775807)
/-- The texts are read. -/
def CutT (w : World) (rb g off cap : Nat) (b : List Oct) (xb en n i5 : Nat) (F5 : Flt) (yc : Nat) (il : List Int) (Ai : Option Addr) (ci : Nat) (wr : World) : Prop := ∃ (l : List (List Oct)) (A : Option Addr) (c j : Nat) (G : Flt), l.length ≤ n ∧ Hid (Rw w wr rb g off cap b j en G 26 w.heap.size xb #[.int .i64 0, .slice none 0 0, .slice none 0 0, .slice none 0 0] #[.int .i64 (yc : Int), .slice Ai il.length ci, .slice A l.length c, .slice none 0 0]) ∧ Hid (wr.ownsRow w.heap.size 2 1 (.slice Ai il.length ci) il.length (il.map (Value.int .i64))) ∧ Hid (wr.ownsRow w.heap.size 9 1 (.slice A l.length c) l.length (textsV l)) ∧ Hid (Goes (repP (bytesP 1) n) (b.take en) i5 F5 j G l) ∧ Hid (i5 ≤ j) ∧ Hid (∀ t ∈ l, t.length ≤ 255)
/-- The kinds are read. -/
def CutD (w : World) (rb g off cap : Nat) (b : List Oct) (xb en n i5 : Nat) (F5 : Flt) (yc : Nat) (il : List Int) (Ai : Option Addr) (ci : Nat) (tl : List (List Oct)) (At : Option Addr) (ct : Nat) (wr : World) : Prop := ∃ (l : List Knd) (cells : List Value) (A : Option Addr) (c j : Nat) (G : Flt), l.length ≤ n ∧ Hid (Rw w wr rb g off cap b j en G 26 w.heap.size xb #[.int .i64 0, .slice none 0 0, .slice none 0 0, .slice none 0 0] #[.int .i64 (yc : Int), .slice Ai il.length ci, .slice At tl.length ct, .slice A l.length c]) ∧ Hid (wr.ownsRow w.heap.size 2 1 (.slice Ai il.length ci) il.length (il.map (Value.int .i64))) ∧ Hid (wr.ownsRow w.heap.size 9 1 (.slice At tl.length ct) tl.length (textsV tl)) ∧ Hid (UPk wr w.heap.size (.slice A l.length c) l cells) ∧ Hid (Goes (repP kndP n) (b.take en) i5 F5 j G l) ∧ Hid (i5 ≤ j) ∧ Hid (∀ k ∈ l, KndFew k)
set_option maxRecDepth 100000 in
set_option maxHeartbeats 6000000 in
theorem packRd_ref {w : World} {rb g off cap en : Nat} {b : List Oct} (h : Rq w rb g off cap b 5 en none) (h9 : 9 ≤ b.length) :
    Calls Tryz.prog 81 #[.pointer (some ⟨rb, 0, none⟩)] w fun r w' => ∃ (p : Pk) (A1 A2 A3 : Option Addr) (c1 c2 c3 j k : Nat) (H : Flt), r = .returned (.agg (pkC p A1 A2 A3 c1 c2 c3)) ∧ OLo w' w.heap.size (.slice A1 p.ints.length c1) p.ints ∧ OTx w' w.heap.size (.slice A2 p.texts.length c2) p.texts ∧ OKd w' w.heap.size (.slice A3 p.kinds.length c3) p.kinds ∧ PkFew p ∧
      SGoes secsP (b.take (b.length - 4)) 5 none j H (p.cards, p.ints, p.texts, p.kinds) ∧ (∃ en', Rq w' rb g off cap b k en' (match H with | some f => some f | none => if j = b.length - 4 then none else some (55, j))) ∧ (H = none → k = j) ∧ Keeps (fun k => k = rb) w w' := by
  have hin := h.box.inside
  have h4 : 4 ≤ b.length := by omega
  have hsmall := h.small
  have ka := ((Keeps.refl (fun _ => False) w).alloc (.cells #[.int .i64 0, .slice none 0 0, .slice none 0 0, .slice none 0 0] 26)).alloc (.cells #[.int .i64 0, .slice none 0 0, .slice none 0 0, .slice none 0 0] 26)
  have R0 := Lib.hid ((Whole.made w 26 #[.int .i64 0, .slice none 0 0, .slice none 0 0, .slice none 0 0]).alloc (.cells #[.int .i64 0, .slice none 0 0, .slice none 0 0, .slice none 0 0] 26))
  have X0 := Lib.hid (Whole.made (w.alloc (.cells #[.int .i64 0, .slice none 0 0, .slice none 0 0, .slice none 0 0] 26)) 26 #[.int .i64 0, .slice none 0 0, .slice none 0 0, .slice none 0 0])
  rw [show (w.alloc (.cells #[.int .i64 0, .slice none 0 0, .slice none 0 0, .slice none 0 0] 26)).heap.size = w.heap.size + 1 by simp] at X0
  have D := Lib.hid (h.past ka)
  have K := Lib.hid (ka.mono (T := fun k => k = rb) (fun _ _ h => h.elim))
  have HIN := Lib.hid hin
  clear h ka hin
  go_enter Tryz.func81, Tryz.ntmps81
  go_wp2_with fail
  generalize (w.alloc _).alloc _ = w0 at *
  refine (open_ref 1#8 D.out h4 (fun _ => by omega)).mono ?_
  rintro r w1 ⟨rfl, ⟨en1, j1, F1, ho1, hj1, hr⟩, hk⟩
  have HO1 := Lib.hid ho1
  have hrb := HIN.out
  have Q : Hid (Rw w w1 rb g off cap b j1 en1 F1 26 w.heap.size (w.heap.size + 1) #[.int .i64 0, .slice none 0 0, .slice none 0 0, .slice none 0 0] #[.int .i64 0, .slice none 0 0, .slice none 0 0, .slice none 0 0]) := Lib.hid ⟨HIN.out, Nat.le_refl _, by omega, by omega, R0.out.keeps hk (fun e => by omega), X0.out.keeps hk (fun e => by omega), hr, K.out.trans hk⟩
  obtain ⟨xb, hxb⟩ : ∃ x, x = w.heap.size + 1 := ⟨_, rfl⟩
  rw [← hxb] at Q ⊢
  clear hr hk ho1 hrb D R0 X0 K hxb
  go_wp2_with fail
  refine (number_ref 2 Q.out.rd (by decide)).mono ?_
  rintro r w2 ⟨yc, rfl, hyc, _, ⟨k1, H1, hg, hk1, hr⟩, hk⟩
  have hyc8 : yc < 65536 := hyc
  have hw := wrapI_id yc (by omega)
  replace Q := Lib.hid (Q.out.call hk hr)
  have S1 := Lib.hid (sec_goes HO1.out hg Q.out.rd.le)
  have E1 := Lib.hid (sec_room HO1.out hg Q.out.rd.le h4)
  have ff := Q.out.box.free 0
  have fc := Q.out.box.cellAt 0
  clear hg hr hk hyc HO1
  go_wp2_with fail
  clear hw ff fc
  replace Q : Hid (Rw w _ rb g off cap b k1 en1 H1 26 w.heap.size xb #[.int .i64 0, .slice none 0 0, .slice none 0 0, .slice none 0 0] #[.int .i64 (yc : Int), .slice none 0 0, .slice none 0 0, .slice none 0 0]) := Lib.hid (Q.out.put 0 (.int .i64 (yc : Int)))
  generalize w2.setCell ⟨xb, 0, none⟩ (.int .i64 (yc : Int)) = w3 at *
  refine (shut_ref Q.out.rd).mono ?_
  rintro r Wa2 ⟨rfl, hr, hk⟩
  replace Q := Lib.hid (Q.out.call hk hr)
  clear hr hk
  go_wp2_with fail
  refine (open_ref 2#8 Q.out.rd.rq h4 E1.out).mono ?_
  rintro r Wb2 ⟨rfl, ⟨en2, j2, F2, ho2, hj2, hr⟩, hk⟩
  have HO2 := Lib.hid ho2
  replace Q := Lib.hid (Q.out.callE hk hr)
  clear hr hk ho2 E1
  go_wp2_with fail
  refine (number_ref 2 Q.out.rd (by decide)).mono ?_
  rintro r Wc2 ⟨n2, rfl, hn, _, ⟨p2, M2, hg, hp2, hr⟩, hk⟩
  have hn2 : n2 < 65536 := hn
  have hw := wrapI_id n2 (by omega)
  have GN2 := Lib.hid hg
  replace Q := Lib.hid (Q.out.call hk hr)
  clear hg hr hk hn
  go_wp2_with fail
  clear hw
  have OW : Hid (Wc2.ownsRow w.heap.size 2 1 (.slice none 0 0) 0 []) := Lib.hid (World.ownsRow_nil _ _ _ _)
  refine wp_cut_in (CutQ rb w.heap.size xb (CutI w rb g off cap b xb en2 n2 p2 M2 yc)) ?cutr1 ?cutf1
  case cutf1 =>
    intro K' hK'
    go_loopw [5] (fun vi wr => ∃ (l : List Int) (A : Option Addr) (c j : Nat) (G : Flt), l.length ≤ n2 ∧ vi = .int .i64 l.length ∧ Hid (Rw w wr rb g off cap b j en2 G 26 w.heap.size xb #[.int .i64 0, .slice none 0 0, .slice none 0 0, .slice none 0 0] #[.int .i64 (yc : Int), .slice A l.length c, .slice none 0 0, .slice none 0 0]) ∧ Hid (wr.ownsRow w.heap.size 2 1 (.slice A l.length c) l.length (l.map (Value.int .i64))) ∧ Hid (Goes (repP s64P l.length) (b.take en2) p2 M2 j G l) ∧ Hid (p2 ≤ j) ∧ Hid (∀ x ∈ l, -9223372036854775808 ≤ x ∧ x ≤ 9223372036854775807)) (fun vi _ => n2 - (intOf vi).toNat)
    case atStart => exact ⟨[], none, 0, p2, M2, Nat.zero_le _, rfl, Q, OW, Lib.hid (Goes.ret _), Lib.hid (Nat.le_refl _), Lib.hid (fun _ h => by cases h)⟩
    case round =>
      clear Q OW
      obtain ⟨l, A, c, j, G, hl, rfl, Q, OW, GL, HJ, HS⟩ := hrel
      have hbx := Q.out.rd.rq.box
      unfold rfC at hbx
      obtain ⟨a0, a1, a2, a3⟩ := four hbx
      clear hbx
      cases G with
      | some f =>
        obtain ⟨hf0, hf1, hf2⟩ := Q.out.rd.rq.nz f rfl
        have hfi : ¬ ((f.1 : Int) = 0) := by omega
        have hfe : ((f.1 : Int) == 0) = false := by simp; exact hf0
        unfold rfI at a1
        unfold rfE at a3
        simp only [] at a1 a3
        replace GL : Hid (Goes (repP s64P n2) (b.take en2) p2 M2 j (some f) l) := Lib.hid (GL.out.more hl)
        by_cases hlt : l.length < n2
        · go_wp2_with fail
          exact Met.intro ⟨(fun _ hM => hM _ _ _ _ _ _ _ _ _ _ _ _ _ _ _ _ _ _ _ _ _ _ _ _ _ _ _ _ _ _ _ _ _ _ _ _ _ _ _ _ _ _ _ _ _ _ _ _ _ _ _ _ _ _ _ _ _ _ _ _ _ _ _ _ _ _ _ _ _ _ _ _ _ _ _ _ _ _ _ _ _ _ _ _ _ _ _ _ _ _ _ _ _ _ _ _ _ _ _ _ _ _ _ _ _ _ _ _ _ _ _ _ _ _ _ _ _ _ _ _ _), l, A, c, j, _, hl, Q, OW, GL, HJ, HS⟩
        · go_wp2_with fail
          exact Met.intro ⟨(fun _ hM => hM _ _ _ _ _ _ _ _ _ _ _ _ _ _ _ _ _ _ _ _ _ _ _ _ _ _ _ _ _ _ _ _ _ _ _ _ _ _ _ _ _ _ _ _ _ _ _ _ _ _ _ _ _ _ _ _ _ _ _ _ _ _ _ _ _ _ _ _ _ _ _ _ _ _ _ _ _ _ _ _ _ _ _ _ _ _ _ _ _ _ _ _ _ _ _ _ _ _ _ _ _ _ _ _ _ _ _ _ _ _ _ _ _ _ _ _ _ _ _ _ _), l, A, c, j, _, hl, Q, OW, GL, HJ, HS⟩
      | none =>
        unfold rfI at a1
        unfold rfE at a3
        simp only [] at a1 a3
        by_cases hlt : l.length < n2
        · have QD := Lib.hid (Q.out.past ((Keeps.refl (fun _ => False) wr).drew))
          have OD := Lib.hid (own_keepsS OW.out ((Keeps.refl (fun _ => False) wr).drew) (fun _ _ => id))
          have hT0 : Hid (wr.drew.cell? ⟨xb, 1, none⟩ = some (.slice A l.length c)) := Lib.hid (QD.out.box.cellAt 1)
          have HC := Lib.hid (number_ref 8 QD.out.rd (by decide))
          have HBASE : Hid (w.heap.size ≤ wr.drew.heap.size) := Lib.hid QD.out.keeps.size
          clear Q OW
          go_wp2_with fail
          refine wp_region_upTo 6 (fun _ => True) (fun W => W.cell? ⟨xb, 1, none⟩ = some (.slice A l.length c)) (by kernel_rfl) ?_
          refine upTo_take (i := 0) (v := ?v1) rfl (by kernel_rfl) (by kernel_rfl) (by kernel_rfl) (fun _ _ _ h => by first | exact h | exact absurd h.1 (fun e => by cases e)) (by decide) (Or.inl ⟨by rfl, ?hy1⟩) (trivial) (fun _ => hT0.out) ?rest1
          case hy1 =>
            intro w hSw
            clear hSw
            go_simp
            try with_reducible rfl
          go_simp
          refine upTo_load (i := 1) (v := ?v2) rfl (by kernel_rfl) (by kernel_rfl) (by kernel_rfl) (fun _ _ _ h => by first | exact h | exact absurd h.1 (fun e => by cases e)) (by decide) (by kernel_rfl) (by kernel_rfl) (Or.inl ⟨by rfl, ?hy2⟩) (trivial) (hT0.out) ?rest2
          case hy2 =>
            intro w hSw
            obtain qh := hSw
            go_simp
            try with_reducible rfl
          go_simp
          refine upTo_take (i := 2) (v := ?v3) rfl (by kernel_rfl) (by kernel_rfl) (by kernel_rfl) (fun _ _ _ h => by first | exact h | exact absurd h.1 (fun e => by cases e)) (by decide) (Or.inl ⟨by rfl, ?hy3⟩) (trivial) (fun _ => hT0.out) ?rest3
          case hy3 =>
            intro w hSw
            clear hSw
            go_simp
            try with_reducible rfl
          go_simp
          refine upTo_next (i := 3) (by kernel_rfl) rfl ?_
          intro K hK
          go_simp
          refine (HC.out).mono ?_
          rintro r V1 ⟨y, rfl, _, hy, ⟨jx, Hx, hh1, hj1, hr⟩, hk⟩
          have hw8 := wrapI_sx y hy
          have HG1 := Lib.hid hh1
          clear hh1
          have Q1 := Lib.hid (QD.out.call hk hr)
          have O1 := Lib.hid (own_call QD.out OD.out hk)
          have hT1 : Hid (V1.cell? ⟨xb, 1, none⟩ = some (.slice A l.length c)) := Lib.hid (Q1.out.box.cellAt 1)
          replace HBASE := Lib.hid (Nat.le_trans HBASE.out hk.size)
          clear hr hk HC hT0 QD OD
          refine hK.out _ _ (trivial) (fun _ => hT1.out) ?_
          clear hK K
          go_simp
          refine upTo_next (i := 4) (by kernel_rfl) rfl ?_
          intro K hK
          go_simp
          refine hK.out _ _ (trivial) (fun _ => hT1.out) ?_
          clear hK K
          go_simp
          have ka := (Keeps.refl (fun _ => False) V1).alloc (.cells #[.int .i64 (sx64 y)] 2)
          have Q2 := Lib.hid (Q1.out.past ka)
          have O2 := Lib.hid (own_keepsS O1.out ka (fun _ _ => id))
          have HL := Lib.hid (Lies.row (fr := (0, 0)) (xs := [.int .i64 (sx64 y)]) (Whole.made V1 2 #[.int .i64 (sx64 y)]) (Nat.lt_succ_self _))
          have HB2 := Lib.hid (Nat.le_trans HBASE.out ka.size)
          clear ka Q1 O1 HBASE
          refine upTo_next (i := 5) (by kernel_rfl) rfl ?_
          intro K hK
          go_simp
          refine hK.out _ _ (trivial) (fun _ => Q2.out.box.cellAt 1) ?_
          clear hK K
          go_simp
          refine upTo_next (i := 6) (by kernel_rfl) rfl ?_
          intro K hK
          refine stepIfT (by rfl) ?_
          refine wp_append_cells _ _ _ 22 rfl w.heap.size 2 (.int .i64 0) 1 8 Tryz.underlying22 info_i64D rfl (by decide) (.slice A l.length c) l.length (l.map (Value.int .i64)) rfl O2.out (V1.heap.size + 1) (some ⟨V1.heap.size, 0, none⟩) 1 1 [.int .i64 (sx64 y)] rfl HL.out rfl (fun u hu => by obtain rfl : u = _ := List.mem_singleton.1 hu; rfl) (by simp only [maxLen]; omega) (by omega) HB2.out ?_
          intro A2 c2 V3 own5 hg5 hor5 _ _
          have Q3 := Lib.hid (Q2.out.grow O2.out hg5 (by decide))
          have O3 := Lib.hid own5
          have Q4 := Lib.hid (Q3.out.put 1 (.slice A2 (l.length + 1) c2))
          have O4 := Lib.hid (own_put Q3.out O3.out (by decide) 1 (.slice A2 (l.length + 1) c2))
          have f5 := Q3.out.box.free 1
          have c5 := Q3.out.box.cellAt 1
          have GROWN := Lib.hid hg5
          have OLDROW := O2
          clear own5 hor5 hT1 HL HB2 O2
          refine hK.out _ _ (trivial) (fun h => absurd h (by decide)) ?_
          clear hK K
          go_simp
          refine upTo_take (i := 7) (v := ?v4) rfl (by kernel_rfl) (by kernel_rfl) (by kernel_rfl) (fun _ _ _ h => by first | exact h | exact absurd h.1 (fun e => by cases e)) (by decide) (Or.inl ⟨by rfl, ?hy4⟩) (trivial) (fun h => absurd h (by decide)) ?rest4
          case hy4 =>
            intro w hSw
            clear hSw
            go_simp
            try with_reducible rfl
          go_simp
          refine upTo_next (i := 8) (by kernel_rfl) rfl ?_
          intro K hK
          go_simp
          refine hK.out _ _ (trivial) (fun h => absurd h (by decide)) ?_
          clear hK K
          go_simp
          refine upTo_done (by kernel_rfl) ?_ _
          have hlen : (l ++ [sx64 (y : Int)]).length = l.length + 1 := by simp
          have hs8 : -9223372036854775808 ≤ sx64 (y : Int) ∧ sx64 (y : Int) ≤ 9223372036854775807 := by unfold sx64; split <;> omega
          have HS' : Hid (∀ x ∈ l ++ [sx64 (y : Int)], -9223372036854775808 ≤ x ∧ x ≤ 9223372036854775807) := Lib.hid fun x hx => by
            rcases List.mem_append.1 hx with hx | hx
            · exact HS.out x hx
            · rw [List.mem_singleton.1 hx]; exact hs8
          have QN : Hid (Rw w _ rb g off cap b jx en2 Hx 26 w.heap.size xb #[.int .i64 0, .slice none 0 0, .slice none 0 0, .slice none 0 0] #[.int .i64 (yc : Int), .slice A2 (l ++ [sx64 (y : Int)]).length c2, .slice none 0 0, .slice none 0 0]) := Lib.hid (by rw [hlen]; exact Q4.out)
          have ON : Hid (World.ownsRow _ w.heap.size 2 1 (.slice A2 (l ++ [sx64 (y : Int)]).length c2) (l ++ [sx64 (y : Int)]).length ((l ++ [sx64 (y : Int)]).map (Value.int .i64))) := Lib.hid (by rw [hlen, List.map_append]; exact O4.out)
          have GN : Hid (Goes (repP s64P (l ++ [sx64 (y : Int)]).length) (b.take en2) p2 M2 jx Hx (l ++ [sx64 (y : Int)])) := Lib.hid (by rw [hlen]; exact GL.out.snoc (HG1.out.map sx64))
          have HJ' : Hid (p2 ≤ jx) := Lib.hid (by have := HJ.out; omega)
          clear Q3 O3 Q4 O4 GL HG1 hw8 hs8 HS HJ f5 c5 GROWN OLDROW Q2
          go_wp2_with fail
          exact ⟨⟨l ++ [sx64 (y : Int)], A2, c2, jx, Hx, by omega, by rw [hlen]; go_num, QN, ON, GN, HJ', HS'⟩, by simp [intOf]; omega⟩
        · obtain hle : l.length = n2 := by omega
          replace GL : Hid (Goes (repP s64P n2) (b.take en2) p2 M2 j none l) := Lib.hid (by rw [← hle]; exact GL.out)
          clear hle
          go_wp2_with fail
          exact Met.intro ⟨(fun _ hM => hM _ _ _ _ _ _ _ _ _ _ _ _ _ _ _ _ _ _ _ _ _ _ _ _ _ _ _ _ _ _ _ _ _ _ _ _ _ _ _ _ _ _ _ _ _ _ _ _ _ _ _ _ _ _ _ _ _ _ _ _ _ _ _ _ _ _ _ _ _ _ _ _ _ _ _ _ _ _ _ _ _ _ _ _ _ _ _ _ _ _ _ _ _ _ _ _ _ _ _ _ _ _ _ _ _ _ _ _ _ _ _ _ _ _ _ _ _ _ _ _ _), l, A, c, j, _, hl, Q, OW, GL, HJ, HS⟩
  case cutr1 =>
    clear Q OW
    refine FrP.rest ?_
    rintro wq ⟨il, Ai, ci, q2, N2, hil, Q, OI, GI, HJ2, HSI⟩
    intro u1 u4 u5 u6 u7 u8 u9 u10 u11 u12 u13 u14 u15 u16 u17 u18 u19 u20 u21 u22 u23 u24 u25 u26 u27 u28 u29 u30 u31 u32 u33 u34 u35 u36 u37 u38 u39 u40 u41 u42 u43 u44 u45 u46 u47 u48 u49 u50 u51 u52 u53 u54 u55 u56 u57 u58 u59 u60 u61 u62 u63 u64 u65 u66 u67 u68 u69 u70 u71 u72 u73 u74 u75 u76 u77 u78 u79 u80 u81 u82 u83 u84 u85 u86 u87 u88 u89 u90 u91 u92 u93 u94 u95 u96 u97 u98 u99 u100 u101 u102 u103 u104 u105 u106 u107 u108 u109 u110 u111 u112 u113 u114 u115 u116 u117 u118 u119 u120 u121 u122 u123
    go_wp2_with fail
    have gq2 : Goes (listP 2 s64P) (b.take en2) _ _ _ _ il := GN2.out.seq (by rw [Int.toNat_natCast]; exact GI.out)
    have S2 := Lib.hid (sec_goes HO2.out gq2 Q.out.rd.le)
    have E2 := Lib.hid (sec_room HO2.out gq2 Q.out.rd.le h4)
    clear gq2 GN2 GI HO2
    refine (shut_ref Q.out.rd).mono ?_
    rintro r Wa3 ⟨rfl, hr, hk⟩
    replace OI := Lib.hid (own_call Q.out OI.out hk)
    replace Q := Lib.hid (Q.out.call hk hr)
    clear hr hk
    go_wp2_with fail
    refine (open_ref 3#8 Q.out.rd.rq h4 E2.out).mono ?_
    rintro r Wb3 ⟨rfl, ⟨en3, j3, F3, ho3, hj3, hr⟩, hk⟩
    have HO3 := Lib.hid ho3
    replace OI := Lib.hid (own_call Q.out OI.out hk)
    replace Q := Lib.hid (Q.out.callE hk hr)
    clear hr hk ho3 E2
    go_wp2_with fail
    refine (number_ref 2 Q.out.rd (by decide)).mono ?_
    rintro r Wc3 ⟨n3, rfl, hn, _, ⟨p3, M3, hg, hp3, hr⟩, hk⟩
    have hn3 : n3 < 65536 := hn
    have hw := wrapI_id n3 (by omega)
    have GN3 := Lib.hid hg
    replace OI := Lib.hid (own_call Q.out OI.out hk)
    replace Q := Lib.hid (Q.out.call hk hr)
    clear hg hr hk hn
    go_wp2_with fail
    clear hw
    have OW : Hid (Wc3.ownsRow w.heap.size 9 1 (.slice none 0 0) 0 []) := Lib.hid (World.ownsRow_nil _ _ _ _)
    refine wp_cut_in (CutQ rb w.heap.size xb (CutT w rb g off cap b xb en3 n3 p3 M3 yc il Ai ci)) ?cutr2 ?cutf2
    case cutf2 =>
      intro K' hK'
      go_loopw [6] (fun vi wr => ∃ (l : List (List Oct)) (A : Option Addr) (c j : Nat) (G : Flt), l.length ≤ n3 ∧ vi = .int .i64 l.length ∧ Hid (Rw w wr rb g off cap b j en3 G 26 w.heap.size xb #[.int .i64 0, .slice none 0 0, .slice none 0 0, .slice none 0 0] #[.int .i64 (yc : Int), .slice Ai il.length ci, .slice A l.length c, .slice none 0 0]) ∧ Hid (wr.ownsRow w.heap.size 2 1 (.slice Ai il.length ci) il.length (il.map (Value.int .i64))) ∧ Hid (wr.ownsRow w.heap.size 9 1 (.slice A l.length c) l.length (textsV l)) ∧ Hid (Goes (repP (bytesP 1) l.length) (b.take en3) p3 M3 j G l) ∧ Hid (p3 ≤ j) ∧ Hid (∀ t ∈ l, t.length ≤ 255)) (fun vi _ => n3 - (intOf vi).toNat)
      case atStart => exact ⟨[], none, 0, p3, M3, Nat.zero_le _, rfl, Q, OI, OW, Lib.hid (Goes.ret _), Lib.hid (Nat.le_refl _), Lib.hid (fun _ h => by cases h)⟩
      case round =>
        clear Q OI OW
        obtain ⟨l, A, c, j, G, hl, rfl, Q, OI, OW, GL, HJ, HS⟩ := hrel
        have hbx := Q.out.rd.rq.box
        unfold rfC at hbx
        obtain ⟨a0, a1, a2, a3⟩ := four hbx
        clear hbx
        cases G with
        | some f =>
          obtain ⟨hf0, hf1, hf2⟩ := Q.out.rd.rq.nz f rfl
          have hfi : ¬ ((f.1 : Int) = 0) := by omega
          have hfe : ((f.1 : Int) == 0) = false := by simp; exact hf0
          unfold rfI at a1
          unfold rfE at a3
          simp only [] at a1 a3
          replace GL : Hid (Goes (repP (bytesP 1) n3) (b.take en3) p3 M3 j (some f) l) := Lib.hid (GL.out.more hl)
          by_cases hlt : l.length < n3
          · go_wp2_with fail
            exact Met.intro ⟨(fun _ hM => hM _ _ _ _ _ _ _ _ _ _ _ _ _ _ _ _ _ _ _ _ _ _ _ _ _ _ _ _ _ _ _ _ _ _ _ _ _ _ _ _ _ _ _ _ _ _ _ _ _ _ _ _ _ _ _ _ _ _ _ _ _ _ _ _ _ _ _ _ _ _ _ _ _ _ _ _ _ _ _ _ _ _ _ _ _ _ _ _ _ _ _ _ _ _ _ _ _ _ _ _ _ _ _ _ _ _ _ _ _ _ _ _ _ _ _ _ _ _ _ _ _), l, A, c, j, _, hl, Q, OI, OW, GL, HJ, HS⟩
          · go_wp2_with fail
            exact Met.intro ⟨(fun _ hM => hM _ _ _ _ _ _ _ _ _ _ _ _ _ _ _ _ _ _ _ _ _ _ _ _ _ _ _ _ _ _ _ _ _ _ _ _ _ _ _ _ _ _ _ _ _ _ _ _ _ _ _ _ _ _ _ _ _ _ _ _ _ _ _ _ _ _ _ _ _ _ _ _ _ _ _ _ _ _ _ _ _ _ _ _ _ _ _ _ _ _ _ _ _ _ _ _ _ _ _ _ _ _ _ _ _ _ _ _ _ _ _ _ _ _ _ _ _ _ _ _ _), l, A, c, j, _, hl, Q, OI, OW, GL, HJ, HS⟩
        | none =>
          unfold rfI at a1
          unfold rfE at a3
          simp only [] at a1 a3
          by_cases hlt : l.length < n3
          · have QD := Lib.hid (Q.out.past ((Keeps.refl (fun _ => False) wr).drew))
            have OD := Lib.hid (own_keepsS OW.out ((Keeps.refl (fun _ => False) wr).drew) (fun _ _ => id))
            have hT0 : Hid (wr.drew.cell? ⟨xb, 2, none⟩ = some (.slice A l.length c)) := Lib.hid (QD.out.box.cellAt 2)
            have HC := Lib.hid (number_ref 1 QD.out.rd (by decide))
            have HBASE : Hid (w.heap.size ≤ wr.drew.heap.size) := Lib.hid QD.out.keeps.size
            replace OI := Lib.hid (own_keepsS OI.out ((Keeps.refl (fun _ => False) wr).drew) (fun _ _ => id))
            clear Q OW
            go_wp2_with fail
            refine wp_region_upTo 9 (fun _ => True) (fun W => W.cell? ⟨xb, 2, none⟩ = some (.slice A l.length c)) (by kernel_rfl) ?_
            refine upTo_take (i := 0) (v := ?v5) rfl (by kernel_rfl) (by kernel_rfl) (by kernel_rfl) (fun _ _ _ h => by first | exact h | exact absurd h.1 (fun e => by cases e)) (by decide) (Or.inl ⟨by rfl, ?hy5⟩) (trivial) (fun _ => hT0.out) ?rest5
            case hy5 =>
              intro w hSw
              clear hSw
              go_simp
              try with_reducible rfl
            go_simp
            refine upTo_load (i := 1) (v := ?v6) rfl (by kernel_rfl) (by kernel_rfl) (by kernel_rfl) (fun _ _ _ h => by first | exact h | exact absurd h.1 (fun e => by cases e)) (by decide) (by kernel_rfl) (by kernel_rfl) (Or.inl ⟨by rfl, ?hy6⟩) (trivial) (hT0.out) ?rest6
            case hy6 =>
              intro w hSw
              obtain qh := hSw
              go_simp
              try with_reducible rfl
            go_simp
            refine upTo_take (i := 2) (v := ?v7) rfl (by kernel_rfl) (by kernel_rfl) (by kernel_rfl) (fun _ _ _ h => by first | exact h | exact absurd h.1 (fun e => by cases e)) (by decide) (Or.inl ⟨by rfl, ?hy7⟩) (trivial) (fun _ => hT0.out) ?rest7
            case hy7 =>
              intro w hSw
              clear hSw
              go_simp
              try with_reducible rfl
            go_simp
            refine upTo_take (i := 3) (v := ?v8) rfl (by kernel_rfl) (by kernel_rfl) (by kernel_rfl) (fun _ _ _ h => by first | exact h | exact absurd h.1 (fun e => by cases e)) (by decide) (Or.inl ⟨by rfl, ?hy8⟩) (trivial) (fun _ => hT0.out) ?rest8
            case hy8 =>
              intro w hSw
              clear hSw
              go_simp
              try with_reducible rfl
            go_simp
            refine upTo_next (i := 4) (by kernel_rfl) rfl ?_
            intro K hK
            go_simp
            refine (HC.out).mono ?_
            rintro r V1 ⟨y, rfl, hy, _, ⟨jx, Hx, hh1, hj1, hr⟩, hk⟩
            have hy8 : y < 256 := hy
            have hw8 := wrapI_id y (by omega)
            have HG1 := Lib.hid hh1
            clear hy hh1
            have Q1 := Lib.hid (QD.out.call hk hr)
            have O1 := Lib.hid (own_call QD.out OD.out hk)
            replace OI := Lib.hid (own_call QD.out OI.out hk)
            have hT1 : Hid (V1.cell? ⟨xb, 2, none⟩ = some (.slice A l.length c)) := Lib.hid (Q1.out.box.cellAt 2)
            replace HBASE := Lib.hid (Nat.le_trans HBASE.out hk.size)
            clear hr hk HC hT0 QD OD
            refine hK.out _ _ (trivial) (fun _ => hT1.out) ?_
            clear hK K
            go_simp
            refine upTo_next (i := 5) (by kernel_rfl) rfl ?_
            intro K hK
            go_simp
            refine hK.out _ _ (trivial) (fun _ => hT1.out) ?_
            clear hK K
            go_simp
            refine upTo_next (i := 6) (by kernel_rfl) rfl ?_
            intro K hK
            go_simp
            refine (take_ref y Q1.out.rd (by omega)).mono ?_
            rintro r V2 ⟨t, At, ct, rfl, ht, htl, ⟨jt, Ht, hh2, hjt, hr⟩, hk⟩
            have HG2 := Lib.hid hh2
            replace OI := Lib.hid (own_call Q1.out OI.out hk)
            replace O1 := Lib.hid (own_call Q1.out O1.out hk)
            replace Q1 := Lib.hid (Q1.out.call hk hr)
            replace hT1 : Hid (V2.cell? ⟨xb, 2, none⟩ = some (.slice A l.length c)) := Lib.hid (Q1.out.box.cellAt 2)
            replace HBASE := Lib.hid (Nat.le_trans HBASE.out hk.size)
            have hcv := conv_bytes t ct ht
            clear hr hk hh2 ht
            refine hK.out _ _ (trivial) (fun _ => hT1.out) ?_
            clear hK K
            go_simp
            refine upTo_next (i := 7) (by kernel_rfl) rfl ?_
            intro K hK
            go_simp
            refine hK.out _ _ (trivial) (fun _ => hT1.out) ?_
            clear hK K
            go_simp
            clear hcv
            have ka := (Keeps.refl (fun _ => False) V2).alloc (.cells #[.string (strB t)] 9)
            have Q2 := Lib.hid (Q1.out.past ka)
            have O2 := Lib.hid (own_keepsS O1.out ka (fun _ _ => id))
            have HL := Lib.hid (Lies.row (fr := (0, 0)) (xs := [.string (strB t)]) (Whole.made V2 9 #[.string (strB t)]) (Nat.lt_succ_self _))
            replace OI := Lib.hid (own_keepsS OI.out ka (fun _ _ => id))
            have HB2 := Lib.hid (Nat.le_trans HBASE.out ka.size)
            clear ka Q1 O1 HBASE
            refine upTo_next (i := 8) (by kernel_rfl) rfl ?_
            intro K hK
            go_simp
            refine hK.out _ _ (trivial) (fun _ => Q2.out.box.cellAt 2) ?_
            clear hK K
            go_simp
            refine upTo_next (i := 9) (by kernel_rfl) rfl ?_
            intro K hK
            refine stepIfT (by rfl) ?_
            refine wp_append_cells _ _ _ 23 rfl w.heap.size 9 (.string ⟨#[]⟩) 1 16 Tryz.underlying23 info_strD rfl (by decide) (.slice A l.length c) l.length (textsV l) rfl O2.out (V2.heap.size + 1) (some ⟨V2.heap.size, 0, none⟩) 1 1 [.string (strB t)] rfl HL.out rfl (fun u hu => by obtain rfl : u = _ := List.mem_singleton.1 hu; rfl) (by simp only [maxLen]; omega) (by omega) HB2.out ?_
            intro A2 c2 V3 own5 hg5 hor5 _ _
            have Q3 := Lib.hid (Q2.out.grow O2.out hg5 (by decide))
            replace OI := Lib.hid (own_keepsTy OI.out ((Keeps.refl (fun k => (Value.slice A l.length c).ownBlock = some k) _).grown hg5 (fun _ e _ => e)) (own_ofTy O2.out) (by decide))
            have O3 := Lib.hid own5
            have Q4 := Lib.hid (Q3.out.put 2 (.slice A2 (l.length + 1) c2))
            have O4 := Lib.hid (own_put Q3.out O3.out (by decide) 2 (.slice A2 (l.length + 1) c2))
            have f5 := Q3.out.box.free 2
            have c5 := Q3.out.box.cellAt 2
            replace OI := Lib.hid (own_put Q3.out OI.out (by decide) 2 (.slice A2 (l.length + 1) c2))
            have GROWN := Lib.hid hg5
            have OLDROW := O2
            clear own5 hor5 hT1 HL HB2 O2
            refine hK.out _ _ (trivial) (fun h => absurd h (by decide)) ?_
            clear hK K
            go_simp
            refine upTo_take (i := 10) (v := ?v9) rfl (by kernel_rfl) (by kernel_rfl) (by kernel_rfl) (fun _ _ _ h => by first | exact h | exact absurd h.1 (fun e => by cases e)) (by decide) (Or.inl ⟨by rfl, ?hy9⟩) (trivial) (fun h => absurd h (by decide)) ?rest9
            case hy9 =>
              intro w hSw
              clear hSw
              go_simp
              try with_reducible rfl
            go_simp
            refine upTo_next (i := 11) (by kernel_rfl) rfl ?_
            intro K hK
            go_simp
            refine hK.out _ _ (trivial) (fun h => absurd h (by decide)) ?_
            clear hK K
            go_simp
            refine upTo_done (by kernel_rfl) ?_ _
            have hlen : (l ++ [t]).length = l.length + 1 := by simp
            have HS' : Hid (∀ x ∈ l ++ [t], x.length ≤ 255) := Lib.hid fun x hx => by
              rcases List.mem_append.1 hx with hx | hx
              · exact HS.out x hx
              · rw [List.mem_singleton.1 hx]; omega
            have QN : Hid (Rw w _ rb g off cap b jt en3 Ht 26 w.heap.size xb #[.int .i64 0, .slice none 0 0, .slice none 0 0, .slice none 0 0] #[.int .i64 (yc : Int), .slice Ai il.length ci, .slice A2 (l ++ [t]).length c2, .slice none 0 0]) := Lib.hid (by rw [hlen]; exact Q4.out)
            have ON : Hid (World.ownsRow _ w.heap.size 9 1 (.slice A2 (l ++ [t]).length c2) (l ++ [t]).length (textsV (l ++ [t]))) := Lib.hid (by rw [hlen, show textsV (l ++ [t]) = textsV l ++ [.string (strB t)] by simp [textsV]]; exact O4.out)
            have GB : Goes (bytesP 1) (b.take en3) _ _ _ _ t := HG1.out.seq (by rw [Int.toNat_natCast]; exact HG2.out)
            have GNN : Hid (Goes (repP (bytesP 1) (l ++ [t]).length) (b.take en3) p3 M3 jt Ht (l ++ [t])) := Lib.hid (by rw [hlen]; exact GL.out.snoc GB)
            have HJ' : Hid (p3 ≤ jt) := Lib.hid (by have := HJ.out; omega)
            clear Q3 O3 Q4 O4 GL GB HG1 HG2 hw8 HS HJ f5 c5 GROWN OLDROW Q2
            go_wp2_with fail
            exact ⟨⟨l ++ [t], A2, c2, jt, Ht, by omega, by rw [hlen]; go_num, QN, OI, ON, GNN, HJ', HS'⟩, by simp [intOf]; omega⟩
          · obtain hle : l.length = n3 := by omega
            replace GL : Hid (Goes (repP (bytesP 1) n3) (b.take en3) p3 M3 j none l) := Lib.hid (by rw [← hle]; exact GL.out)
            clear hle
            go_wp2_with fail
            exact Met.intro ⟨(fun _ hM => hM _ _ _ _ _ _ _ _ _ _ _ _ _ _ _ _ _ _ _ _ _ _ _ _ _ _ _ _ _ _ _ _ _ _ _ _ _ _ _ _ _ _ _ _ _ _ _ _ _ _ _ _ _ _ _ _ _ _ _ _ _ _ _ _ _ _ _ _ _ _ _ _ _ _ _ _ _ _ _ _ _ _ _ _ _ _ _ _ _ _ _ _ _ _ _ _ _ _ _ _ _ _ _ _ _ _ _ _ _ _ _ _ _ _ _ _ _ _ _ _ _), l, A, c, j, _, hl, Q, OI, OW, GL, HJ, HS⟩
    case cutr2 =>
      clear Q OI OW
      refine FrP.rest ?_
      rintro wt ⟨tl, At, ct, q3, N3, htl, Q, OI, OT, GI, HJ3, HST⟩
      intro u1 u4 u5 u6 u7 u8 u9 u10 u11 u12 u13 u14 u15 u16 u17 u18 u19 u20 u21 u22 u23 u24 u25 u26 u27 u28 u29 u30 u31 u32 u33 u34 u35 u36 u37 u38 u39 u40 u41 u42 u43 u44 u45 u46 u47 u48 u49 u50 u51 u52 u53 u54 u55 u56 u57 u58 u59 u60 u61 u62 u63 u64 u65 u66 u67 u68 u69 u70 u71 u72 u73 u74 u75 u76 u77 u78 u79 u80 u81 u82 u83 u84 u85 u86 u87 u88 u89 u90 u91 u92 u93 u94 u95 u96 u97 u98 u99 u100 u101 u102 u103 u104 u105 u106 u107 u108 u109 u110 u111 u112 u113 u114 u115 u116 u117 u118 u119 u120 u121 u122 u123
      go_wp2_with fail
      have gq3 : Goes (listP 2 (bytesP 1)) (b.take en3) _ _ _ _ tl := GN3.out.seq (by rw [Int.toNat_natCast]; exact GI.out)
      have S3 := Lib.hid (sec_goes HO3.out gq3 Q.out.rd.le)
      have E3 := Lib.hid (sec_room HO3.out gq3 Q.out.rd.le h4)
      clear gq3 GN3 GI HO3
      refine (shut_ref Q.out.rd).mono ?_
      rintro r Wa4 ⟨rfl, hr, hk⟩
      replace OI := Lib.hid (own_call Q.out OI.out hk)
      replace OT := Lib.hid (own_call Q.out OT.out hk)
      replace Q := Lib.hid (Q.out.call hk hr)
      clear hr hk
      go_wp2_with fail
      refine (open_ref 4#8 Q.out.rd.rq h4 E3.out).mono ?_
      rintro r Wb4 ⟨rfl, ⟨en4, j4, F4, ho4, hj4, hr⟩, hk⟩
      have HO4 := Lib.hid ho4
      replace OI := Lib.hid (own_call Q.out OI.out hk)
      replace OT := Lib.hid (own_call Q.out OT.out hk)
      replace Q := Lib.hid (Q.out.callE hk hr)
      clear hr hk ho4 E3
      go_wp2_with fail
      refine (number_ref 2 Q.out.rd (by decide)).mono ?_
      rintro r Wc4 ⟨n4, rfl, hn, _, ⟨p4, M4, hg, hp4, hr⟩, hk⟩
      have hn4 : n4 < 65536 := hn
      have hw := wrapI_id n4 (by omega)
      have GN4 := Lib.hid hg
      replace OI := Lib.hid (own_call Q.out OI.out hk)
      replace OT := Lib.hid (own_call Q.out OT.out hk)
      replace Q := Lib.hid (Q.out.call hk hr)
      clear hg hr hk hn
      go_wp2_with fail
      clear hw
      have UP : Hid (UPk Wc4 w.heap.size (.slice none 0 0) [] []) := Lib.hid OUp.nil
      refine wp_cut_in (CutQ rb w.heap.size xb (CutD w rb g off cap b xb en4 n4 p4 M4 yc il Ai ci tl At ct)) ?cutr3 ?cutf3
      case cutf3 =>
        intro K' hK'
        go_loopw [7] (fun vi wr => ∃ (l : List Knd) (cells : List Value) (A : Option Addr) (c j : Nat) (G : Flt), l.length ≤ n4 ∧ vi = .int .i64 l.length ∧ Hid (Rw w wr rb g off cap b j en4 G 26 w.heap.size xb #[.int .i64 0, .slice none 0 0, .slice none 0 0, .slice none 0 0] #[.int .i64 (yc : Int), .slice Ai il.length ci, .slice At tl.length ct, .slice A l.length c]) ∧ Hid (wr.ownsRow w.heap.size 2 1 (.slice Ai il.length ci) il.length (il.map (Value.int .i64))) ∧ Hid (wr.ownsRow w.heap.size 9 1 (.slice At tl.length ct) tl.length (textsV tl)) ∧ Hid (UPk wr w.heap.size (.slice A l.length c) l cells) ∧ Hid (Goes (repP kndP l.length) (b.take en4) p4 M4 j G l) ∧ Hid (p4 ≤ j) ∧ Hid (∀ k ∈ l, KndFew k)) (fun vi _ => n4 - (intOf vi).toNat)
        case atStart => exact ⟨[], [], none, 0, p4, M4, Nat.zero_le _, rfl, Q, OI, OT, UP, Lib.hid (Goes.ret _), Lib.hid (Nat.le_refl _), Lib.hid (fun _ h => by cases h)⟩
        case round =>
          clear Q OI OT UP
          obtain ⟨l, cells, A, c, j, G, hl, rfl, Q, OI, OT, UP, GL, HJ, HS⟩ := hrel
          have hbx := Q.out.rd.rq.box
          unfold rfC at hbx
          obtain ⟨a0, a1, a2, a3⟩ := four hbx
          clear hbx
          cases G with
          | some f =>
            obtain ⟨hf0, hf1, hf2⟩ := Q.out.rd.rq.nz f rfl
            have hfi : ¬ ((f.1 : Int) = 0) := by omega
            have hfe : ((f.1 : Int) == 0) = false := by simp; exact hf0
            unfold rfI at a1
            unfold rfE at a3
            simp only [] at a1 a3
            replace GL : Hid (Goes (repP kndP n4) (b.take en4) p4 M4 j (some f) l) := Lib.hid (GL.out.more hl)
            by_cases hlt : l.length < n4
            · go_wp2_with fail
              exact Met.intro ⟨(fun _ hM => hM _ _ _ _ _ _ _ _ _ _ _ _ _ _ _ _ _ _ _ _ _ _ _ _ _ _ _ _ _ _ _ _ _ _ _ _ _ _ _ _ _ _ _ _ _ _ _ _ _ _ _ _ _ _ _ _ _ _ _ _ _ _ _ _ _ _ _ _ _ _ _ _ _ _ _ _ _ _ _ _ _ _ _ _ _ _ _ _ _ _ _ _ _ _ _ _ _ _ _ _ _ _ _ _ _ _ _ _ _ _ _ _ _ _ _ _ _ _ _ _ _), l, cells, A, c, j, _, hl, Q, OI, OT, UP, GL, HJ, HS⟩
            · go_wp2_with fail
              exact Met.intro ⟨(fun _ hM => hM _ _ _ _ _ _ _ _ _ _ _ _ _ _ _ _ _ _ _ _ _ _ _ _ _ _ _ _ _ _ _ _ _ _ _ _ _ _ _ _ _ _ _ _ _ _ _ _ _ _ _ _ _ _ _ _ _ _ _ _ _ _ _ _ _ _ _ _ _ _ _ _ _ _ _ _ _ _ _ _ _ _ _ _ _ _ _ _ _ _ _ _ _ _ _ _ _ _ _ _ _ _ _ _ _ _ _ _ _ _ _ _ _ _ _ _ _ _ _ _ _), l, cells, A, c, j, _, hl, Q, OI, OT, UP, GL, HJ, HS⟩
          | none =>
            unfold rfI at a1
            unfold rfE at a3
            simp only [] at a1 a3
            by_cases hlt : l.length < n4
            · have OW := Lib.hid UP.out.own
              have QD := Lib.hid (Q.out.past ((Keeps.refl (fun _ => False) wr).drew))
              have OD := Lib.hid (own_keepsS OW.out ((Keeps.refl (fun _ => False) wr).drew) (fun _ _ => id))
              have hT0 : Hid (wr.drew.cell? ⟨xb, 3, none⟩ = some (.slice A l.length c)) := Lib.hid (QD.out.box.cellAt 3)
              have HC := Lib.hid (kindRd_ref QD.out.rd)
              have HBASE : Hid (w.heap.size ≤ wr.drew.heap.size) := Lib.hid QD.out.keeps.size
              replace OI := Lib.hid (own_keepsS OI.out ((Keeps.refl (fun _ => False) wr).drew) (fun _ _ => id))
              replace OT := Lib.hid (own_keepsS OT.out ((Keeps.refl (fun _ => False) wr).drew) (fun _ _ => id))
              replace UP := Lib.hid (UP.out.keeps ((Keeps.refl (fun _ => False) wr).drew) (fun _ _ => id))
              clear Q OW
              go_wp2_with fail
              refine wp_region_upTo 5 (fun _ => True) (fun W => W.cell? ⟨xb, 3, none⟩ = some (.slice A l.length c)) (by kernel_rfl) ?_
              refine upTo_take (i := 0) (v := ?v10) rfl (by kernel_rfl) (by kernel_rfl) (by kernel_rfl) (fun _ _ _ h => by first | exact h | exact absurd h.1 (fun e => by cases e)) (by decide) (Or.inl ⟨by rfl, ?hy10⟩) (trivial) (fun _ => hT0.out) ?rest10
              case hy10 =>
                intro w hSw
                clear hSw
                go_simp
                try with_reducible rfl
              go_simp
              refine upTo_load (i := 1) (v := ?v11) rfl (by kernel_rfl) (by kernel_rfl) (by kernel_rfl) (fun _ _ _ h => by first | exact h | exact absurd h.1 (fun e => by cases e)) (by decide) (by kernel_rfl) (by kernel_rfl) (Or.inl ⟨by rfl, ?hy11⟩) (trivial) (hT0.out) ?rest11
              case hy11 =>
                intro w hSw
                obtain qh := hSw
                go_simp
                try with_reducible rfl
              go_simp
              refine upTo_take (i := 2) (v := ?v12) rfl (by kernel_rfl) (by kernel_rfl) (by kernel_rfl) (fun _ _ _ h => by first | exact h | exact absurd h.1 (fun e => by cases e)) (by decide) (Or.inl ⟨by rfl, ?hy12⟩) (trivial) (fun _ => hT0.out) ?rest12
              case hy12 =>
                intro w hSw
                clear hSw
                go_simp
                try with_reducible rfl
              go_simp
              refine upTo_next (i := 3) (by kernel_rfl) rfl ?_
              intro K hK
              go_simp
              refine (HC.out).mono ?_
              rintro r V1 ⟨y, Y1, Y2, y1, y2, rfl, hE1, hE2, hfew, ⟨jx, Hx, hh1, hj1, hr⟩, hk⟩
              have HEL : Hid (OlKd V1 w.heap.size [.int .i64 y.name, .int .i64 y.cost, .int .i64 y.power, .int .i64 y.health, .slice Y1 y.tags.length y1, .slice Y2 y.effs.length y2] y) := Lib.hid ⟨Y1, Y2, y1, y2, rfl, hE1.less HBASE.out, hE2.less HBASE.out⟩
              have HG1 := Lib.hid hh1
              have HFEW := Lib.hid hfew
              unfold kndV
              clear hE1 hE2 hfew hh1
              have Q1 := Lib.hid (QD.out.call hk hr)
              have O1 := Lib.hid (own_call QD.out OD.out hk)
              replace OI := Lib.hid (own_call QD.out OI.out hk)
              replace OT := Lib.hid (own_call QD.out OT.out hk)
              replace UP := Lib.hid (UP.out.keeps hk (fun k hk e => by have := QD.out.lo; omega))
              have hT1 : Hid (V1.cell? ⟨xb, 3, none⟩ = some (.slice A l.length c)) := Lib.hid (Q1.out.box.cellAt 3)
              replace HBASE := Lib.hid (Nat.le_trans HBASE.out hk.size)
              clear hr hk HC hT0 QD OD
              refine hK.out _ _ (trivial) (fun _ => hT1.out) ?_
              clear hK K
              go_simp
              have ka := (Keeps.refl (fun _ => False) V1).alloc (.cells #[.int .i64 y.name, .int .i64 y.cost, .int .i64 y.power, .int .i64 y.health, .slice Y1 y.tags.length y1, .slice Y2 y.effs.length y2] 40)
              have Q2 := Lib.hid (Q1.out.past ka)
              have O2 := Lib.hid (own_keepsS O1.out ka (fun _ _ => id))
              have HL := Lib.hid (Lies.row (fr := (0, 0)) (xs := [.int .i64 y.name, .int .i64 y.cost, .int .i64 y.power, .int .i64 y.health, .slice Y1 y.tags.length y1, .slice Y2 y.effs.length y2]) (Whole.made V1 40 #[.int .i64 y.name, .int .i64 y.cost, .int .i64 y.power, .int .i64 y.health, .slice Y1 y.tags.length y1, .slice Y2 y.effs.length y2]) (Nat.lt_succ_self _))
              replace OI := Lib.hid (own_keepsS OI.out ka (fun _ _ => id))
              replace OT := Lib.hid (own_keepsS OT.out ka (fun _ _ => id))
              replace UP := Lib.hid (UP.out.keeps ka (fun _ _ => id))
              replace HEL := Lib.hid (HEL.out.keeps ka (fun _ _ => id))
              have HB2 := Lib.hid (Nat.le_trans HBASE.out ka.size)
              clear ka Q1 O1 HBASE
              refine upTo_next (i := 4) (by kernel_rfl) rfl ?_
              intro K hK
              go_simp
              refine hK.out _ _ (trivial) (fun _ => Q2.out.box.cellAt 3) ?_
              clear hK K
              go_simp
              refine upTo_next (i := 5) (by kernel_rfl) rfl ?_
              intro K hK
              refine stepIfT (by rfl) ?_
              refine wp_append_cells _ _ _ 24 rfl w.heap.size 40 (.agg #[.int .i64 0, .int .i64 0, .int .i64 0, .int .i64 0, .slice none 0 0, .slice none 0 0]) 6 80 Tryz.underlying24 info_kndD rfl (by decide) (.slice A l.length c) l.length (cells) rfl O2.out (V1.heap.size + 1) (some ⟨V1.heap.size, 0, none⟩) 1 1 [.int .i64 y.name, .int .i64 y.cost, .int .i64 y.power, .int .i64 y.health, .slice Y1 y.tags.length y1, .slice Y2 y.effs.length y2] rfl HL.out rfl (fun u hu => by simp only [List.mem_cons, List.not_mem_nil, or_false] at hu; rcases hu with rfl | rfl | rfl | rfl | rfl | rfl <;> rfl) (by simp only [maxLen]; omega) (by omega) HB2.out ?_
              intro A2 c2 V3 own5 hg5 hor5 _ _
              have Q3 := Lib.hid (Q2.out.grow O2.out hg5 (by decide))
              replace OI := Lib.hid (own_keepsTy OI.out ((Keeps.refl (fun k => (Value.slice A l.length c).ownBlock = some k) _).grown hg5 (fun _ e _ => e)) (own_ofTy O2.out) (by decide))
              replace OT := Lib.hid (own_keepsTy OT.out ((Keeps.refl (fun k => (Value.slice A l.length c).ownBlock = some k) _).grown hg5 (fun _ e _ => e)) (own_ofTy O2.out) (by decide))
              have O3 := Lib.hid own5
              have Q4 := Lib.hid (Q3.out.put 3 (.slice A2 (l.length + 1) c2))
              have O4 := Lib.hid (own_put Q3.out O3.out (by decide) 3 (.slice A2 (l.length + 1) c2))
              have f5 := Q3.out.box.free 3
              have c5 := Q3.out.box.cellAt 3
              replace OI := Lib.hid (own_put Q3.out OI.out (by decide) 3 (.slice A2 (l.length + 1) c2))
              replace OT := Lib.hid (own_put Q3.out OT.out (by decide) 3 (.slice A2 (l.length + 1) c2))
              have GROWN := Lib.hid hg5
              have OLDROW := O2
              clear own5 hor5 hT1 HL HB2 O2
              refine hK.out _ _ (trivial) (fun h => absurd h (by decide)) ?_
              clear hK K
              go_simp
              refine upTo_take (i := 6) (v := ?v13) rfl (by kernel_rfl) (by kernel_rfl) (by kernel_rfl) (fun _ _ _ h => by first | exact h | exact absurd h.1 (fun e => by cases e)) (by decide) (Or.inl ⟨by rfl, ?hy13⟩) (trivial) (fun h => absurd h (by decide)) ?rest13
              case hy13 =>
                intro w hSw
                clear hSw
                go_simp
                try with_reducible rfl
              go_simp
              refine upTo_next (i := 7) (by kernel_rfl) rfl ?_
              intro K hK
              go_simp
              refine hK.out _ _ (trivial) (fun h => absurd h (by decide)) ?_
              clear hK K
              go_simp
              refine upTo_done (by kernel_rfl) ?_ _
              have hlen : (l ++ [y]).length = l.length + 1 := by simp
              have UP3 := OUp.push OlKd_k (by unfold OlKdt; decide) UP.out rfl HEL.out GROWN.out O3.out
              have UPN : Hid (UPk _ w.heap.size (.slice A2 (l ++ [y]).length c2) (l ++ [y]) _) := Lib.hid (OUp.kind OlKd_k (by rw [hlen]; exact UP3) ((Keeps.refl (fun k => k = xb) _).setCell (p := ⟨xb, 3, none⟩) (fun _ => rfl) (.slice A2 (l.length + 1) c2)) (t' := 26) (fun k e => by rw [e]; exact ⟨_, _, Q3.out.box⟩) (by unfold OlKdt; decide) (by decide))
              have QN : Hid (Rw w _ rb g off cap b jx en4 Hx 26 w.heap.size xb #[.int .i64 0, .slice none 0 0, .slice none 0 0, .slice none 0 0] #[.int .i64 (yc : Int), .slice Ai il.length ci, .slice At tl.length ct, .slice A2 (l ++ [y]).length c2]) := Lib.hid (by rw [hlen]; exact Q4.out)
              have GNN : Hid (Goes (repP kndP (l ++ [y]).length) (b.take en4) p4 M4 jx Hx (l ++ [y])) := Lib.hid (by rw [hlen]; exact GL.out.snoc HG1.out)
              have HJ' : Hid (p4 ≤ jx) := Lib.hid (by have := HJ.out; omega)
              have HS' : Hid (∀ x ∈ l ++ [y], KndFew x) := Lib.hid fun x hx => by
                rcases List.mem_append.1 hx with hx | hx
                · exact HS.out x hx
                · rw [List.mem_singleton.1 hx]; exact HFEW.out
              clear UP3 UP HEL Q3 O3 Q4 O4 GL HG1 HJ HS HFEW f5 c5 GROWN OLDROW Q2
              go_wp2_with fail
              exact ⟨⟨l ++ [y], _, A2, c2, jx, Hx, by omega, by rw [hlen]; go_num, QN, OI, OT, UPN, GNN, HJ', HS'⟩, by simp [intOf]; omega⟩
            · obtain hle : l.length = n4 := by omega
              replace GL : Hid (Goes (repP kndP n4) (b.take en4) p4 M4 j none l) := Lib.hid (by rw [← hle]; exact GL.out)
              clear hle
              go_wp2_with fail
              exact Met.intro ⟨(fun _ hM => hM _ _ _ _ _ _ _ _ _ _ _ _ _ _ _ _ _ _ _ _ _ _ _ _ _ _ _ _ _ _ _ _ _ _ _ _ _ _ _ _ _ _ _ _ _ _ _ _ _ _ _ _ _ _ _ _ _ _ _ _ _ _ _ _ _ _ _ _ _ _ _ _ _ _ _ _ _ _ _ _ _ _ _ _ _ _ _ _ _ _ _ _ _ _ _ _ _ _ _ _ _ _ _ _ _ _ _ _ _ _ _ _ _ _ _ _ _ _ _ _ _), l, cells, A, c, j, _, hl, Q, OI, OT, UP, GL, HJ, HS⟩
      case cutr3 =>
        clear Q OI OT UP
        refine FrP.rest ?_
        rintro wk ⟨kl, cells, Ak, ck, q4, N4, hkl, Q, OI, OT, UP, GI, HJ4, HSK⟩
        intro u1 u4 u5 u6 u7 u8 u9 u10 u11 u12 u13 u14 u15 u16 u17 u18 u19 u20 u21 u22 u23 u24 u25 u26 u27 u28 u29 u30 u31 u32 u33 u34 u35 u36 u37 u38 u39 u40 u41 u42 u43 u44 u45 u46 u47 u48 u49 u50 u51 u52 u53 u54 u55 u56 u57 u58 u59 u60 u61 u62 u63 u64 u65 u66 u67 u68 u69 u70 u71 u72 u73 u74 u75 u76 u77 u78 u79 u80 u81 u82 u83 u84 u85 u86 u87 u88 u89 u90 u91 u92 u93 u94 u95 u96 u97 u98 u99 u100 u101 u102 u103 u104 u105 u106 u107 u108 u109 u110 u111 u112 u113 u114 u115 u116 u117 u118 u119 u120 u121 u122 u123
        go_wp2_with fail
        have gq4 : Goes (listP 2 kndP) (b.take en4) _ _ _ _ kl := GN4.out.seq (by rw [Int.toNat_natCast]; exact GI.out)
        have S4 := Lib.hid (sec_goes HO4.out gq4 Q.out.rd.le)
        have E4 := Lib.hid (sec_room HO4.out gq4 Q.out.rd.le h4)
        have SA : Hid (SGoes secsP (b.take (b.length - 4)) 5 none q4 (shutF q4 en4 N4) ((yc : Int), il, tl, kl)) := Lib.hid (S1.out.seq ((S2.out.seq ((S3.out.seq (S4.out.map fun d => (tl, d))).map fun d => (il, d))).map fun d => ((yc : Int), d)))
        clear gq4 GN4 GI HO4 S1 S2 S3 S4
        refine (shut_ref Q.out.rd).mono ?_
        rintro r wl ⟨rfl, hr, hk⟩
        replace OI := Lib.hid (own_call Q.out OI.out hk)
        replace OT := Lib.hid (own_call Q.out OT.out hk)
        replace UP := Lib.hid (UP.out.keeps hk (fun k hk e => by have := Q.out.lo; omega))
        replace Q := Lib.hid (Q.out.call hk hr)
        have HE4 := E4.out
        generalize shutF q4 en4 N4 = H at *
        clear hr hk E4
        have HFW : Hid (PkFew ⟨(yc : Int), il, tl, kl⟩) := Lib.hid ⟨by show il.length ≤ _; omega, by show tl.length ≤ _; omega, fun t ht => by have := HST.out t ht; omega, by show kl.length ≤ _; omega, HSK.out, HSI.out⟩
        have hbx := Q.out.rd.rq.box
        unfold rfC at hbx
        obtain ⟨a0, a1, a2, a3⟩ := four hbx
        clear hbx
        cases H with
        | some f =>
          obtain ⟨hf0, hf1, hf2⟩ := Q.out.rd.rq.nz f rfl
          have hfi : ¬ ((f.1 : Int) = 0) := by omega
          have hfe : ((f.1 : Int) == 0) = false := by simp; exact hf0
          unfold rfI at a1
          unfold rfE at a3
          simp only [] at a1 a3
          go_wp2_with fail
          go_quiet (fail)
          clear a0 a1 a2 a3
          generalize hwm : wl.drewN _ = wm
          have km : Keeps (fun _ => False) wl wm := hwm ▸ (Keeps.refl (fun _ => False) wl).drewN _
          replace OI := Lib.hid (own_keepsS OI.out km (fun _ _ => id))
          replace OT := Lib.hid (own_keepsS OT.out km (fun _ _ => id))
          replace UP := Lib.hid (UP.out.keeps km (fun _ _ => id))
          replace Q := Lib.hid (Q.out.past km)
          clear km hwm
          obtain ⟨x0, x1, x2, x3⟩ := four Q.out.box
          obtain ⟨z0, z1, z2, z3⟩ := four Q.out.res
          have zf0 := Q.out.res.free 0
          have zf1 := Q.out.res.free 1
          have zf2 := Q.out.res.free 2
          have zf3 := Q.out.res.free 3
          have RF := Lib.hid ((((Q.out.res.put 0 (.int .i64 (yc : Int))).put 1 (.slice Ai il.length ci)).put 2 (.slice At tl.length ct)).put 3 (.slice Ak kl.length ck))
          have KF := Lib.hid (((((Keeps.refl (fun k => k = w.heap.size) wm).setCell (p := ⟨w.heap.size, 0, none⟩) (fun _ => rfl) (.int .i64 (yc : Int))).setCell (p := ⟨w.heap.size, 1, none⟩) (fun _ => rfl) (.slice Ai il.length ci)).setCell (p := ⟨w.heap.size, 2, none⟩) (fun _ => rfl) (.slice At tl.length ct)).setCell (p := ⟨w.heap.size, 3, none⟩) (fun _ => rfl) (.slice Ak kl.length ck))
          have HRQ := Lib.hid Q.out.rd.rq
          go_wp2_with fail
          refine bodyPost_ret (results_cell rfl _ w.heap.size rfl (#[.int .i64 (yc : Int), .slice Ai il.length ci, .slice At tl.length ct, .slice Ak kl.length ck]) _ RF.out _ Tryz.underlying26 rfl (by kernel_rfl)) rfl ?_
          have hlo := Q.out.lo
          refine ⟨⟨(yc : Int), il, tl, kl⟩, Ai, At, Ak, ci, ct, ck, q4, q4, _, rfl, own_keepsS OI.out KF.out (fun k hb e => own_not OI.out Q.out.res (by decide) (by rw [hb, e])), own_keepsS OT.out KF.out (fun k hb e => own_not OT.out Q.out.res (by decide) (by rw [hb, e])), ⟨cells, OUp.kind OlKd_k UP.out KF.out (t' := 26) (fun k e => by rw [e]; exact ⟨_, _, Q.out.res⟩) (by unfold OlKdt; decide) (by decide)⟩, HFW.out, SA.out, ⟨_, (HRQ.out.calm KF.out (fun k hk e => by have := Q.out.lo; have := Q.out.r0lo; omega))⟩, fun _ => rfl, Q.out.keeps.and KF.out (fun k hk e => by omega)⟩
        | none =>
          unfold rfI at a1
          unfold rfE at a3
          simp only [] at a1 a3
          have hq4 := HE4 rfl
          have hwr : IntKind.i64.wrap ((b.length : Int) - 4) = (b.length : Int) - 4 := by
            simp only [IntKind.wrap, IntKind.signed, IntKind.bits]
            simp
            omega
          by_cases he : q4 = b.length - 4
          · have heI : ((q4 : Int) != (b.length : Int) - 4) = false := by simp; omega
            go_wp2_with fail
            go_quiet (fail)
            clear a0 a1 a2 a3
            generalize hwm : wl.drewN _ = wm
            have km : Keeps (fun _ => False) wl wm := hwm ▸ (Keeps.refl (fun _ => False) wl).drewN _
            replace OI := Lib.hid (own_keepsS OI.out km (fun _ _ => id))
            replace OT := Lib.hid (own_keepsS OT.out km (fun _ _ => id))
            replace UP := Lib.hid (UP.out.keeps km (fun _ _ => id))
            replace Q := Lib.hid (Q.out.past km)
            clear km hwm
            obtain ⟨x0, x1, x2, x3⟩ := four Q.out.box
            obtain ⟨z0, z1, z2, z3⟩ := four Q.out.res
            have zf0 := Q.out.res.free 0
            have zf1 := Q.out.res.free 1
            have zf2 := Q.out.res.free 2
            have zf3 := Q.out.res.free 3
            have RF := Lib.hid ((((Q.out.res.put 0 (.int .i64 (yc : Int))).put 1 (.slice Ai il.length ci)).put 2 (.slice At tl.length ct)).put 3 (.slice Ak kl.length ck))
            have KF := Lib.hid (((((Keeps.refl (fun k => k = w.heap.size) wm).setCell (p := ⟨w.heap.size, 0, none⟩) (fun _ => rfl) (.int .i64 (yc : Int))).setCell (p := ⟨w.heap.size, 1, none⟩) (fun _ => rfl) (.slice Ai il.length ci)).setCell (p := ⟨w.heap.size, 2, none⟩) (fun _ => rfl) (.slice At tl.length ct)).setCell (p := ⟨w.heap.size, 3, none⟩) (fun _ => rfl) (.slice Ak kl.length ck))
            have HRQ := Lib.hid Q.out.rd.rq
            go_wp2_with fail
            refine bodyPost_ret (results_cell rfl _ w.heap.size rfl (#[.int .i64 (yc : Int), .slice Ai il.length ci, .slice At tl.length ct, .slice Ak kl.length ck]) _ RF.out _ Tryz.underlying26 rfl (by kernel_rfl)) rfl ?_
            have hlo := Q.out.lo
            refine ⟨⟨(yc : Int), il, tl, kl⟩, Ai, At, Ak, ci, ct, ck, q4, q4, _, rfl, own_keepsS OI.out KF.out (fun k hb e => own_not OI.out Q.out.res (by decide) (by rw [hb, e])), own_keepsS OT.out KF.out (fun k hb e => own_not OT.out Q.out.res (by decide) (by rw [hb, e])), ⟨cells, OUp.kind OlKd_k UP.out KF.out (t' := 26) (fun k e => by rw [e]; exact ⟨_, _, Q.out.res⟩) (by unfold OlKdt; decide) (by decide)⟩, HFW.out, SA.out, ⟨_, (by simp only []; rw [if_pos he]; exact (HRQ.out.calm KF.out (fun k hk e => by have := Q.out.lo; have := Q.out.r0lo; omega)))⟩, fun _ => rfl, Q.out.keeps.and KF.out (fun k hk e => by omega)⟩
          · have heI : ((q4 : Int) != (b.length : Int) - 4) = true := by simp; omega
            have heN : ¬ ((q4 : Int) = (b.length : Int) - 4) := by omega
            go_wp2_with fail
            go_quiet (fail)
            go_wp2_with fail
            generalize hwm : wl.drewN _ = wn
            have km : Keeps (fun _ => False) wl wn := hwm ▸ (Keeps.refl (fun _ => False) wl).drewN _
            replace OI := Lib.hid (own_keepsS OI.out km (fun _ _ => id))
            replace OT := Lib.hid (own_keepsS OT.out km (fun _ _ => id))
            replace UP := Lib.hid (UP.out.keeps km (fun _ _ => id))
            replace Q := Lib.hid (Q.out.past km)
            clear km hwm
            refine (failR_ref 55 q4 Q.out.rd (by decide) (by have := Q.out.rd.rq.small; omega)).mono ?_
            rintro r wm ⟨rfl, hr, hk⟩
            replace OI := Lib.hid (own_call Q.out OI.out hk)
            replace OT := Lib.hid (own_call Q.out OT.out hk)
            replace UP := Lib.hid (UP.out.keeps hk (fun k hk e => by have := Q.out.lo; omega))
            replace Q := Lib.hid (Q.out.call hk hr)
            clear hr hk
            obtain ⟨x0, x1, x2, x3⟩ := four Q.out.box
            obtain ⟨z0, z1, z2, z3⟩ := four Q.out.res
            have zf0 := Q.out.res.free 0
            have zf1 := Q.out.res.free 1
            have zf2 := Q.out.res.free 2
            have zf3 := Q.out.res.free 3
            have RF := Lib.hid ((((Q.out.res.put 0 (.int .i64 (yc : Int))).put 1 (.slice Ai il.length ci)).put 2 (.slice At tl.length ct)).put 3 (.slice Ak kl.length ck))
            have KF := Lib.hid (((((Keeps.refl (fun k => k = w.heap.size) wm).setCell (p := ⟨w.heap.size, 0, none⟩) (fun _ => rfl) (.int .i64 (yc : Int))).setCell (p := ⟨w.heap.size, 1, none⟩) (fun _ => rfl) (.slice Ai il.length ci)).setCell (p := ⟨w.heap.size, 2, none⟩) (fun _ => rfl) (.slice At tl.length ct)).setCell (p := ⟨w.heap.size, 3, none⟩) (fun _ => rfl) (.slice Ak kl.length ck))
            have HRQ := Lib.hid Q.out.rd.rq
            go_wp2_with fail
            refine bodyPost_ret (results_cell rfl _ w.heap.size rfl (#[.int .i64 (yc : Int), .slice Ai il.length ci, .slice At tl.length ct, .slice Ak kl.length ck]) _ RF.out _ Tryz.underlying26 rfl (by kernel_rfl)) rfl ?_
            have hlo := Q.out.lo
            refine ⟨⟨(yc : Int), il, tl, kl⟩, Ai, At, Ak, ci, ct, ck, q4, q4, _, rfl, own_keepsS OI.out KF.out (fun k hb e => own_not OI.out Q.out.res (by decide) (by rw [hb, e])), own_keepsS OT.out KF.out (fun k hb e => own_not OT.out Q.out.res (by decide) (by rw [hb, e])), ⟨cells, OUp.kind OlKd_k UP.out KF.out (t' := 26) (fun k e => by rw [e]; exact ⟨_, _, Q.out.res⟩) (by unfold OlKdt; decide) (by decide)⟩, HFW.out, SA.out, ⟨_, (by simp only []; rw [if_neg he]; exact (HRQ.out.calm KF.out (fun k hk e => by have := Q.out.lo; have := Q.out.r0lo; omega)))⟩, fun _ => rfl, Q.out.keeps.and KF.out (fun k hk e => by omega)⟩
end Go.Proofs.YtcmbdnjcfneinaaGreatDoor
