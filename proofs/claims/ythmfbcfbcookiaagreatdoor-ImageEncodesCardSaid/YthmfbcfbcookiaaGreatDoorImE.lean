/-
  image.Encode: the walk. Conditions: lengths within 10 ^ 9; a turn of 32 bits.
-/
import Derived.Test.YthmfbcfbcookiaaGreatDoorImMg
import Derived.Test.YthmfbcfbcookiaaGreatDoorImMa
import Derived.Test.YthmfbcfbcookiaaGreatDoorChB
namespace Go.Proofs.YthmfbcfbcookiaaGreatDoor
open Go.RowKit
/-- Where Encode stands: the bytes so far; the buffer lies behind the world w1, which stays. -/
structure EncAt (l : List Byte) (w1 wr : World) : Prop where
  buf : BufAt w1.heap.size l wr
  keeps : Keeps (fun _ => False) w1 wr
theorem EncAt.put {l m : List Byte} {w1 wr w' : World} {o : Obj} (h : EncAt l w1 wr) (hp : PutAt w1.heap.size m (wr.alloc o) w') : EncAt m w1 w' :=
  ⟨hp.buf, keepsAll ((h.keeps.below (Nat.le_refl _) (fun _ e => e.elim)).trans (((Below.refl _ wr).alloc (Nat.le_of_lt h.buf.lt) o).trans hp.below))⟩
theorem EncAt.more {l : List Byte} {w1 wr w' : World} (h : EncAt l w1 wr) (hk : Keeps (fun _ => False) wr w') : EncAt l w1 w' := ⟨bufPast h.buf hk, h.keeps.trans hk⟩
/-- put, at numbers that have just been laid. -/
theorem put1_at (xs : List Int) {l : List Byte} {w1 wr : World} (h : EncAt l w1 wr) (hx : ∀ x ∈ xs, in32 x) (hlim : l.length + 4 * xs.length ≤ 140737488355328) :
    Calls Tryz.prog 25 #[.int .i64 1, .slice (some ⟨wr.heap.size, 0, none⟩) xs.length xs.length, .pointer (some ⟨w1.heap.size, 0, none⟩)] (wr.alloc (.cells (i32s xs) 21)) fun e w' => e = .returned (.tuple #[]) ∧ PutAt w1.heap.size (l ++ xs.flatMap (be 1)) (wr.alloc (.cells (i32s xs) 21)) w' :=
  put1_any xs w1.heap.size wr.heap.size l _ hx (bufPast h.buf ((Keeps.refl _ _).alloc _)) (Whole.made _ _ _) (by have := h.buf.lt; omega) hlim
theorem put2_at (xs : List Int) {l : List Byte} {w1 wr : World} (h : EncAt l w1 wr) (hx : ∀ x ∈ xs, in32 x) (hlim : l.length + 4 * xs.length ≤ 140737488355328) :
    Calls Tryz.prog 25 #[.int .i64 2, .slice (some ⟨wr.heap.size, 0, none⟩) xs.length xs.length, .pointer (some ⟨w1.heap.size, 0, none⟩)] (wr.alloc (.cells (i32s xs) 21)) fun e w' => e = .returned (.tuple #[]) ∧ PutAt w1.heap.size (l ++ xs.flatMap (be 2)) (wr.alloc (.cells (i32s xs) 21)) w' :=
  put2_any xs w1.heap.size wr.heap.size l _ hx (bufPast h.buf ((Keeps.refl _ _).alloc _)) (Whole.made _ _ _) (by have := h.buf.lt; omega) hlim
theorem put4_at (xs : List Int) {l : List Byte} {w1 wr : World} (h : EncAt l w1 wr) (hx : ∀ x ∈ xs, in32 x) (hlim : l.length + 4 * xs.length ≤ 140737488355328) :
    Calls Tryz.prog 25 #[.int .i64 4, .slice (some ⟨wr.heap.size, 0, none⟩) xs.length xs.length, .pointer (some ⟨w1.heap.size, 0, none⟩)] (wr.alloc (.cells (i32s xs) 21)) fun e w' => e = .returned (.tuple #[]) ∧ PutAt w1.heap.size (l ++ xs.flatMap (be 4)) (wr.alloc (.cells (i32s xs) 21)) w' :=
  put4_any xs w1.heap.size wr.heap.size l _ hx (bufPast h.buf ((Keeps.refl _ _).alloc _)) (Whole.made _ _ _) (by have := h.buf.lt; omega) hlim
/-- The blocks that are no bytes and not the buffer stay. -/
def Stay (b : Nat) (w w' : World) : Prop := ∀ g t cs, g ≠ b → t ≠ 5 → Whole w g t cs → Whole w' g t cs
theorem stay_put {b : Nat} {m : List Byte} {w w' : World} {o : Obj} (hp : PutAt b m (w.alloc o) w') : Stay b w w' := fun g t cs hg ht hw => hp.kept g t cs hg ht (hw.alloc o)
theorem lens_all : (∀ a b : List Byte, (a ++ b).length = a.length + b.length) ∧ (∀ (n : Nat) (x : Int), (be n x).length = n) ∧ headL.length = 5 := ⟨fun _ _ => List.length_append, be_length, rfl⟩
theorem p1_1 (x : Int) (gn : Nat) {l : List Byte} {w1 wr : World} (h : EncAt l w1 wr) (hx : in32 x) (hl : l.length ≤ 100000) (hgn : gn = wr.heap.size) :
    Calls Tryz.prog 25 #[.int .i64 1, .slice (some ⟨gn, 0, none⟩) 1 1, .pointer (some ⟨w1.heap.size, 0, none⟩)] (wr.alloc (.cells #[.int .i32 x] 21)) fun e w' => e = .returned (.tuple #[]) ∧ EncAt (l ++ (be 1 x)) w1 w' ∧ Stay w1.heap.size wr w' := by
  subst hgn
  have H := put1_at [x] h (fun a ha => by simp at ha; subst ha; assumption) (by simp only [List.length_cons, List.length_nil]; omega)
  refine Calls.mono (show Calls _ _ _ _ _ from H) ?_
  rintro e w' ⟨he, hp⟩
  refine ⟨he, ?_, stay_put hp⟩
  have h2 := h.put hp
  simp only [List.flatMap_cons, List.flatMap_nil, List.append_nil] at h2
  exact h2
theorem p2_1 (x : Int) (gn : Nat) {l : List Byte} {w1 wr : World} (h : EncAt l w1 wr) (hx : in32 x) (hl : l.length ≤ 100000) (hgn : gn = wr.heap.size) :
    Calls Tryz.prog 25 #[.int .i64 2, .slice (some ⟨gn, 0, none⟩) 1 1, .pointer (some ⟨w1.heap.size, 0, none⟩)] (wr.alloc (.cells #[.int .i32 x] 21)) fun e w' => e = .returned (.tuple #[]) ∧ EncAt (l ++ (be 2 x)) w1 w' ∧ Stay w1.heap.size wr w' := by
  subst hgn
  have H := put2_at [x] h (fun a ha => by simp at ha; subst ha; assumption) (by simp only [List.length_cons, List.length_nil]; omega)
  refine Calls.mono (show Calls _ _ _ _ _ from H) ?_
  rintro e w' ⟨he, hp⟩
  refine ⟨he, ?_, stay_put hp⟩
  have h2 := h.put hp
  simp only [List.flatMap_cons, List.flatMap_nil, List.append_nil] at h2
  exact h2
theorem p4_1 (x : Int) (gn : Nat) {l : List Byte} {w1 wr : World} (h : EncAt l w1 wr) (hx : in32 x) (hl : l.length ≤ 100000) (hgn : gn = wr.heap.size) :
    Calls Tryz.prog 25 #[.int .i64 4, .slice (some ⟨gn, 0, none⟩) 1 1, .pointer (some ⟨w1.heap.size, 0, none⟩)] (wr.alloc (.cells #[.int .i32 x] 21)) fun e w' => e = .returned (.tuple #[]) ∧ EncAt (l ++ (be 4 x)) w1 w' ∧ Stay w1.heap.size wr w' := by
  subst hgn
  have H := put4_at [x] h (fun a ha => by simp at ha; subst ha; assumption) (by simp only [List.length_cons, List.length_nil]; omega)
  refine Calls.mono (show Calls _ _ _ _ _ from H) ?_
  rintro e w' ⟨he, hp⟩
  refine ⟨he, ?_, stay_put hp⟩
  have h2 := h.put hp
  simp only [List.flatMap_cons, List.flatMap_nil, List.append_nil] at h2
  exact h2
theorem p4_2 (x y : Int) (gn : Nat) {l : List Byte} {w1 wr : World} (h : EncAt l w1 wr) (hx : in32 x) (hy : in32 y) (hl : l.length ≤ 100000) (hgn : gn = wr.heap.size) :
    Calls Tryz.prog 25 #[.int .i64 4, .slice (some ⟨gn, 0, none⟩) 2 2, .pointer (some ⟨w1.heap.size, 0, none⟩)] (wr.alloc (.cells #[.int .i32 x, .int .i32 y] 21)) fun e w' => e = .returned (.tuple #[]) ∧ EncAt (l ++ (be 4 x ++ (be 4 y))) w1 w' ∧ Stay w1.heap.size wr w' := by
  subst hgn
  have H := put4_at [x, y] h (fun a ha => by simp at ha; rcases ha with rfl | rfl <;> assumption) (by simp only [List.length_cons, List.length_nil]; omega)
  refine Calls.mono (show Calls _ _ _ _ _ from H) ?_
  rintro e w' ⟨he, hp⟩
  refine ⟨he, ?_, stay_put hp⟩
  have h2 := h.put hp
  simp only [List.flatMap_cons, List.flatMap_nil, List.append_nil] at h2
  exact h2
theorem p4_4 (x y z v : Int) (gn : Nat) {l : List Byte} {w1 wr : World} (h : EncAt l w1 wr) (hx : in32 x) (hy : in32 y) (hz : in32 z) (hv : in32 v) (hl : l.length ≤ 100000) (hgn : gn = wr.heap.size) :
    Calls Tryz.prog 25 #[.int .i64 4, .slice (some ⟨gn, 0, none⟩) 4 4, .pointer (some ⟨w1.heap.size, 0, none⟩)] (wr.alloc (.cells #[.int .i32 x, .int .i32 y, .int .i32 z, .int .i32 v] 21)) fun e w' => e = .returned (.tuple #[]) ∧ EncAt (l ++ (be 4 x ++ (be 4 y ++ (be 4 z ++ (be 4 v))))) w1 w' ∧ Stay w1.heap.size wr w' := by
  subst hgn
  have H := put4_at [x, y, z, v] h (fun a ha => by simp at ha; rcases ha with rfl | rfl | rfl | rfl <;> assumption) (by simp only [List.length_cons, List.length_nil]; omega)
  refine Calls.mono (show Calls _ _ _ _ _ from H) ?_
  rintro e w' ⟨he, hp⟩
  refine ⟨he, ?_, stay_put hp⟩
  have h2 := h.put hp
  simp only [List.flatMap_cons, List.flatMap_nil, List.append_nil] at h2
  exact h2
theorem p1_3 (x y z : Int) (gn : Nat) {l : List Byte} {w1 wr : World} (h : EncAt l w1 wr) (hx : in32 x) (hy : in32 y) (hz : in32 z) (hl : l.length ≤ 100000) (hgn : gn = wr.heap.size) :
    Calls Tryz.prog 25 #[.int .i64 1, .slice (some ⟨gn, 0, none⟩) 3 3, .pointer (some ⟨w1.heap.size, 0, none⟩)] (wr.alloc (.cells #[.int .i32 x, .int .i32 y, .int .i32 z] 21)) fun e w' => e = .returned (.tuple #[]) ∧ EncAt (l ++ (be 1 x ++ (be 1 y ++ (be 1 z)))) w1 w' ∧ Stay w1.heap.size wr w' := by
  subst hgn
  have H := put1_at [x, y, z] h (fun a ha => by simp at ha; rcases ha with rfl | rfl | rfl <;> assumption) (by simp only [List.length_cons, List.length_nil]; omega)
  refine Calls.mono (show Calls _ _ _ _ _ from H) ?_
  rintro e w' ⟨he, hp⟩
  refine ⟨he, ?_, stay_put hp⟩
  have h2 := h.put hp
  simp only [List.flatMap_cons, List.flatMap_nil, List.append_nil] at h2
  exact h2
set_option maxHeartbeats 2000000 in
theorem encode_no (s : St) (Ap Ac Az : Option Addr) (B cp cc cz : Nat) (w : World) (hx : StIn w B s Ap Ac Az) (hB : B ≤ w.heap.size) (hs : StSmall s) (hc : (checkP s).1 = 10) :
    Calls Tryz.prog 7 #[stV s Ap Ac Az cp cc cz] w fun e w' => e = .returned (.tuple #[.slice none 0 0, .int .i64 10]) ∧ Keeps (fun _ => False) w w' := by
  have k0 : Keeps (fun _ => False) w (w.alloc (.cells #[.slice Ap s.players.length cp, .slice Ac s.cards.length cc, .slice Az s.zones.length cz, .int .i32 s.turn, .int .i64 s.whose, .int .i8 s.fin, .int .i64 s.winner] 27)) := (Keeps.refl _ _).alloc _
  have HC := check_any s Ap Ac Az B cp cc cz _ (hx.keeps k0 (fun _ _ => id)) (Nat.le_trans hB k0.size) hs
  rw [hc] at HC
  unfold stV at *
  clear hc hx hB hs
  have hmf : ∀ (fn : Fn) (first cap : Array Value) (w : World), (Instr.makeFunc fn first cap).run Tryz.prog w = .ok (.func fn first cap) w := fun _ _ _ _ => rfl
  go_enter Tryz.func7, Tryz.ntmps7
  go_wp2_with fail
  refine HC.mono ?_
  rintro e w1 ⟨rfl, k1⟩
  go_wp2_with fail
  go_ret2
  exact ⟨rfl, k0.trans k1⟩
set_option maxRecDepth 100000 in
set_option maxHeartbeats 4000000 in
theorem encode_yes (s : St) (Ap Ac Az : Option Addr) (B cp cc cz : Nat) (w : World) (hx : StIn w B s Ap Ac Az) (hB : B ≤ w.heap.size) (hs : StSmall s) (hc : (checkP s).1 = 0) (ht : in32 s.turn) :
    Calls Tryz.prog 7 #[stV s Ap Ac Az cp cc cz] w fun e w' => ∃ A cap, e = .returned (.tuple #[.slice A (img s).length cap, .int .i64 0]) ∧ w'.ownsRow w.heap.size 5 1 (.slice A (img s).length cap) (img s).length (bytesV (img s)) ∧ Keeps (fun _ => False) w w' := by
  have hgood := (mayI hc).good ht
  have hfew := (mayI hc).few
  have k0 : Keeps (fun _ => False) w (w.alloc (.cells #[.slice Ap s.players.length cp, .slice Ac s.cards.length cc, .slice Az s.zones.length cz, .int .i32 s.turn, .int .i64 s.whose, .int .i8 s.fin, .int .i64 s.winner] 27)) := (Keeps.refl _ _).alloc _
  have HC := check_any s Ap Ac Az B cp cc cz _ (hx.keeps k0 (fun _ _ => id)) (Nat.le_trans hB k0.size) hs
  have hc2 := (checkP_ok hc).2
  rw [hc, hc2] at HC
  have HM := Lib.hid (Whole.made w 27 #[.slice Ap s.players.length cp, .slice Ac s.cards.length cc, .slice Az s.zones.length cz, .int .i32 s.turn, .int .i64 s.whose, .int .i8 s.fin, .int .i64 s.winner])
  have XX := Lib.hid (hx.keeps k0 (fun _ _ => id))
  have hBs : B ≤ (w.alloc (.cells #[.slice Ap s.players.length cp, .slice Ac s.cards.length cc, .slice Az s.zones.length cz, .int .i32 s.turn, .int .i64 s.whose, .int .i8 s.fin, .int .i64 s.winner] 27)).heap.size := Nat.le_trans hB k0.size
  have KK := Lib.hid k0
  have GG := Lib.hid hgood
  have FF := Lib.hid hfew.lens
  have FF2 := Lib.hid hfew
  have hn1 := hfew.np
  have hn2 := hfew.nc
  have hn3 := hfew.nz
  have hn4 := hfew.zn
  unfold stV at *
  clear hc hc2 hx hs ht hgood hfew k0
  have hmf : ∀ (fn : Fn) (first cap : Array Value) (w : World), (Instr.makeFunc fn first cap).run Tryz.prog w = .ok (.func fn first cap) w := fun _ _ _ _ => rfl
  go_enter Tryz.func7, Tryz.ntmps7
  go_wp2_with fail
  refine HC.mono ?_
  rintro e w1 ⟨rfl, k1⟩
  have K1 := Lib.hid (KK.out.trans k1)
  have M1 := Lib.hid (HM.out.keeps k1 id)
  have X1 := Lib.hid (XX.out.keeps k1 (fun _ _ => id) hBs)
  have hB1 : B ≤ w1.heap.size := Nat.le_trans hBs k1.size
  have hin1 : w.heap.size < w1.heap.size := M1.out.inside
  clear HC HM XX KK k1 hBs
  go_wp2_with fail
  refine (bufWriteString_any w1.heap.size [] headL _ _ (bufFresh w1) (by rfl) (by decide)).mono ?_
  rintro e w2 ⟨rfl, b2, k2⟩
  have E2 : Hid (EncAt headL w1 w2) := Lib.hid ⟨b2, keepsAll (((Below.refl _ w1).alloc (Nat.le_refl _) _).trans k2)⟩
  clear b2 k2
  have M2 := Lib.hid (M1.out.keeps E2.out.keeps id)
  obtain ⟨a0, a1, a2, a3, a4, a5, a6, f0, f1, f2, f3, f4, f5, f6⟩ := seven M2.out
  clear f0 f1 f2 f3 f4 f5 f6 a3 a4 a5 a6 M2
  go_wp2_with fail
  clear a0 a1 a2
  refine (p1_1 (s.players.length : Int) _ E2.out ⟨by omega, by omega⟩ (by decide) rfl).mono ?_
  rintro e w3 ⟨rfl, e3, _⟩
  have E3 := Lib.hid e3
  have M3 := Lib.hid (M1.out.keeps e3.keeps id)
  clear e3 E2
  obtain ⟨a0, a1, a2, a3, a4, a5, a6, f0, f1, f2, f3, f4, f5, f6⟩ := seven M3.out
  clear f0 f1 f2 f3 f4 f5 f6 a3 a4 a5 a6 M3
  go_wp2_with fail
  clear a0 a1 a2
  go_loopw [36] (fun vi wr => ∃ i : Nat, i ≤ s.players.length ∧ vi = .int .i64 i ∧ Hid (EncAt (headL ++ be 1 s.players.length ++ (s.players.take i).flatMap plE) w1 wr)) (fun vi _ => s.players.length - (intOf vi).toNat)
  case atStart => exact ⟨0, by omega, rfl, by simpa using E3⟩
  case round =>
    clear E3
    obtain ⟨i, hi, rfl, HE⟩ := hrel
    by_cases hlt : i < s.players.length
    · obtain ⟨g, off, rfl, hg, c0, c1, c2⟩ := X1.out.players.cells i s.players[i] (List.getElem?_eq_getElem hlt)
      have d0 := (HE.out.keeps.cell (by omega) id).trans c0
      have d1 := (HE.out.keeps.cell (by omega) id).trans c1
      have d2 := (HE.out.keeps.cell (by omega) id).trans c2
      have hin := GG.out.pl _ (List.getElem_mem hlt)
      have HT := Lib.hid (take_snoc s.players i hlt)
      have hle := FF.out.1 i
      clear c0 c1 c2
      obtain ⟨p, hp⟩ : ∃ p, p = s.players[i] := ⟨_, rfl⟩
      rw [← hp] at d0 d1 d2 hin HT
      clear hp
      obtain ⟨⟨h1, h2⟩, h3, h4⟩ := hin
      go_wp2_with fail
      have EA := Lib.hid (HE.out.more ((Keeps.refl _ _).alloc (.cells #[.int .i32 p.life, .int .i32 p.energy, .bool p.out] 44)))
      have PW := Lib.hid (Whole.made wr 44 #[.int .i32 p.life, .int .i32 p.energy, .bool p.out])
      have hbw : w1.heap.size < wr.heap.size := HE.out.buf.lt
      refine (p4_2 p.life p.energy _ EA.out ⟨h1, h2⟩ ⟨h3, h4⟩ (by simp only [lens_all]; omega) (by simp)).mono ?_
      rintro e w4 ⟨rfl, e4, st4⟩
      have E4 := Lib.hid e4
      have d3 := (st4 _ _ _ (by omega) (by decide) PW.out).cellAt 2
      clear e4 st4 EA PW d0 d1 d2 HE
      cases hpo : p.out
      · rw [hpo] at d3
        have HL : Hid (headL ++ be 1 s.players.length ++ (s.players.take i).flatMap plE ++ (be 4 p.life ++ be 4 p.energy) ++ be 1 0 = headL ++ be 1 s.players.length ++ (s.players.take (i + 1)).flatMap plE) := Lib.hid (by rw [HT.out]; simp [plE, hpo, bit])
        clear hpo
        go_wp2_with fail
        clear d3
        refine (p1_1 0 _ E4.out ⟨by omega, by omega⟩ (by simp only [lens_all]; omega) rfl).mono ?_
        rintro e w5 ⟨rfl, e5, _⟩
        rw [HL.out] at e5
        have E5 := Lib.hid e5
        clear e5 E4
        go_wp2_with fail
        go_roundw
        case rel => exact ⟨i + 1, by omega, by go_num, E5⟩
        case measure => simp [intOf]; omega
      · rw [hpo] at d3
        have HL : Hid (headL ++ be 1 s.players.length ++ (s.players.take i).flatMap plE ++ (be 4 p.life ++ be 4 p.energy) ++ be 1 1 = headL ++ be 1 s.players.length ++ (s.players.take (i + 1)).flatMap plE) := Lib.hid (by rw [HT.out]; simp [plE, hpo, bit])
        clear hpo
        go_wp2_with fail
        clear d3
        refine (p1_1 1 _ E4.out ⟨by omega, by omega⟩ (by simp only [lens_all]; omega) rfl).mono ?_
        rintro e w5 ⟨rfl, e5, _⟩
        rw [HL.out] at e5
        have E5 := Lib.hid e5
        clear e5 E4
        go_wp2_with fail
        go_roundw
        case rel => exact ⟨i + 1, by omega, by go_num, E5⟩
        case measure => simp [intOf]; omega
    · obtain rfl : i = s.players.length := by omega
      have hle := FF.out.1 s.players.length
      rw [List.take_length] at HE hle
      have M4 := Lib.hid (M1.out.keeps HE.out.keeps id)
      obtain ⟨a0, a1, a2, a3, a4, a5, a6, f0, f1, f2, f3, f4, f5, f6⟩ := seven M4.out
      clear f0 f1 f2 f3 f4 f5 f6 a3 a4 a5 a6 M4
      go_wp2_with fail
      clear a0 a1 a2
      refine (p2_1 (s.cards.length : Int) _ HE.out ⟨by omega, by omega⟩ (by simp only [lens_all]; omega) rfl).mono ?_
      rintro e w3 ⟨rfl, e3, _⟩
      have E3 := Lib.hid e3
      have M3 := Lib.hid (M1.out.keeps e3.keeps id)
      clear e3 HE
      obtain ⟨a0, a1, a2, a3, a4, a5, a6, f0, f1, f2, f3, f4, f5, f6⟩ := seven M3.out
      clear f0 f1 f2 f3 f4 f5 f6 a3 a4 a5 a6 M3
      go_wp2_with fail
      clear a0 a1 a2
      obtain ⟨LB, hLB⟩ : ∃ z, z = headL ++ be 1 s.players.length ++ s.players.flatMap plE ++ be 2 s.cards.length := ⟨_, rfl⟩
      have hLn : LB.length ≤ 44 := by rw [hLB]; simp only [lens_all]; omega
      rw [← hLB] at E3
      have HLB := Lib.hid hLB
      clear hLB hle
      go_loopw [66] (fun vi wr => ∃ i : Nat, i ≤ s.cards.length ∧ vi = .int .i64 i ∧ Hid (EncAt (LB ++ (s.cards.take i).flatMap cdE) w1 wr)) (fun vi _ => s.cards.length - (intOf vi).toNat)
      case atStart => exact ⟨0, by omega, rfl, by simpa using E3⟩
      case round =>
        clear E3
        obtain ⟨i, hi, rfl, HE⟩ := hrel
        by_cases hlt : i < s.cards.length
        · obtain ⟨g, off, rfl, hg, c0, c1, c2, c3, c4, c5⟩ := X1.out.cards.cells i s.cards[i] (List.getElem?_eq_getElem hlt)
          have d0 := (HE.out.keeps.cell (by omega) id).trans c0
          have d1 := (HE.out.keeps.cell (by omega) id).trans c1
          have d2 := (HE.out.keeps.cell (by omega) id).trans c2
          have d3 := (HE.out.keeps.cell (by omega) id).trans c3
          have d4 := (HE.out.keeps.cell (by omega) id).trans c4
          have d5 := (HE.out.keeps.cell (by omega) id).trans c5
          have hin := GG.out.cd _ (List.getElem_mem hlt)
          have hts := take_snoc s.cards i hlt
          have hle := FF.out.2.1 i
          clear c0 c1 c2 c3 c4 c5
          obtain ⟨c, hc⟩ : ∃ c, c = s.cards[i] := ⟨_, rfl⟩
          rw [← hc] at d0 d1 d2 d3 d4 d5 hin hts
          clear hc
          have HL : Hid (LB ++ (s.cards.take i).flatMap cdE ++ be 2 c.kind ++ be 1 c.owner ++ (be 4 c.power ++ (be 4 c.health ++ (be 4 c.damage ++ be 4 c.marks))) = LB ++ (s.cards.take (i + 1)).flatMap cdE) := Lib.hid (by rw [hts]; simp [cdE])
          clear hts
          obtain ⟨⟨q1, q2⟩, ⟨q3, q4⟩, HQ⟩ := hin
          have HQ := Lib.hid HQ
          go_wp2_with fail
          have EA := Lib.hid (HE.out.more ((Keeps.refl _ _).alloc (.cells #[.int .i64 c.kind, .int .i64 c.owner, .int .i32 c.power, .int .i32 c.health, .int .i32 c.damage, .int .i32 c.marks] 42)))
          have PW := Lib.hid (Whole.made wr 42 #[.int .i64 c.kind, .int .i64 c.owner, .int .i32 c.power, .int .i32 c.health, .int .i32 c.damage, .int .i32 c.marks])
          have hbw : w1.heap.size < wr.heap.size := HE.out.buf.lt
          refine (p2_1 c.kind _ EA.out ⟨by omega, by omega⟩ (by simp only [lens_all]; omega) (by simp)).mono ?_
          rintro e w4 ⟨rfl, e4, st4⟩
          have E4 := Lib.hid e4
          have PW4 := Lib.hid (st4 _ _ _ (by omega) (by decide) PW.out)
          have d6 := PW4.out.cellAt 1
          clear e4 st4 EA PW d0 d1 d2 d3 d4 d5 HE
          go_wp2_with fail
          clear d6
          refine (p1_1 c.owner _ E4.out ⟨by omega, by omega⟩ (by simp only [lens_all]; omega) rfl).mono ?_
          rintro e w5 ⟨rfl, e5, st5⟩
          have E5 := Lib.hid e5
          have PW5 := Lib.hid (st5 _ _ _ (by omega) (by decide) PW4.out)
          have d2 := PW5.out.cellAt 2
          have d3 := PW5.out.cellAt 3
          have d4 := PW5.out.cellAt 4
          have d5 := PW5.out.cellAt 5
          clear e5 st5 PW4 PW5 E4
          go_wp2_with fail
          clear d2 d3 d4 d5
          refine (p4_4 c.power c.health c.damage c.marks _ E5.out HQ.out.1 HQ.out.2.1 HQ.out.2.2.1 HQ.out.2.2.2 (by simp only [lens_all]; omega) rfl).mono ?_
          rintro e w6 ⟨rfl, e6, _⟩
          rw [HL.out] at e6
          have E6 := Lib.hid e6
          clear e6 E5
          go_wp2_with fail
          go_roundw
          case rel => exact ⟨i + 1, by omega, by go_num, E6⟩
          case measure => simp [intOf]; omega
        · obtain rfl : i = s.cards.length := by omega
          have hle := FF.out.2.1 s.cards.length
          rw [List.take_length] at HE hle
          have M4 := Lib.hid (M1.out.keeps HE.out.keeps id)
          obtain ⟨a0, a1, a2, a3, a4, a5, a6, f0, f1, f2, f3, f4, f5, f6⟩ := seven M4.out
          clear f0 f1 f2 f3 f4 f5 f6 a3 a4 a5 a6 M4
          go_wp2_with fail
          clear a0 a1 a2
          obtain ⟨LC, hLC⟩ : ∃ z, z = LB ++ s.cards.flatMap cdE := ⟨_, rfl⟩
          have hLn : LC.length ≤ 4908 := by rw [hLC]; simp only [List.length_append]; omega
          rw [← hLC] at HE
          have HLC := Lib.hid hLC
          clear hLC hle
          go_loopw [97] (fun vi wr => ∃ i : Nat, i ≤ s.zones.length ∧ vi = .int .i64 i ∧ Hid (EncAt (LC ++ (s.zones.take i).flatMap znE) w1 wr)) (fun vi _ => s.zones.length - (intOf vi).toNat)
          case atStart => exact ⟨0, by omega, rfl, by simpa using HE⟩
          case round =>
            clear HE
            obtain ⟨i, hi, rfl, HE⟩ := hrel
            by_cases hlt : i < s.zones.length
            · obtain ⟨g, off, Ai, ci, rfl, hg, c0, hl⟩ := X1.out.zones i s.zones[i] (List.getElem?_eq_getElem hlt)
              have d0 := (HE.out.keeps.cell (by omega) id).trans c0
              have hin := GG.out.zn _ (List.getElem_mem hlt)
              have hrl := hn4 _ (List.getElem_mem hlt)
              have hts := take_snoc s.zones i hlt
              have hle := FF.out.2.2 i
              clear c0
              obtain ⟨z, hz⟩ : ∃ z, z = s.zones[i] := ⟨_, rfl⟩
              rw [← hz] at d0 hl hin hts hrl
              clear hz
              have HL : Hid (LC ++ (s.zones.take i).flatMap znE ++ be 2 z.length ++ z.flatMap (be 2) = LC ++ (s.zones.take (i + 1)).flatMap znE) := Lib.hid (by rw [hts]; simp [znE])
              have HI := Lib.hid hin.2
              have HZ := Lib.hid hl
              clear hts hin hl
              go_wp2_with fail
              clear d0
              refine (p2_1 (z.length : Int) _ HE.out ⟨by omega, by omega⟩ (by simp only [lens_all]; omega) rfl).mono ?_
              rintro e w4 ⟨rfl, e4, _⟩
              have E4 := Lib.hid e4
              clear e4 HE
              obtain ⟨LZ, hLZ⟩ : ∃ x, x = LC ++ (s.zones.take i).flatMap znE ++ be 2 z.length := ⟨_, rfl⟩
              have hLn : LZ.length ≤ 20000 := by rw [hLZ]; simp only [List.length_append, be_length]; omega
              rw [← hLZ] at E4 HL
              clear hLZ hle
              go_wp2_with fail
              go_loopw [109] (fun vi wr => ∃ k : Nat, k ≤ z.length ∧ vi = .int .i64 k ∧ Hid (EncAt (LZ ++ (z.take k).flatMap (be 2)) w1 wr)) (fun vi _ => z.length - (intOf vi).toNat)
              case atStart => exact ⟨0, by omega, rfl, by simpa using E4⟩
              case round =>
                clear E4
                obtain ⟨k, hk, rfl, HE⟩ := hrel
                by_cases hlk : k < z.length
                · obtain ⟨g2, off2, rfl, hg2, hc⟩ := HZ.out k (.int .i64 z[k]) (by simp [hlk])
                  have d0 := (HE.out.keeps.cell (by omega) id).trans hc
                  have hin := HI.out _ (List.getElem_mem hlk)
                  have hts := take_snoc z k hlk
                  have hle := flatMap_le (be 2) 2 (z.take k) (fun x _ => by rw [be_length]; omega)
                  rw [List.length_take] at hle
                  clear hc
                  obtain ⟨x, hx⟩ : ∃ x, x = z[k] := ⟨_, rfl⟩
                  rw [← hx] at d0 hin hts
                  clear hx
                  have HL2 : Hid (LZ ++ (z.take k).flatMap (be 2) ++ be 2 x = LZ ++ (z.take (k + 1)).flatMap (be 2)) := Lib.hid (by rw [hts]; simp)
                  obtain ⟨q1, q2⟩ := hin
                  clear hts
                  go_wp2_with fail
                  clear d0
                  refine (p2_1 x _ HE.out ⟨by omega, by omega⟩ (by simp only [lens_all]; omega) rfl).mono ?_
                  rintro e w5 ⟨rfl, e5, _⟩
                  rw [HL2.out] at e5
                  have E5 := Lib.hid e5
                  clear e5 HE
                  go_wp2_with fail
                  go_roundw
                  case rel => exact ⟨k + 1, by omega, by go_num, E5⟩
                  case measure => simp [intOf]; omega
                · obtain rfl : k = z.length := by omega
                  rw [List.take_length, HL.out] at HE
                  go_wp2_with fail
                  go_roundw
                  case rel => exact ⟨i + 1, by omega, by go_num, HE⟩
                  case measure => simp [intOf]; omega
            · obtain rfl : i = s.zones.length := by omega
              have hle := FF.out.2.2 s.zones.length
              rw [List.take_length] at HE hle
              have M4 := Lib.hid (M1.out.keeps HE.out.keeps id)
              obtain ⟨a0, a1, a2, a3, a4, a5, a6, f0, f1, f2, f3, f4, f5, f6⟩ := seven M4.out
              clear f0 f1 f2 f3 f4 f5 f6 M4
              obtain ⟨t1, t2⟩ := GG.out.turn
              obtain ⟨t3, t4⟩ := GG.out.whose
              obtain ⟨t5, t6⟩ := GG.out.fin
              obtain ⟨t7, t8⟩ := GG.out.winner
              go_wp2_with fail
              clear a0 a1 a2 a3 a4 a5 a6
              refine (p4_1 s.turn _ HE.out ⟨t1, t2⟩ (by simp only [lens_all]; omega) rfl).mono ?_
              rintro e w3 ⟨rfl, e3, _⟩
              have E3 := Lib.hid e3
              have M3 := Lib.hid (M1.out.keeps e3.keeps id)
              clear e3 HE
              obtain ⟨a0, a1, a2, a3, a4, a5, a6, f0, f1, f2, f3, f4, f5, f6⟩ := seven M3.out
              clear f0 f1 f2 f3 f4 f5 f6 M3
              go_wp2_with fail
              clear a0 a1 a2 a3 a4 a5 a6
              refine (p1_3 s.whose s.fin s.winner _ E3.out ⟨by omega, by omega⟩ ⟨by omega, by omega⟩ ⟨by omega, by omega⟩ (by simp only [lens_all]; omega) rfl).mono ?_
              rintro e w5 ⟨rfl, e5, _⟩
              have hI : LC ++ s.zones.flatMap znE ++ be 4 s.turn ++ (be 1 s.whose ++ (be 1 s.fin ++ be 1 s.winner)) = img s := by
                rw [HLC.out, HLB.out]; simp [img]
              rw [hI] at e5
              have E5 := Lib.hid e5
              clear e5 E3 hI
              go_wp2_with fail
              refine (bufBytes_any _ _ w5 E5.out.buf).mono ?_
              rintro e w6 ⟨v, rfl, own6, n6, rfl⟩
              obtain ⟨A6, cap6, rfl, _, _⟩ := own_slice own6
              have hpos : 0 < (img s).length := by simp only [img, lens_all]; omega
              have hle20 : (img s).length ≤ 20000 := FF2.out.img
              obtain ⟨g6, cs6, rfl, _, hw6, _, _, ht6⟩ := own_whole own6 hpos
              have HC := bytesClone_any g6 0 cap6 (img s) (w5.drewN n6) (fun j v hj => by
                rw [hw6.cellAt, Nat.zero_add, ← Array.getElem?_toList]
                rw [← ht6, List.getElem?_take] at hj
                split at hj
                · exact hj
                · cases hj) (by omega)
              have K6 : Hid (Keeps (fun _ => False) w (w5.drewN n6)) := Lib.hid ((K1.out.trans E5.out.keeps).drewN n6)
              clear own6 hw6 ht6 hpos E5
              go_wp2_with fail
              refine HC.mono ?_
              rintro e w7 ⟨v', rfl, own7, _, k7⟩
              obtain ⟨A7, cap7, rfl, _, _⟩ := own_slice own7
              go_wp2_with fail
              go_ret2
              exact ⟨A7, cap7, rfl, own_base own7 (fun b hb => Nat.le_trans K6.out.size (own7.lt b hb).1), K6.out.trans (keepsAll k7)⟩
end Go.Proofs.YthmfbcfbcookiaaGreatDoor
