/-
  The writer of chapter 19: a number put behind others; the rows of another writer stay. Conditions: lengths within 2 ^ 47.
-/
import Derived.Test.YtcmbdnjcfneinaaGreatDoorWrMb
import Derived.Test.YtcmbdnjcfneinaaGreatDoorMemM
namespace Go.Proofs.YtcmbdnjcfneinaaGreatDoor
open Go.RowKit
/-- Whatever is no part of the writer stays, and stays no part of it. -/
def Fine (b : Nat) (w wr : World) : Prop := ∀ j, j < w.heap.size → Off b j w → wr.heap[j]? = w.heap[j]? ∧ Off b j wr
theorem Fine.refl (b : Nat) (w : World) : Fine b w w := fun _ _ h => ⟨rfl, h⟩
theorem Fine.trans {b : Nat} {w w1 w2 : World} (h : Fine b w w1) (hs : w.heap.size ≤ w1.heap.size) (k : Fine b w1 w2) : Fine b w w2 := fun j hj ho => by
  obtain ⟨h1, h2⟩ := h j hj ho
  obtain ⟨h3, h4⟩ := k j (by omega) h2
  exact ⟨h3.trans h1, h4⟩
set_option maxRecDepth 4000 in
set_option maxHeartbeats 1000000 in
theorem numberJ_any (x : Int) (n b : Nat) (l : List Byte) (hl0 : l ≠ []) (w : World) (h : WrAt b l w w) (hn : n ≤ 8) (hlim : l.length + n ≤ 140737488355328) :
    Calls Tryz.prog 32 #[.pointer (some ⟨b, 0, none⟩), .int .i64 x, .int .i64 n] w fun e w' => e = .returned (.tuple #[]) ∧ WrAt b (l ++ be n x) w w' ∧ Fine b w w' := by
  have P0 : Hid (WrAt b l w w) := Lib.hid h
  clear h
  go_enter Tryz.func32, Tryz.ntmps32
  go_wp2_with fail
  go_loopw [2] (fun vi wr => ∃ i : Nat, i ≤ n ∧ vi = .int .i64 ((i : Int) - 1) ∧ Hid (WrAt b (l ++ (be n x).take (n - i)) w wr) ∧ Hid (Fine b w wr)) (fun vi _ => (intOf vi + 1).toNat)
  case atStart => exact ⟨n, by omega, rfl, Lib.hid (by rw [Nat.sub_self, List.take_zero, List.append_nil]; exact P0.out), Lib.hid (Fine.refl _ _)⟩
  case round =>
    clear P0
    obtain ⟨i, hi, rfl, HP, HJ⟩ := hrel
    by_cases hlt : 0 < i
    · have hge : (0 : Int) ≤ (i : Int) - 1 := by omega
      have hg0 := be_get n x (n - i) (by omega)
      rw [show n - 1 - (n - i) = i - 1 by omega] at hg0
      have HT : Hid (l ++ (be n x).take (n - (i - 1)) = l ++ (be n x).take (n - i) ++ [BitVec.ofInt 8 (x / 256 ^ (i - 1))]) := Lib.hid (by
        rw [show n - (i - 1) = n - i + 1 by omega, List.take_add_one, hg0, List.append_assoc]; rfl)
      have hlen : (l ++ (be n x).take (n - i)).length + 1 ≤ 140737488355328 := by
        rw [List.length_append, List.length_take, be_length]; omega
      have HLn := Lib.hid hlen
      clear hg0 hlen
      have hsh := shift_run x i hlt (by omega)
      go_wp2_with fail
      refine wp_region_held_drew (S := fun _ => True) (by kernel_rfl) trivial ?_
      intro hSn
      refine wpAnyH_take (i := 0) (v := ?v1) rfl (by kernel_rfl) (by kernel_rfl) (by kernel_rfl) (fun _ _ _ h => by first | exact h | exact absurd h.1 (fun e => by cases e)) (Or.inl ⟨by rfl, ?hy1⟩) (by assumption) ?rest1
      case hy1 =>
        intro w hSw
        clear hSw
        go_simp
        try with_reducible rfl
      go_simp
      refine wpAnyH_take (i := 1) (v := ?v2) rfl (by kernel_rfl) (by kernel_rfl) (by kernel_rfl) (fun _ _ _ h => by first | exact h | exact absurd h.1 (fun e => by cases e)) (Or.inl ⟨by rfl, ?hy2⟩) (by assumption) ?rest2
      case hy2 =>
        intro w hSw
        clear hSw
        go_simp
        try with_reducible rfl
      go_simp
      refine wpAnyH_take (i := 2) (v := ?v3) rfl (by kernel_rfl) (by kernel_rfl) (by kernel_rfl) (fun _ _ _ h => by first | exact h | exact absurd h.1 (fun e => by cases e)) (Or.inl ⟨by rfl, ?hy3⟩) (by assumption) ?rest3
      case hy3 =>
        intro w hSw
        clear hSw
        go_simp
        try with_reducible rfl
      go_simp
      refine wpAnyH_take (i := 3) (v := ?v4) rfl (by kernel_rfl) (by kernel_rfl) (by kernel_rfl) (fun _ _ _ h => by first | exact h | exact absurd h.1 (fun e => by cases e)) (Or.inl ⟨by rfl, ?hy4⟩) (by assumption) ?rest4
      case hy4 =>
        intro w hSw
        clear hSw
        go_simp
        try with_reducible rfl
      go_simp
      refine wpAnyH_take (i := 4) (v := ?v5) rfl (by kernel_rfl) (by kernel_rfl) (by kernel_rfl) (fun _ _ _ h => by first | exact h | exact absurd h.1 (fun e => by cases e)) (Or.inl ⟨by rfl, ?hy5⟩) (by assumption) ?rest5
      case hy5 =>
        intro w hSw
        clear hSw
        go_simp
        try with_reducible rfl
      go_simp
      refine wpAnyH_take (i := 5) (v := ?v6) rfl (by kernel_rfl) (by kernel_rfl) (by kernel_rfl) (fun _ _ _ h => by first | exact h | exact absurd h.1 (fun e => by cases e)) (Or.inl ⟨by rfl, ?hy6⟩) (by assumption) ?rest6
      case hy6 =>
        intro w hSw
        clear hSw
        go_simp
        try with_reducible rfl
      go_simp
      refine wpAnyH_take (i := 6) (v := ?v7) rfl (by kernel_rfl) (by kernel_rfl) (by kernel_rfl) (fun _ _ _ h => by first | exact h | exact absurd h.1 (fun e => by cases e)) (Or.inl ⟨by rfl, ?hy7⟩) (by assumption) ?rest7
      case hy7 =>
        intro w hSw
        clear hSw
        go_simp
        try with_reducible rfl
      go_simp
      refine wpAnyH_take (i := 7) (v := ?v8) rfl (by kernel_rfl) (by kernel_rfl) (by kernel_rfl) (fun _ _ _ h => by first | exact h | exact absurd h.1 (fun e => by cases e)) (Or.inl ⟨by rfl, ?hy8⟩) (by assumption) ?rest8
      case hy8 =>
        intro w hSw
        clear hSw
        go_simp
        try with_reducible rfl
      go_simp
      refine wpAnyH_ready (rs := [8]) (by kernel_rfl) (by simp) ?_
      refine AllReadyH.cons rfl (fun K hK => ?_) AllReadyH.nil
      go_simp
      have hcn : Hid (Calls Tryz.prog 39 #[.pointer (some ⟨b, 0, none⟩), .int .u8 (x / 256 ^ (i - 1) % 256)] wr.drew _) := Lib.hid (by
        rw [oct_at]
        exact byteJ_any b _ (fun e => hl0 (List.append_eq_nil_iff.1 e).1) (BitVec.ofInt 8 (x / 256 ^ (i - 1))) w _ (HP.out.past ((Keeps.refl _ wr).drew)) HLn.out)
      refine hcn.out.mono ?_
      rintro e w1 ⟨rfl, hw, hj⟩
      clear hcn
      have HJ1 : Hid (Fine b w w1) := Lib.hid (HJ.out.trans HP.out.below.size (fun j hjl ho => hj j hjl ho))
      refine hK.out _ _ trivial (fun hSn => ?_)
      clear hK K hSn
      go_simp
      refine wpAnyH_done (by kernel_rfl) ?_ _
      have HP1 := Lib.hid hw
      clear hw HP
      go_wp2_with fail
      go_roundw
      case rel => exact ⟨i - 1, by omega, by go_num, Lib.hid (by rw [HT.out]; exact HP1.out), HJ1⟩
      case measure => simp [intOf]; omega
    · have hi0 : Hid (i = 0) := Lib.hid (by omega)
      go_wp2_with fail
      go_end0
      refine ⟨rfl, ?_⟩
      have h := HP.out
      rw [hi0.out, Nat.sub_zero, List.take_of_length_le (by rw [be_length]; exact Nat.le_refl _)] at h
      exact ⟨h, HJ.out⟩
end Go.Proofs.YtcmbdnjcfneinaaGreatDoor
/-
  The writer of chapter 19: a section, whatever its body writes. Conditions: lengths within 2 ^ 47.
-/
namespace Go.Proofs.YtcmbdnjcfneinaaGreatDoor
open Go.RowKit
theorem WrAt.over {b b2 : Nat} {l m : List Byte} {w wr w1 w2 : World} (h : WrAt b l w wr) (h1 : Keeps (fun _ => False) wr w1) (hb : wr.heap.size ≤ b2) (h2 : WrAt b2 m w1 w2) : WrAt b l w w2 := by
  have hs := h1.size
  have hbel : Below wr.heap.size wr w2 := (h1.below (Nat.le_refl _) (fun _ e => e.elim)).trans (h2.below.mono hb)
  exact ⟨h.buf.old hbel, Nat.lt_of_lt_of_le h.size hbel.size, h.below.trans (hbel.mono (Nat.le_of_lt h.size)), fun g t cs hg ht hw => (h.kept g t cs hg ht hw).below hbel (h.kept g t cs hg ht hw).inside⟩
/-- What a writer's bytes say stays, where its row is no part of the other one. -/
theorem WrBuf.fine {b b2 : Nat} {m : List Byte} {w w1 : World} (h : WrBuf b2 m w) (hf : Fine b w w1) (hb : Off b b2 w) (hr : ∀ v k, w.cell? ⟨b2, 0, none⟩ = some v → v.ownBlock = some k → Off b k w) : WrBuf b2 m w1 := by
  obtain ⟨hB, v, lr, h3, own, hv⟩ := h
  have h0 : w.cell? ⟨b2, 0, none⟩ = some v := h3.c0
  refine ⟨hB, v, lr, h3.of_heap (hf b2 h3.lt hb).1, ?_, hv⟩
  refine ⟨own.1, ?_⟩
  rcases own.2 with e | ⟨g, cap, cur, rfl, hBg, hg, rest⟩
  · exact .inl e
  · exact .inr ⟨g, cap, cur, rfl, hBg, ((hf g (Array.getElem?_eq_some_iff.1 hg).1 (hr _ g h0 rfl)).1).trans hg, rest⟩
theorem bufRow {b b2 : Nat} {l m : List Byte} {w1 w2 : World} (h : WrBuf b l w1) (hbel : Below w1.heap.size w1 w2) (hb : w1.heap.size ≤ b2) (h2 : WrBuf b2 m w2) : Off b b2 w2 ∧ ∀ v k, w2.cell? ⟨b2, 0, none⟩ = some v → v.ownBlock = some k → Off b k w2 := by
  obtain ⟨hB, v, lr, h3, own, hv⟩ := h
  obtain ⟨hB2, v2, lr2, h32, own2, hv2⟩ := h2
  have hlt := h3.lt
  have h0 : w1.cell? ⟨b, 0, none⟩ = some v := h3.c0
  have h02 : w2.cell? ⟨b2, 0, none⟩ = some v2 := h32.c0
  have e0 : w2.cell? ⟨b, 0, none⟩ = some v := (World.cell?_of_block (hbel.block b hlt)).trans h0
  have hk : ∀ k, w1.heap.size ≤ k → Off b k w2 := fun k hk => ⟨by omega, fun u hu => by
    rw [e0] at hu
    injection hu with hu
    subst hu
    intro e
    rcases own.2 with ⟨e1, _⟩ | ⟨g, cap, cur, rfl, hBg, hg, rest⟩
    · rw [e1] at e; cases e
    · injection e with e
      have h5 := (Array.getElem?_eq_some_iff.1 hg).1
      have e2 : g = k := e
      omega⟩
  refine ⟨hk b2 hb, fun u k hu e => ?_⟩
  rw [h02] at hu
  injection hu with hu
  subst hu
  rcases own2.2 with ⟨e1, _⟩ | ⟨g, cap, cur, rfl, hBg, hg, rest⟩
  · rw [e1] at e; cases e
  · injection e with e
    have e2 : g = k := e
    exact hk k (by omega)
theorem numberJ_lit (N : Nat) (z : Int) (hz : (N : Int) = z) (x : Int) (b : Nat) (l : List Byte) (hl0 : l ≠ []) (w wr : World) (h : WrAt b l w wr) (hn : N ≤ 8) (hlim : l.length + N ≤ 140737488355328) :
    Calls Tryz.prog 32 #[.pointer (some ⟨b, 0, none⟩), .int .i64 x, .int .i64 z] wr fun e w' => e = .returned (.tuple #[]) ∧ WrAt b (l ++ be N x) w w' ∧ Fine b wr w' ∧ Below b wr w' := by
  subst hz
  exact (numberJ_any x N b l hl0 wr h.self hn hlim).mono fun _ _ ⟨he, hk, hf⟩ => ⟨he, h.trans hk, hf, hk.below⟩
/-- A row of another writer is put behind. -/
theorem wrRow_any (b b2 : Nat) (l m : List Byte) (v : Value) (w wr : World) (h : WrAt b l w wr) (own : wr.ownsRow b2 5 1 v m.length (bytesV m)) (hv : v.ownBlock ≠ some b) (hlim : l.length + m.length ≤ 140737488355328) :
    Calls Tryz.prog 94 #[.pointer (some ⟨b, 0, none⟩), v] wr fun e w' => (∃ n : Nat, e = .returned (.tuple #[.int .i64 n, .nilIface])) ∧ WrAt b (l ++ m) w w' := by
  obtain ⟨hl, ⟨rfl, h0⟩ | ⟨g, cap, cur, rfl, hB, hg, hnc, hcm, hcs, ht⟩⟩ := own
  · obtain rfl : m = [] := List.eq_nil_of_length_eq_zero h0
    refine (wrNil_any b l none 0 w wr h).mono fun e w' ⟨he, hk⟩ => ⟨⟨0, he⟩, ?_⟩
    rw [List.append_nil]
    exact hk
  · refine (wrWrite_any b g 0 cap l m w wr h (fun e => hv (by rw [← e]; rfl)) (fun j u hj => ?_) hlim).mono fun e w' ⟨he, hk⟩ => ⟨⟨_, he⟩, hk⟩
    rw [Nat.zero_add, Lib.cell_of_heap hg]
    have hjl : j < m.length := by have := (List.getElem?_eq_some_iff.1 hj).1; rwa [bytesV_length] at this
    have h2 : (cur.toList.take (m.length * 1))[j]? = some u := by rw [ht]; exact hj
    rw [List.getElem?_take, if_pos (by omega), Array.getElem?_toList] at h2
    exact h2
set_option maxRecDepth 4000 in
set_option maxHeartbeats 2000000 in
/-- A body: it puts its bytes behind what a fresh writer holds. -/
theorem section_any (id : Nat) (K : Nat) (caps : Array Value) (m : List Byte) (hK : ∀ args w, (callFunc K args).run Tryz.prog w = .ok (.enter K args) w) (b : Nat) (l : List Byte) (hl0 : l ≠ []) (w : World) (h : WrAt b l w w)
    (hbody : ∀ w1 b2, Keeps (fun _ => False) w w1 → b2 = w.heap.size → WrAt b2 [] w1 w1 → Calls Tryz.prog K (#[.pointer (some ⟨b2, 0, none⟩)] ++ caps) w1 fun e w' => e = .returned (.tuple #[]) ∧ WrAt b2 m w1 w') (hlim : l.length + m.length + 5 ≤ 140737488355328) :
    Calls Tryz.prog 30 #[.pointer (some ⟨b, 0, none⟩), .int .i64 id, .func (.func K) #[] caps] w fun e w' => e = .returned (.tuple #[]) ∧ WrAt b (l ++ secE (BitVec.ofNat 8 id) m) w w' := by
  have ka := (Keeps.refl (fun _ => False) w).alloc (.cells #[.slice none 0 0, .int .i64 0, .int .i8 0] 85)
  have HF : Hid (WrAt w.heap.size [] (w.alloc (.cells #[.slice none 0 0, .int .i64 0, .int .i8 0] 85)) (w.alloc (.cells #[.slice none 0 0, .int .i64 0, .int .i8 0] 85))) :=
    Lib.hid ⟨wrFresh w, by simp, Below.refl _ _, fun _ _ _ _ _ h => h⟩
  have HB := Lib.hid (hbody _ _ ka rfl HF.out)
  have HK := Lib.hid ka
  have HW := Lib.hid h
  have hbs := h.size
  clear ka h hbody
  go_enter Tryz.func30, Tryz.ntmps30
  go_wp2_with fail
  refine HB.out.mono ?_
  rintro e w2 ⟨rfl, hb⟩
  have HO : Hid (WrAt b l w w2) := Lib.hid (HW.out.over HK.out (Nat.le_refl _) hb)
  have HR := Lib.hid (bufRow HW.out.buf ((HK.out.below (Nat.le_refl _) (fun _ e => e.elim)).trans hb.below) (Nat.le_refl _) hb.buf)
  have HI := Lib.hid hb
  clear hb HB HF HK HW
  go_wp2_with fail
  refine (numberJ_lit 1 1 rfl (id : Int) b l hl0 w w2 HO.out (by decide) (by omega)).mono ?_
  rintro e w3 ⟨rfl, hp, hf, hbl⟩
  have HP := Lib.hid hp
  have HF := Lib.hid hf
  have hI3 : WrAt w.heap.size m w3 w3 := ⟨HI.out.buf.fine hf HR.out.1 HR.out.2, Nat.lt_of_lt_of_le HI.out.size hbl.size, Below.refl _ _, fun _ _ _ _ _ h => h⟩
  have HL := Lib.hid (wrLen_any w.heap.size m w3 w3 hI3)
  have HS3 := Lib.hid hbl.size
  clear hp hf hI3 HO hbl
  go_wp2_with fail
  refine HL.out.mono ?_
  rintro e w4 ⟨rfl, n4, rfl⟩
  clear HL
  have HP4 := Lib.hid (HP.out.past ((Keeps.refl _ w3).drewN n4))
  go_wp2_with fail
  refine (numberJ_lit 4 4 rfl (m.length : Int) b (l ++ be 1 id) (fun e => hl0 (List.append_eq_nil_iff.1 e).1) w _ HP4.out (by decide) (by rw [List.length_append, be_length]; omega)).mono ?_
  rintro e w5 ⟨rfl, hp, hf, hbl⟩
  have HP5 := Lib.hid hp
  have HF5 : Hid (Fine b w2 w5) := Lib.hid (HF.out.trans HS3.out hf)
  have HB5 : Hid (WrAt w.heap.size m w5 w5) := Lib.hid ⟨HI.out.buf.fine HF5.out HR.out.1 HR.out.2, Nat.lt_of_lt_of_le HI.out.size (Nat.le_trans HS3.out hbl.size), Below.refl _ _, fun _ _ _ _ _ h => h⟩
  clear hp hf HP4 hbl
  go_wp2_with fail
  refine wp_region_held_drew (S := fun _ => True) (by kernel_rfl) (trivial) ?_
  intro hSn
  refine wpAnyH_take (i := 0) (v := ?v1) rfl (by kernel_rfl) (by kernel_rfl) (by kernel_rfl) (fun _ _ _ h => by first | exact h | exact absurd h.1 (fun e => by cases e)) (Or.inl ⟨by rfl, ?hy1⟩) (by assumption) ?rest1
  case hy1 =>
    intro w hSw
    clear hSw
    go_simp
    try with_reducible rfl
  go_simp
  refine wpAnyH_take (i := 1) (v := ?v2) rfl (by kernel_rfl) (by kernel_rfl) (by kernel_rfl) (fun _ _ _ h => by first | exact h | exact absurd h.1 (fun e => by cases e)) (Or.inl ⟨by rfl, ?hy2⟩) (by assumption) ?rest2
  case hy2 =>
    intro w hSw
    clear hSw
    go_simp
    try with_reducible rfl
  go_simp
  refine wpAnyH_take (i := 2) (v := ?v3) rfl (by kernel_rfl) (by kernel_rfl) (by kernel_rfl) (fun _ _ _ h => by first | exact h | exact absurd h.1 (fun e => by cases e)) (Or.inl ⟨by rfl, ?hy3⟩) (by assumption) ?rest3
  case hy3 =>
    intro w hSw
    clear hSw
    go_simp
    try with_reducible rfl
  go_simp
  refine wpAnyH_take (i := 3) (v := ?v4) rfl (by kernel_rfl) (by kernel_rfl) (by kernel_rfl) (fun _ _ _ h => by first | exact h | exact absurd h.1 (fun e => by cases e)) (Or.inl ⟨by rfl, ?hy4⟩) (by assumption) ?rest4
  case hy4 =>
    intro w hSw
    clear hSw
    go_simp
    try with_reducible rfl
  go_simp
  refine wpAnyH_ready (rs := [4]) (by kernel_rfl) (by simp) ?_
  refine AllReadyH.cons rfl (fun K hK => ?_) AllReadyH.nil
  go_simp
  refine (wrBytes_any w.heap.size m w5 _ (HB5.out.past ((Keeps.refl _ w5).drew))).mono ?_
  rintro e w6 ⟨v, rfl, hown, hvb, n6, hw6⟩
  have HP6 : Hid (WrAt b (l ++ be 1 id ++ be 4 m.length) w w6) := Lib.hid (HP5.out.past (by rw [hw6]; exact ((Keeps.refl _ w5).drew).drewN n6))
  refine hK.out _ _ trivial (fun hSn2 => ?_)
  clear hK K hSn2 hvb
  have HN := Lib.hid hown
  clear hown hw6
  go_simp
  refine wpAnyH_ready (rs := [5]) (by kernel_rfl) (by simp) ?_
  refine AllReadyH.cons rfl (fun K hK => ?_) AllReadyH.nil
  go_simp
  refine (wrRow_any b w.heap.size _ m v w _ HP6.out HN.out (fun e => by have := (owns_inside HN.out e).1; omega) (by simp only [List.length_append, be_length]; omega)).mono ?_
  rintro e w7 ⟨⟨nn, rfl⟩, hp⟩
  refine hK.out _ _ trivial (fun hSn2 => ?_)
  clear hK K hSn2
  go_simp
  refine wpAnyH_done (by kernel_rfl) ?_ _
  have HZ : Hid (WrAt b (l ++ secE (BitVec.ofNat 8 id) m) w w7) := Lib.hid (by
    unfold secE
    simp only [List.append_assoc] at hp
    rw [show be 1 (id : Int) = [BitVec.ofNat 8 id] by
      show [] ++ [BitVec.ofInt 8 (id : Int)] = _
      rw [BitVec.ofInt_natCast]; rfl] at hp
    exact hp)
  clear hp HN
  go_wp2_with fail
  go_end0
  exact ⟨rfl, HZ.out⟩
end Go.Proofs.YtcmbdnjcfneinaaGreatDoor
/-
  The writer of chapter 19: the bodies of the four sections. Conditions: a pack of at most 10 ^ 12 bytes.
-/
namespace Go.Proofs.YtcmbdnjcfneinaaGreatDoor
open Go.RowKit
theorem strB_cells (t : List Oct) : Lib.byteCells (strB t).data.toList = bytesV t := by
  show Lib.byteCells ((t.map UInt8.ofBitVec).toArray).toList = _
  unfold Lib.byteCells bytesV
  rw [List.toList_toArray, List.map_map]
  rfl
theorem Lies.kept {w w' : World} {B : Nat} {A : Option Addr} {xs : List Value} (h : Lies w B A xs) (hb : Below B w w') : Lies w' B A xs := h.keep fun _ _ hg => hb.cell hg
theorem keepsBelow {B : Nat} {w w' : World} (hb : Below B w w') : Keeps (fun k => B ≤ k) w w' := ⟨hb.os, hb.tape, hb.output, hb.size, fun k _ hn => hb.block k (by omega)⟩
theorem body1_any (p : Pk) (Ai At Ak : Option Addr) (ci ct ck pb b : Nat) (w : World) (h : WrAt b [] w w) (hp : Whole w pb 26 (pkC p Ai At Ak ci ct ck)) :
    Calls Tryz.prog 31 #[.pointer (some ⟨b, 0, none⟩), .pointer (some ⟨pb, 0, none⟩)] w fun e w' => e = .returned (.tuple #[]) ∧ WrAt b (be 2 p.cards) w w' := by
  have HC := Lib.hid (number_lit 2 2 rfl p.cards b [] w w h (by decide) (by simp))
  unfold pkC at hp
  obtain ⟨a0, a1, a2, a3⟩ := four hp
  clear h hp
  go_enter Tryz.func31, Tryz.ntmps31
  go_wp2_with fail
  refine HC.out.mono ?_
  rintro e w1 ⟨rfl, hw⟩
  have HW := Lib.hid hw
  clear hw
  go_wp2_with fail
  go_end0
  exact ⟨rfl, HW.out⟩
theorem len_le_sum {α : Type} (l : List α) (f : α → Nat) (h : ∀ a, 1 ≤ f a) : l.length ≤ (l.map f).sum := by
  induction l with
  | nil => simp
  | cons a l ih => rw [List.length_cons, List.map_cons, List.sum_cons]; have := h a; omega
set_option maxRecDepth 4000 in
set_option maxHeartbeats 2000000 in
theorem body2_any (p : Pk) (Ai At Ak : Option Addr) (ci ct ck pb b : Nat) (w : World) (h : WrAt b [] w w) (hp : Whole w pb 26 (pkC p Ai At Ak ci ct ck)) (hpb : pb < b) (hx : Lies w b Ai (p.ints.map (Value.int .i64))) (hz : sizeP p ≤ 1000000000000) :
    Calls Tryz.prog 33 #[.pointer (some ⟨b, 0, none⟩), .pointer (some ⟨pb, 0, none⟩)] w fun e w' => e = .returned (.tuple #[]) ∧ WrAt b (intsE p.ints) w w' := by
  have HC := Lib.hid (number_lit 2 2 rfl (p.ints.length : Int) b [] w w h (by decide) (by simp))
  have HM := Lib.hid hp
  have HX := Lib.hid hx
  have HZ : Hid (8 * p.ints.length + (p.texts.map fun t => 1 + t.length).sum + (p.kinds.map kndSize).sum ≤ 1000000000000) := Lib.hid (by unfold sizeP at hz; omega)
  have hlen : p.ints.length ≤ 1000000000000 := by
    have := HZ.out
    omega

  unfold pkC at HM
  obtain ⟨a0, a1, a2, a3⟩ := four HM.out
  clear h hp hx hz
  go_enter Tryz.func33, Tryz.ntmps33
  go_wp2_with fail
  refine HC.out.mono ?_
  rintro e w1 ⟨rfl, hw⟩
  clear HC a0 a1 a2 a3
  have HP0 := Lib.hid hw
  obtain ⟨a0, a1, a2, a3⟩ := four (HM.out.below hw.below hpb)
  clear hw
  go_wp2_with fail
  clear a0 a1 a2 a3
  go_loopw [13] (fun vi wr => ∃ (i : Nat), i ≤ p.ints.length ∧ vi = .int .i64 i ∧ Hid (WrAt b (be 2 (p.ints.length : Int) ++ (p.ints.take i).flatMap (be 8)) w wr)) (fun vi _ => p.ints.length - (intOf vi).toNat)
  case atStart => exact ⟨0, by omega, rfl, Lib.hid (by simpa using HP0.out)⟩
  case round =>
    clear HP0
    obtain ⟨i, hi, rfl, HP⟩ := hrel
    by_cases hlt : i < p.ints.length
    · obtain ⟨g, off, hgA, hg, hc0⟩ := HX.out i (.int .i64 p.ints[i]) (by simp [hlt])
      have hc := (HP.out.below.cell (p := ⟨g, off + i, none⟩) hg).trans hc0
      have HN := Lib.hid (flat_next p.ints (be 8) i _ (List.getElem?_eq_getElem hlt))
      have hlen2 : (be 2 (p.ints.length : Int) ++ (p.ints.take i).flatMap (be 8)).length + 8 ≤ 140737488355328 := by
        rw [List.length_append, flat_be, List.length_take, be_length]
        have := HZ.out
        omega
      have HL2 := Lib.hid hlen2
      subst hgA
      clear hc0 hlen2
      generalize p.ints[i] = x at *
      go_wp2_with fail
      with_reducible refine (number_lit 8 8 rfl _ b _ w _ HP.out (by decide) HL2.out).mono ?_
      rintro e w2 ⟨rfl, hp⟩
      have HP1 : Hid (WrAt b (be 2 (p.ints.length : Int) ++ (p.ints.take (i + 1)).flatMap (be 8)) w w2) := Lib.hid (by
        rw [HN.out, ← List.append_assoc]; exact hp)
      clear hp HP HN HL2
      go_wp2_with fail
      go_roundw
      case rel => exact ⟨i + 1, by omega, by go_num, HP1⟩
      case measure => simp [intOf]; omega
    · obtain rfl : i = p.ints.length := by omega
      have HE : Hid (WrAt b (intsE p.ints) w wr) := Lib.hid (by
        have h := HP.out
        rw [List.take_length] at h
        exact h)
      clear HP
      go_wp2_with fail
      go_end0
      exact ⟨rfl, HE.out⟩
set_option maxRecDepth 4000 in
set_option maxHeartbeats 2000000 in
theorem body3_any (p : Pk) (Ai At Ak : Option Addr) (ci ct ck pb b : Nat) (w : World) (h : WrAt b [] w w) (hp : Whole w pb 26 (pkC p Ai At Ak ci ct ck)) (hpb : pb < b) (hx : Lies w b At (textsV p.texts)) (hz : sizeP p ≤ 1000000000000) :
    Calls Tryz.prog 34 #[.pointer (some ⟨b, 0, none⟩), .pointer (some ⟨pb, 0, none⟩)] w fun e w' => e = .returned (.tuple #[]) ∧ WrAt b (textsE p.texts) w w' := by
  have HC := Lib.hid (number_lit 2 2 rfl (p.texts.length : Int) b [] w w h (by decide) (by simp))
  have HM := Lib.hid hp
  have HX := Lib.hid hx
  have HZ : Hid (8 * p.ints.length + (p.texts.map fun t => 1 + t.length).sum + (p.kinds.map kndSize).sum ≤ 1000000000000) := Lib.hid (by unfold sizeP at hz; omega)
  have hlen : p.texts.length ≤ 1000000000000 := by
    have h1 := HZ.out
    have h2 : p.texts.length ≤ (p.texts.map fun t => 1 + t.length).sum := len_le_sum p.texts _ (fun t => Nat.le_add_right 1 _)
    omega

  unfold pkC at HM
  obtain ⟨a0, a1, a2, a3⟩ := four HM.out
  clear h hp hx hz
  go_enter Tryz.func34, Tryz.ntmps34
  go_wp2_with fail
  refine HC.out.mono ?_
  rintro e w1 ⟨rfl, hw⟩
  clear HC a0 a1 a2 a3
  have HP0 := Lib.hid hw
  obtain ⟨a0, a1, a2, a3⟩ := four (HM.out.below hw.below hpb)
  clear hw
  go_wp2_with fail
  clear a0 a1 a2 a3
  go_loopw [13] (fun vi wr => ∃ (i : Nat), i ≤ p.texts.length ∧ vi = .int .i64 i ∧ Hid (WrAt b (be 2 (p.texts.length : Int) ++ (p.texts.take i).flatMap textE) w wr)) (fun vi _ => p.texts.length - (intOf vi).toNat)
  case atStart => exact ⟨0, by omega, rfl, Lib.hid (by simpa using HP0.out)⟩
  case round =>
    clear HP0
    obtain ⟨i, hi, rfl, HP⟩ := hrel
    by_cases hlt : i < p.texts.length
    · obtain ⟨g, off, hgA, hg, hc0⟩ := HX.out i (.string (strB p.texts[i])) (by simp [textsV, hlt])
      have hc := (HP.out.below.cell (p := ⟨g, off + i, none⟩) hg).trans hc0
      have HN := Lib.hid (flat_next p.texts textE i _ (List.getElem?_eq_getElem hlt))
      have hsum := sum_at_le p.texts (fun t => 1 + t.length) i _ (List.getElem?_eq_getElem hlt)
      have hlen2 : (be 2 (p.texts.length : Int) ++ (p.texts.take i).flatMap textE).length = 2 + ((p.texts.take i).map fun t => 1 + t.length).sum := by
        rw [List.length_append, texts_length, be_length]
      obtain ⟨L, hL⟩ : ∃ z, z = be 2 (p.texts.length : Int) ++ (p.texts.take i).flatMap textE := ⟨_, rfl⟩
      rw [← hL] at HP hlen2
      have HL := Lib.hid hL
      subst hgA
      clear hc0 hL
      generalize p.texts[i] = x at *
      have hb : L.length + 1 + x.length ≤ 140737488355328 := by
        have := HZ.out
        omega
      have hsx := strB_size x
      have hxl : x.length ≤ 1000000000000 := by
        have := HZ.out
        omega
      clear hsum hlen2
      go_wp2_with fail
      with_reducible refine (number_lit 1 1 rfl _ b _ w _ HP.out (by decide) (by omega)).mono ?_
      rintro e w2 ⟨rfl, hp⟩
      have HQ := Lib.hid hp
      clear hp HP
      go_wp2_with fail
      refine (wrString_any b _ x (strB x) w _ HQ.out (strB_cells x) (by rw [List.length_append, be_length, hsx]; omega)).mono ?_
      rintro e w3 ⟨rfl, hp⟩
      have HP1 : Hid (WrAt b (be 2 (p.texts.length : Int) ++ (p.texts.take (i + 1)).flatMap textE) w w3) := Lib.hid (by
        rw [HN.out, ← List.append_assoc, ← HL.out]
        unfold textE
        rw [← List.append_assoc]
        exact hp)
      clear hp HQ HN HL
      go_wp2_with fail
      go_roundw
      case rel => exact ⟨i + 1, by omega, by go_num, HP1⟩
      case measure => simp [intOf]; omega
    · obtain rfl : i = p.texts.length := by omega
      have HE : Hid (WrAt b (textsE p.texts) w wr) := Lib.hid (by
        have h := HP.out
        rw [List.take_length] at h
        exact h)
      clear HP
      go_wp2_with fail
      go_end0
      exact ⟨rfl, HE.out⟩
set_option maxRecDepth 4000 in
set_option maxHeartbeats 2000000 in
theorem body4_any (p : Pk) (Ai At Ak : Option Addr) (ci ct ck pb b : Nat) (w : World) (h : WrAt b [] w w) (hp : Whole w pb 26 (pkC p Ai At Ak ci ct ck)) (hpb : pb < b) (hx : KdLies w b Ak p.kinds) (hm : ∀ k ∈ p.kinds, KndFew k) (hbw : b ≤ w.heap.size) (hz : sizeP p ≤ 1000000000000) :
    Calls Tryz.prog 35 #[.pointer (some ⟨b, 0, none⟩), .pointer (some ⟨pb, 0, none⟩)] w fun e w' => e = .returned (.tuple #[]) ∧ WrAt b (kindsE p.kinds) w w' := by
  have HC := Lib.hid (number_lit 2 2 rfl (p.kinds.length : Int) b [] w w h (by decide) (by simp))
  have HM := Lib.hid hp
  have HX := Lib.hid hx
  have HZ : Hid (8 * p.ints.length + (p.texts.map fun t => 1 + t.length).sum + (p.kinds.map kndSize).sum ≤ 1000000000000) := Lib.hid (by unfold sizeP at hz; omega)
  have hlen : p.kinds.length ≤ 1000000000000 := by
    have h1 := HZ.out
    have h2 : p.kinds.length ≤ (p.kinds.map kndSize).sum := len_le_sum p.kinds _ (fun t => by unfold kndSize; omega)
    omega
  have HF := Lib.hid hm
  unfold pkC at HM
  obtain ⟨a0, a1, a2, a3⟩ := four HM.out
  clear h hp hx hz hm
  go_enter Tryz.func35, Tryz.ntmps35
  go_wp2_with fail
  refine HC.out.mono ?_
  rintro e w1 ⟨rfl, hw⟩
  clear HC a0 a1 a2 a3
  have HP0 := Lib.hid hw
  obtain ⟨a0, a1, a2, a3⟩ := four (HM.out.below hw.below hpb)
  clear hw
  go_wp2_with fail
  clear a0 a1 a2 a3
  go_loopw [13] (fun vi wr => ∃ (i : Nat), i ≤ p.kinds.length ∧ vi = .int .i64 i ∧ Hid (WrAt b (be 2 (p.kinds.length : Int) ++ (p.kinds.take i).flatMap kndE) w wr)) (fun vi _ => p.kinds.length - (intOf vi).toNat)
  case atStart => exact ⟨0, by omega, rfl, Lib.hid (by simpa using HP0.out)⟩
  case round =>
    clear HP0
    obtain ⟨i, hi, rfl, HP⟩ := hrel
    by_cases hlt : i < p.kinds.length
    · obtain ⟨g, off, Bt, ct', Be, ce', hgA, hg, c0, c1, c2, c3, c4, c5, ht0, he0⟩ := HX.out i p.kinds[i] (List.getElem?_eq_getElem hlt)
      have hcell := fun o => HP.out.below.cell (p := ⟨g, o, none⟩) hg
      have d0 := (hcell _).trans c0
      have d1 := (hcell _).trans c1
      have d2 := (hcell _).trans c2
      have d3 := (hcell _).trans c3
      have d4 := (hcell _).trans c4
      have d5 := (hcell _).trans c5
      clear c0 c1 c2 c3 c4 c5 hcell
      have HN := Lib.hid (flat_next p.kinds kndE i _ (List.getElem?_eq_getElem hlt))
      have hsum := sum_at_le p.kinds kndSize i _ (List.getElem?_eq_getElem hlt)
      have hkf := HF.out _ (List.getElem_mem hlt)
      have hlen2 : (be 2 (p.kinds.length : Int) ++ (p.kinds.take i).flatMap kndE).length = 2 + ((p.kinds.take i).map kndSize).sum := by
        rw [List.length_append, kinds_length, be_length]
      obtain ⟨L, hL⟩ : ∃ z, z = be 2 (p.kinds.length : Int) ++ (p.kinds.take i).flatMap kndE := ⟨_, rfl⟩
      rw [← hL] at HP hlen2
      have HL := Lib.hid hL
      subst hgA
      clear hL
      generalize p.kinds[i] = x at *
      have hb : L.length + kndSize x ≤ 140737488355328 := by
        have := HZ.out
        omega
      have ka := (Keeps.refl (fun _ => False) wr).alloc (.cells (kndV x Bt Be ct' ce') 40)
      have hP1 := HP.out.past ka
      have hbs := HP.out.size
      have kb := keepsBelow hP1.below
      have CK := Lib.hid (kind_any x Bt Be ct' ce' b L _ hP1.self (ht0.kept hP1.below) (he0.keeps kb (fun k hk hk2 => by omega) hbw) hkf hb)
      have HP1 := Lib.hid hP1
      have HK := Lib.hid (Whole.made wr 40 (kndV x Bt Be ct' ce'))
      have hxt := hkf.tags
      have hxe := hkf.effs
      clear ka hP1 kb ht0 he0 hkf hsum hlen2 hb HP
      unfold kndV at *
      go_wp2_with fail
      refine CK.out.mono ?_
      rintro e w3 ⟨rfl, hp⟩
      have HP2 : Hid (WrAt b (be 2 (p.kinds.length : Int) ++ (p.kinds.take (i + 1)).flatMap kndE) w w3) := Lib.hid (by
        rw [HN.out, ← List.append_assoc, ← HL.out]
        exact HP1.out.trans hp)
      clear hp HP1 HN HL CK HK d0 d1 d2 d3 d4 d5
      go_wp2_with fail
      go_roundw
      case rel => exact ⟨i + 1, by omega, by go_num, HP2⟩
      case measure => simp [intOf]; omega
    · obtain rfl : i = p.kinds.length := by omega
      have HE : Hid (WrAt b (kindsE p.kinds) w wr) := Lib.hid (by
        have h := HP.out
        rw [List.take_length] at h
        exact h)
      clear HP
      go_wp2_with fail
      go_end0
      exact ⟨rfl, HE.out⟩
end Go.Proofs.YtcmbdnjcfneinaaGreatDoor
