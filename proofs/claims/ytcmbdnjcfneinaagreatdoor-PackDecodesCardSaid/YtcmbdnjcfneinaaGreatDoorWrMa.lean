/-
  The writer of chapter 19: its buffer, a number written: the walks. Conditions: lengths within 2 ^ 47.
-/
import Derived.Test.YtcmbdnjcfneinaaGreatDoorPMa
import Derived.Test.YtcmbdnjcfneinaaGreatDoorBytes
import Derived.Test.YtcmbdnjcfneinaaGreatDoorMemM
import Derived.Test.YtcmbdnjcfneinaaGreatDoorLay
import Derived.Shelf.Bytes.WriteByteAt
import Derived.Shelf.Bytes.WriteAt
import Derived.Shelf.Bytes.WriteStringAt
import Derived.Shelf.Bytes.LenAt
import Derived.Lib.BufferAt
import Derived.LoopN
import Derived.Deep.RegionHeld3
import Derived.BigQuiet
import Derived.Shelf.Bytes.TryGrowAt
import Derived.Laws.IdiomCopy
import Derived.Test.YtcmbdnjcfneinaaGreatDoorPkM
namespace Go.Proofs.YtcmbdnjcfneinaaGreatDoor
open Go.RowKit
/-- The block b is a writer that holds the bytes l; all its memory lies from b on. -/
abbrev WrBuf (b : Nat) (l : List Byte) (w : World) : Prop := LibA.IsBuffer 85 (fun _ => none) 5 b b 0 (bytesV l) w
theorem wrFresh (w : World) : WrBuf w.heap.size [] (w.alloc (.cells #[.slice none 0 0, .int .i64 0, .int .i8 0] 85)) := LibA.of_whole (Lib.fresh_isBuffer _ _ w)
theorem bytes_one (l : List Byte) : ∀ v ∈ bytesV l, v.oneCell' = true := fun v hv => by
  obtain ⟨c, _, rfl⟩ := List.mem_map.1 hv
  rfl
/-- Where a writer stands: the bytes so far, and what stays. -/
structure WrAt (b : Nat) (l : List Byte) (w wr : World) : Prop where
  buf : WrBuf b l wr
  size : b < wr.heap.size
  below : Below b w wr
  kept : ∀ g t cs, g ≠ b → t ≠ 5 → Whole w g t cs → Whole wr g t cs
theorem kept_wholeW {b g : Nat} {t : TypeId} {cs : Array Value} {w w' : World} (h : Lib.OthersKept 5 (some b) w w') (hg : g ≠ b) (ht : t ≠ 5) (hw : Whole w g t cs) : Whole w' g t cs :=
  h g _ hw (fun e => hg (by injection e)) (fun _ _ e => ht (by injection e))
theorem WrAt.wrote {b : Nat} {l m : List Byte} {w wr w' : World} (h : WrAt b l w wr) (hb : WrBuf b m w') (hk : Below b wr w') (ho : Lib.OthersKept 5 (some b) wr w') : WrAt b m w w' :=
  ⟨hb, Nat.lt_of_lt_of_le h.size hk.size, h.below.trans hk, fun g t cs hg ht hw => kept_wholeW ho hg ht (h.kept g t cs hg ht hw)⟩
theorem WrAt.past {b : Nat} {l : List Byte} {w wr w' : World} (h : WrAt b l w wr) (hk : Keeps (fun _ => False) wr w') : WrAt b l w w' :=
  ⟨h.buf.old (hk.below (Nat.le_refl _) (fun _ e => e.elim)), Nat.lt_of_lt_of_le h.size hk.size, h.below.trans (hk.below (Nat.le_of_lt h.size) (fun _ e => e.elim)), fun g t cs hg ht hw => (h.kept g t cs hg ht hw).keeps hk id⟩
theorem wrByte_any (b : Nat) (l : List Byte) (c : Byte) (z : Int) (w wr : World) (h : WrAt b l w wr) (hz : z = c.toNat) (hlim : l.length + 1 ≤ 140737488355328) :
    Calls Tryz.prog 39 #[.pointer (some ⟨b, 0, none⟩), .int .u8 z] wr fun e w' => e = .returned .nilIface ∧ WrAt b (l ++ [c]) w w' := by
  subst hz
  refine (Any.Buffer_WriteByte_at Tryz.layNm179 85 (fun _ => none) b b 0 (bytesV l) c.toNat wr h.buf (Nat.le_of_lt h.size) (bytes_one l) (by rw [bytesV_length]; exact hlim)).mono ?_
  rintro e w' ⟨he, hb, hk, ho⟩
  refine ⟨he, h.wrote ?_ hk ho⟩
  unfold WrBuf
  rw [bytesV_append]
  exact hb
theorem be_get (n : Nat) : ∀ (x : Int) (k : Nat), k < n → (be n x)[k]? = some (BitVec.ofInt 8 (x / 256 ^ (n - 1 - k))) := by
  induction n with
  | zero => intro x k h; omega
  | succ n ih =>
    intro x k h
    rw [be]
    by_cases hk : k < n
    · rw [List.getElem?_append_left (by rw [be_length]; exact hk), ih _ k hk, Int.ediv_ediv_of_nonneg (by decide), show n + 1 - 1 - k = n - 1 - k + 1 by omega, Int.pow_succ, Int.mul_comm]
    · have e : k = n := by omega
      subst e
      rw [List.getElem?_append_right (by rw [be_length]; omega), be_length]
      simp
theorem shift_run (x : Int) (i : Nat) (h0 : 0 < i) (h8 : i ≤ 8) (w : World) : (Op.shift .shr .i64 x .i64 (IntKind.i64.wrap (8 * ((i : Int) - 1)))).run Tryz.prog w = .ok (.int .i64 (x / 256 ^ (i - 1))) w := by
  have e : IntKind.i64.wrap (8 * ((i : Int) - 1)) = ((8 * (i - 1) : Nat) : Int) := by
    have h : i = 1 ∨ i = 2 ∨ i = 3 ∨ i = 4 ∨ i = 5 ∨ i = 6 ∨ i = 7 ∨ i = 8 := by omega
    rcases h with rfl | rfl | rfl | rfl | rfl | rfl | rfl | rfl <;> rfl
  rw [e]
  unfold Op.shift
  rw [if_neg (by omega)]
  have e2 : min (((8 * (i - 1) : Nat) : Int)).toNat IntKind.i64.bits = 8 * (i - 1) := by
    show min _ 64 = _
    omega
  simp only [e2]
  have e3 : x.fdiv (2 ^ (8 * (i - 1))) = x / 256 ^ (i - 1) := by
    rw [Int.fdiv_eq_ediv_of_nonneg _ (Int.le_of_lt (Int.pow_pos (by decide))), Int.pow_mul]
    rfl
  rw [e3]
  rfl
theorem oct_at (y : Int) : y % 256 = (BitVec.ofInt 8 y).toNat := (oct_ofInt y).symm
set_option maxRecDepth 4000 in
set_option maxHeartbeats 1000000 in
theorem number_any (x : Int) (n b : Nat) (l : List Byte) (w : World) (h : WrAt b l w w) (hn : n ≤ 8) (hlim : l.length + n ≤ 140737488355328) :
    Calls Tryz.prog 32 #[.pointer (some ⟨b, 0, none⟩), .int .i64 x, .int .i64 n] w fun e w' => e = .returned (.tuple #[]) ∧ WrAt b (l ++ be n x) w w' := by
  have P0 : Hid (WrAt b l w w) := Lib.hid h
  clear h
  go_enter Tryz.func32, Tryz.ntmps32
  go_wp2_with fail
  go_loopw [2] (fun vi wr => ∃ i : Nat, i ≤ n ∧ vi = .int .i64 ((i : Int) - 1) ∧ Hid (WrAt b (l ++ (be n x).take (n - i)) w wr)) (fun vi _ => (intOf vi + 1).toNat)
  case atStart => exact ⟨n, by omega, rfl, Lib.hid (by rw [Nat.sub_self, List.take_zero, List.append_nil]; exact P0.out)⟩
  case round =>
    clear P0
    obtain ⟨i, hi, rfl, HP⟩ := hrel
    by_cases hlt : 0 < i
    · have hge : (0 : Int) ≤ (i : Int) - 1 := by omega
      have hg0 := be_get n x (n - i) (by omega)
      rw [show n - 1 - (n - i) = i - 1 by omega] at hg0
      have HT : Hid (l ++ (be n x).take (n - (i - 1)) = l ++ (be n x).take (n - i) ++ [BitVec.ofInt 8 (x / 256 ^ (i - 1))]) := Lib.hid (by
        rw [show n - (i - 1) = n - i + 1 by omega, List.take_add_one, hg0, List.append_assoc]; rfl)
      have hlen : (l ++ (be n x).take (n - i)).length + 1 ≤ 140737488355328 := by
        rw [List.length_append, List.length_take, be_length]; omega
      have HLn := Lib.hid hlen
      clear hg0 hlen
      have hsh := shift_run x i hlt (by omega)
      go_wp2_with fail
      refine wp_region_held_drew (S := fun _ => True) (by kernel_rfl) trivial ?_
      intro hSn
      refine wpAnyH_take (i := 0) (v := ?v1) rfl (by kernel_rfl) (by kernel_rfl) (by kernel_rfl) (fun _ _ _ h => by first | exact h | exact absurd h.1 (fun e => by cases e)) (Or.inl ⟨by rfl, ?hy1⟩) (by assumption) ?rest1
      case hy1 =>
        intro w hSw
        clear hSw
        go_simp
        try with_reducible rfl
      go_simp
      refine wpAnyH_take (i := 1) (v := ?v2) rfl (by kernel_rfl) (by kernel_rfl) (by kernel_rfl) (fun _ _ _ h => by first | exact h | exact absurd h.1 (fun e => by cases e)) (Or.inl ⟨by rfl, ?hy2⟩) (by assumption) ?rest2
      case hy2 =>
        intro w hSw
        clear hSw
        go_simp
        try with_reducible rfl
      go_simp
      refine wpAnyH_take (i := 2) (v := ?v3) rfl (by kernel_rfl) (by kernel_rfl) (by kernel_rfl) (fun _ _ _ h => by first | exact h | exact absurd h.1 (fun e => by cases e)) (Or.inl ⟨by rfl, ?hy3⟩) (by assumption) ?rest3
      case hy3 =>
        intro w hSw
        clear hSw
        go_simp
        try with_reducible rfl
      go_simp
      refine wpAnyH_take (i := 3) (v := ?v4) rfl (by kernel_rfl) (by kernel_rfl) (by kernel_rfl) (fun _ _ _ h => by first | exact h | exact absurd h.1 (fun e => by cases e)) (Or.inl ⟨by rfl, ?hy4⟩) (by assumption) ?rest4
      case hy4 =>
        intro w hSw
        clear hSw
        go_simp
        try with_reducible rfl
      go_simp
      refine wpAnyH_take (i := 4) (v := ?v5) rfl (by kernel_rfl) (by kernel_rfl) (by kernel_rfl) (fun _ _ _ h => by first | exact h | exact absurd h.1 (fun e => by cases e)) (Or.inl ⟨by rfl, ?hy5⟩) (by assumption) ?rest5
      case hy5 =>
        intro w hSw
        clear hSw
        go_simp
        try with_reducible rfl
      go_simp
      refine wpAnyH_take (i := 5) (v := ?v6) rfl (by kernel_rfl) (by kernel_rfl) (by kernel_rfl) (fun _ _ _ h => by first | exact h | exact absurd h.1 (fun e => by cases e)) (Or.inl ⟨by rfl, ?hy6⟩) (by assumption) ?rest6
      case hy6 =>
        intro w hSw
        clear hSw
        go_simp
        try with_reducible rfl
      go_simp
      refine wpAnyH_take (i := 6) (v := ?v7) rfl (by kernel_rfl) (by kernel_rfl) (by kernel_rfl) (fun _ _ _ h => by first | exact h | exact absurd h.1 (fun e => by cases e)) (Or.inl ⟨by rfl, ?hy7⟩) (by assumption) ?rest7
      case hy7 =>
        intro w hSw
        clear hSw
        go_simp
        try with_reducible rfl
      go_simp
      refine wpAnyH_take (i := 7) (v := ?v8) rfl (by kernel_rfl) (by kernel_rfl) (by kernel_rfl) (fun _ _ _ h => by first | exact h | exact absurd h.1 (fun e => by cases e)) (Or.inl ⟨by rfl, ?hy8⟩) (by assumption) ?rest8
      case hy8 =>
        intro w hSw
        clear hSw
        go_simp
        try with_reducible rfl
      go_simp
      refine wpAnyH_ready (rs := [8]) (by kernel_rfl) (by simp) ?_
      refine AllReadyH.cons rfl (fun K hK => ?_) AllReadyH.nil
      go_simp
      refine (wrByte_any b _ (BitVec.ofInt 8 (x / 256 ^ (i - 1))) _ w _ (HP.out.past ((Keeps.refl _ wr).drew)) (oct_at _) HLn.out).mono ?_
      rintro e w1 ⟨rfl, hw⟩
      refine hK.out _ _ trivial (fun hSn => ?_)
      clear hK K hSn
      go_simp
      refine wpAnyH_done (by kernel_rfl) ?_ _
      have HP1 := Lib.hid hw
      clear hw HP
      go_wp2_with fail
      go_roundw
      case rel => exact ⟨i - 1, by omega, by go_num, Lib.hid (by rw [HT.out]; exact HP1.out)⟩
      case measure => simp [intOf]; omega
    · have hi0 : Hid (i = 0) := Lib.hid (by omega)
      go_wp2_with fail
      go_end0
      refine ⟨rfl, ?_⟩
      have h := HP.out
      rw [hi0.out, Nat.sub_zero, List.take_of_length_le (by rw [be_length]; exact Nat.le_refl _)] at h
      exact h
end Go.Proofs.YtcmbdnjcfneinaaGreatDoor
/-
  The writer of chapter 19: texts and bytes written, its length, its bytes. Conditions: lengths within 2 ^ 47.
-/
namespace Go.Proofs.YtcmbdnjcfneinaaGreatDoor
open Go.RowKit
theorem wrString_any (b : Nat) (l m : List Byte) (s : ByteArray) (w wr : World) (h : WrAt b l w wr) (hs : Lib.byteCells s.data.toList = bytesV m) (hlim : l.length + s.size ≤ 140737488355328) :
    Calls Tryz.prog 29 #[.pointer (some ⟨b, 0, none⟩), .string s] wr fun e w' => e = .returned (.tuple #[.int .i64 s.size, .nilIface]) ∧ WrAt b (l ++ m) w w' := by
  refine (Any.Buffer_WriteString_at Tryz.layNm178 85 (fun _ => none) b b 0 (bytesV l) s wr h.buf (Nat.le_of_lt h.size) (bytes_one l) (by rw [bytesV_length]; exact hlim)).mono ?_
  rintro e w' ⟨he, hb, hk, ho⟩
  refine ⟨he, h.wrote ?_ hk ho⟩
  rw [hs] at hb
  unfold WrBuf
  rw [bytesV_append]
  exact hb
theorem wrWrite_any (b g off cap : Nat) (l m : List Byte) (w wr : World) (h : WrAt b l w wr) (hg : g ≠ b) (hm : ∀ j v, (bytesV m)[j]? = some v → wr.cell? ⟨g, off + j, none⟩ = some v) (hlim : l.length + m.length ≤ 140737488355328) :
    Calls Tryz.prog 94 #[.pointer (some ⟨b, 0, none⟩), .slice (some ⟨g, off, none⟩) m.length cap] wr fun e w' => e = .returned (.tuple #[.int .i64 m.length, .nilIface]) ∧ WrAt b (l ++ m) w w' := by
  refine (Any.Buffer_Write_at Tryz.layNm180 85 (fun _ => none) b b 0 (bytesV l) (bytesV m) ⟨g, off, none⟩ m.length cap wr h.buf (Nat.le_of_lt h.size) (bytes_one l) (bytesV_length m) hg (fun j v hj => ?_) (bytes_one m) (by rw [bytesV_length]; exact hlim)).mono ?_
  · rw [Lib.addr_add]
    exact hm j v hj
  · rintro e w' ⟨he, hb, hk, ho⟩
    refine ⟨he, h.wrote ?_ hk ho⟩
    unfold WrBuf
    rw [bytesV_append]
    exact hb
theorem wrLen_any (b : Nat) (l : List Byte) (w wr : World) (h : WrAt b l w wr) :
    Calls Tryz.prog 93 #[.pointer (some ⟨b, 0, none⟩)] wr fun e w' => e = .returned (.int .i64 l.length) ∧ ∃ n, w' = wr.drewN n := by
  refine (Any.Buffer_Len_at Tryz.layNm181 85 (fun _ => none) b b 0 (bytesV l) wr h.buf).mono ?_
  rintro e w' ⟨he, hn⟩
  rw [bytesV_length] at he
  exact ⟨he, hn⟩
theorem wrBytes_any (b : Nat) (l : List Byte) (w wr : World) (h : WrAt b l w wr) :
    Calls Tryz.prog 38 #[.pointer (some ⟨b, 0, none⟩)] wr fun e w' => ∃ v, e = .returned v ∧ w'.ownsRow b 5 1 v l.length (bytesV l) ∧ v.ownBlock ≠ some b ∧ ∃ n, w' = wr.drewN n := by
  obtain ⟨hB, v, lr, h3, own, hv⟩ := h.buf
  rw [bytesV_length] at own
  have c0 := h3.c0
  have c1 : wr.cell? ⟨b, 1, none⟩ = some (.int .i64 0) := h3.c1
  have HO := Lib.hid own
  have HV := Lib.hid hv
  clear h3 hB hv h
  obtain ⟨hl, hc | ⟨g, cap, cur, hc, hBg, hg, hnc, hcm, _, _⟩⟩ := own
  · obtain ⟨rfl, h0⟩ := hc
    clear hl h0
    go_enter Tryz.func38, Tryz.ntmps38
    go_wp2_with fail
    go_quiet (fail)
    go_wp2_with fail
    go_ret
    exact ⟨_, rfl, HO.out, HV.out, _, rfl⟩
  · subst hc
    have hcm' := hcm
    unfold maxLen at hcm'
    clear hl hBg hg
    go_enter Tryz.func38, Tryz.ntmps38
    go_wp2_with fail
    go_quiet (fail)
    go_wp2_with fail
    go_ret
    exact ⟨_, rfl, HO.out, HV.out, _, rfl⟩
end Go.Proofs.YtcmbdnjcfneinaaGreatDoor
/-
  The writer of chapter 19: nothing written. Conditions: none.
-/
namespace Go.Proofs.YtcmbdnjcfneinaaGreatDoor
open Go.RowKit
set_option maxRecDepth 10000 in
theorem wrNil_any (b : Nat) (l : List Byte) (A : Option Addr) (c : Nat) (w wr : World) (h : WrAt b l w wr) :
    Calls Tryz.prog 94 #[.pointer (some ⟨b, 0, none⟩), .slice A 0 c] wr fun e w' => e = .returned (.tuple #[.int .i64 0, .nilIface]) ∧ WrAt b l w w' := by
  obtain ⟨hB, v, lr, h3, own, hv⟩ := h.buf
  rw [bytesV_length] at own
  obtain ⟨ao, cap, rfl, hn, hcm⟩ : ∃ ao cap, v = .slice ao l.length cap ∧ l.length ≤ cap ∧ cap ≤ maxLen := by
    obtain ⟨hl, hc | ⟨g, cap, cur, hc, hBg, hg, hnc, hcm, _, _⟩⟩ := own
    · obtain ⟨hc, h0⟩ := hc
      exact ⟨none, 0, by rw [hc]; first | rw [h0] | (rw [show l.length = 0 by omega]), by omega, by unfold maxLen; omega⟩
    · exact ⟨_, cap, hc, hnc, hcm⟩
  have c2 : wr.cell? ⟨b, 2, none⟩ = some (.int .i8 lr) := h3.c2
  have f2 := h3.f 2
  have H3 := Lib.hid (h3.set2 (.int .i8 0))
  have HO := Lib.hid own
  have HV := Lib.hid hv
  have HW := Lib.hid h
  have hcm' := hcm
  unfold maxLen at hcm'
  clear h3 own hv h hB
  go_enter Tryz.func94, Tryz.ntmps94
  go_wp2_with fail
  refine (Any.Buffer_tryGrow_room_at Tryz.layNm251 b 0 ao l.length cap 0 _ H3.out.c0 (H3.out.f 0) hn hcm (Nat.zero_le _)).mono ?_
  rintro e w2 ⟨rfl, hw2⟩
  have H4 := Lib.hid (H3.out.set0 (.slice ao (l.length + 0) cap))
  rw [← hw2, Nat.add_zero] at H4
  have HE := Lib.hid hw2
  have c0 := H4.out.c0
  clear c2 f2 hw2
  have hcp := fun (D : Option Addr) (dc : Nat) (W : World) => run_copy_none (P := Tryz.prog) W 32 32 3 5 D A 0 dc 0 c Tryz.underlying32 (by kernel_rfl) rfl
  have hk : Keeps (fun k => k = b) wr w2 := by
    rw [HE.out]
    exact ((Keeps.refl (fun k => k = b) wr).setCell (p := ⟨b, 0 + 2, none⟩) (fun _ => rfl) _).setCell (p := ⟨b, 0, none⟩) (fun _ => rfl) _
  have hown : w2.ownsRow b 5 1 (.slice ao l.length cap) l.length (bytesV l) := by
    refine ⟨HO.out.1, ?_⟩
    rcases HO.out.2 with h | ⟨g, cap', cur, he, hb, hg, rest⟩
    · exact .inl h
    · exact .inr ⟨g, cap', cur, he, hb, (hk.block g (Array.getElem?_eq_some_iff.1 hg).1 (fun e => HV.out (by rw [he, e]; rfl))).trans hg, rest⟩
  have HF : Hid (WrAt b l w w2) := Lib.hid (HW.out.wrote ⟨Nat.le_refl _, _, _, H4.out, by rw [bytesV_length]; exact hown, HV.out⟩
    (by rw [HE.out]; exact ((Below.refl b wr).setCell (Nat.le_refl b) _).setCell (Nat.le_refl b) _)
    (fun g o hg hne _ => (hk.block g (Array.getElem?_eq_some_iff.1 hg).1 (fun e => hne (by rw [e]))).trans hg))
  clear hk hown
  go_wp2_with fail
  all_goals (go_ret2; exact ⟨rfl, HF.out⟩)
/-- Bytes written, an empty list of whatever address among them. -/
theorem wrAny_any (b : Nat) (l m : List Byte) (A : Option Addr) (cap : Nat) (w wr : World) (h : WrAt b l w wr) (hl : Lies wr b A (bytesV m)) (hlim : l.length + m.length ≤ 140737488355328) :
    Calls Tryz.prog 94 #[.pointer (some ⟨b, 0, none⟩), .slice A m.length cap] wr fun e w' => (∃ n : Nat, e = .returned (.tuple #[.int .i64 n, .nilIface])) ∧ WrAt b (l ++ m) w w' := by
  cases m with
  | nil =>
    refine (wrNil_any b l A cap w wr h).mono fun e w' ⟨he, hk⟩ => ⟨⟨0, he⟩, ?_⟩
    rw [List.append_nil]
    exact hk
  | cons c m =>
    obtain ⟨g, off, rfl, hg, _⟩ := hl 0 (byteV c) rfl
    refine (wrWrite_any b g off cap l (c :: m) w wr h (by omega) (fun j v hj => ?_) hlim).mono fun e w' ⟨he, hk⟩ => ⟨⟨_, he⟩, hk⟩
    obtain ⟨g', off', e, _, hc⟩ := hl j v hj
    injection e with e
    injection e with e1 e2 _
    subst e1 e2
    exact hc
end Go.Proofs.YtcmbdnjcfneinaaGreatDoor
/-
  The writer of chapter 19: a number behind others, whatever came ahead. Conditions: lengths within 2 ^ 47.
-/
namespace Go.Proofs.YtcmbdnjcfneinaaGreatDoor
open Go.RowKit
theorem WrAt.self {b : Nat} {l : List Byte} {w wr : World} (h : WrAt b l w wr) : WrAt b l wr wr := ⟨h.buf, h.size, Below.refl _ _, fun _ _ _ _ _ h => h⟩
theorem WrAt.trans {b : Nat} {l m : List Byte} {w wr w' : World} (h : WrAt b l w wr) (k : WrAt b m wr w') : WrAt b m w w' :=
  ⟨k.buf, k.size, h.below.trans k.below, fun g t cs hg ht hw => k.kept g t cs hg ht (h.kept g t cs hg ht hw)⟩
theorem number_at (x : Int) (n b : Nat) (l : List Byte) (w wr : World) (h : WrAt b l w wr) (hn : n ≤ 8) (hlim : l.length + n ≤ 140737488355328) :
    Calls Tryz.prog 32 #[.pointer (some ⟨b, 0, none⟩), .int .i64 x, .int .i64 n] wr fun e w' => e = .returned (.tuple #[]) ∧ WrAt b (l ++ be n x) w w' :=
  (number_any x n b l wr h.self hn hlim).mono fun _ _ ⟨he, hk⟩ => ⟨he, h.trans hk⟩
theorem number_lit (N : Nat) (z : Int) (hz : (N : Int) = z) (x : Int) (b : Nat) (l : List Byte) (w wr : World) (h : WrAt b l w wr) (hn : N ≤ 8) (hlim : l.length + N ≤ 140737488355328) :
    Calls Tryz.prog 32 #[.pointer (some ⟨b, 0, none⟩), .int .i64 x, .int .i64 z] wr fun e w' => e = .returned (.tuple #[]) ∧ WrAt b (l ++ be N x) w w' := by
  subst hz
  exact number_at x N b l w wr h hn hlim
/-- A slot written: one byte. -/
theorem flat_next {α : Type} (l : List α) (f : α → List Oct) (i : Nat) (x : α) (h : l[i]? = some x) : (l.take (i + 1)).flatMap f = (l.take i).flatMap f ++ f x := by
  rw [List.take_add_one, h]; simp
set_option maxRecDepth 4000 in
set_option maxHeartbeats 2000000 in
theorem kind_any (k : Knd) (At Ae : Option Addr) (ct ce b : Nat) (l : List Byte) (w : World) (h : WrAt b l w w) (hl : Lies w b At (k.tags.map (Value.int .i64))) (he : EfLies w b Ae k.effs) (hm : KndFew k) (hlim : l.length + kndSize k ≤ 140737488355328) :
    Calls Tryz.prog 36 #[.pointer (some ⟨b, 0, none⟩), .agg (kndV k At Ae ct ce)] w fun e w' => e = .returned (.tuple #[]) ∧ WrAt b (l ++ kndE k) w w' := by
  have ka : Keeps (fun _ => False) w (w.alloc (.cells (kndV k At Ae ct ce) 40)) := (Keeps.refl _ w).alloc _
  have HM : Hid (Whole (w.alloc (.cells (kndV k At Ae ct ce) 40)) w.heap.size 40 (kndV k At Ae ct ce)) := Lib.hid (Whole.made w _ _)
  have HW : Hid (WrAt b l w (w.alloc (.cells (kndV k At Ae ct ce) 40))) := Lib.hid (h.past ka)
  have hgb : w.heap.size ≠ b := by have := h.size; omega
  have HL := Lib.hid (hl.keeps ka (fun _ _ => id) (Nat.le_of_lt h.size))
  have HE := Lib.hid (he.keeps ka (fun _ _ => id) (Nat.le_of_lt h.size))
  have HF := Lib.hid hm
  have hmt := hm.tags
  have hme := hm.effs
  have hsz : kndSize k = 16 + 2 * k.tags.length + (k.effs.map effSize).sum := rfl
  clear h hl he hm ka
  unfold kndV at *
  go_enter Tryz.func36, Tryz.ntmps36
  go_wp2_with fail
  generalize w.alloc _ = w0 at *
  have HP : Hid (WrAt b l w0 w0) := Lib.hid HW.out.self
  obtain ⟨a0, a1, a2, a3, a4, a5⟩ := six (HP.out.kept _ _ _ hgb (by decide) HM.out)
  go_wp2_with fail
  with_reducible refine (number_lit 2 2 rfl _ b _ w0 _ HP.out (by decide) (by (try simp only [List.length_append, be_length]); omega)).mono ?_
  rintro e w1 ⟨rfl, hp⟩
  clear a0 a1 a2 a3 a4 a5 HP
  have HP := Lib.hid hp
  clear hp
  obtain ⟨a0, a1, a2, a3, a4, a5⟩ := six (HP.out.kept _ _ _ hgb (by decide) HM.out)
  go_wp2_with fail
  with_reducible refine (number_lit 4 4 rfl _ b _ w0 _ HP.out (by decide) (by (try simp only [List.length_append, be_length]); omega)).mono ?_
  rintro e w2 ⟨rfl, hp⟩
  clear a0 a1 a2 a3 a4 a5 HP
  have HP := Lib.hid hp
  clear hp
  obtain ⟨a0, a1, a2, a3, a4, a5⟩ := six (HP.out.kept _ _ _ hgb (by decide) HM.out)
  go_wp2_with fail
  with_reducible refine (number_lit 4 4 rfl _ b _ w0 _ HP.out (by decide) (by (try simp only [List.length_append, be_length]); omega)).mono ?_
  rintro e w3 ⟨rfl, hp⟩
  clear a0 a1 a2 a3 a4 a5 HP
  have HP := Lib.hid hp
  clear hp
  obtain ⟨a0, a1, a2, a3, a4, a5⟩ := six (HP.out.kept _ _ _ hgb (by decide) HM.out)
  go_wp2_with fail
  with_reducible refine (number_lit 4 4 rfl _ b _ w0 _ HP.out (by decide) (by (try simp only [List.length_append, be_length]); omega)).mono ?_
  rintro e w4 ⟨rfl, hp⟩
  clear a0 a1 a2 a3 a4 a5 HP
  have HP := Lib.hid hp
  clear hp
  obtain ⟨a0, a1, a2, a3, a4, a5⟩ := six (HP.out.kept _ _ _ hgb (by decide) HM.out)
  go_wp2_with fail
  with_reducible refine (number_lit 1 1 rfl _ b _ w0 _ HP.out (by decide) (by (try simp only [List.length_append, be_length]); omega)).mono ?_
  rintro e w5 ⟨rfl, hp⟩
  clear a0 a1 a2 a3 a4 a5 HP
  obtain ⟨L1, hL1⟩ : ∃ z, z = l ++ be 2 k.name ++ be 4 k.cost ++ be 4 k.power ++ be 4 k.health ++ be 1 (k.tags.length : Int) := ⟨_, rfl⟩
  have hlen1 : L1.length = l.length + 15 := by rw [hL1]; simp only [List.length_append, be_length]
  have HP := Lib.hid (hL1 ▸ hp : WrAt b L1 w0 w5)
  have HL1 := Lib.hid hL1
  clear hp hL1
  obtain ⟨a0, a1, a2, a3, a4, a5⟩ := six (HP.out.kept _ _ _ hgb (by decide) HM.out)
  go_wp2_with fail
  clear a0 a1 a2 a3 a4 a5
  go_loopw [34] (fun vi wr => ∃ (i : Nat), i ≤ k.tags.length ∧ vi = .int .i64 i ∧ Hid (WrAt b (L1 ++ (k.tags.take i).flatMap (be 2)) w0 wr)) (fun vi _ => k.tags.length - (intOf vi).toNat)
  case atStart => exact ⟨0, by omega, rfl, Lib.hid (by simpa using HP.out)⟩
  case round =>
    clear HP
    obtain ⟨i, hi, rfl, HP⟩ := hrel
    by_cases hlt : i < k.tags.length
    · obtain ⟨g, off, hgA, hg, hc0⟩ := HL.out i (.int .i64 k.tags[i]) (by simp [hlt])
      have hc := (HP.out.below.cell (p := ⟨g, off + i, none⟩) hg).trans hc0
      have HN := Lib.hid (flat_next k.tags (be 2) i _ (List.getElem?_eq_getElem hlt))
      have hlen2 : (L1 ++ (k.tags.take i).flatMap (be 2)).length + 2 ≤ 140737488355328 := by
        rw [List.length_append, flat_be, List.length_take]; omega
      have HL2 := Lib.hid hlen2
      subst hgA
      clear hc0 hlen2
      generalize k.tags[i] = x at *
      go_wp2_with fail
      with_reducible refine (number_lit 2 2 rfl _ b _ w0 _ HP.out (by decide) HL2.out).mono ?_
      rintro e w6 ⟨rfl, hp⟩
      have HP1 : Hid (WrAt b (L1 ++ (k.tags.take (i + 1)).flatMap (be 2)) w0 w6) := Lib.hid (by
        rw [HN.out, ← List.append_assoc]; exact hp)
      clear hp HP HN HL2
      go_wp2_with fail
      go_roundw
      case rel => exact ⟨i + 1, by omega, by go_num, HP1⟩
      case measure => simp [intOf]; omega
    · obtain rfl : i = k.tags.length := by omega
      rw [List.take_length] at HP
      obtain ⟨a0, a1, a2, a3, a4, a5⟩ := six (HP.out.kept _ _ _ hgb (by decide) HM.out)
      have hlen2 : (L1 ++ k.tags.flatMap (be 2)).length = l.length + 15 + 2 * k.tags.length := by
        rw [List.length_append, flat_be]; omega
      go_wp2_with fail
      with_reducible refine (number_lit 1 1 rfl _ b _ w0 _ HP.out (by decide) (by rw [hlen2]; omega)).mono ?_
      rintro e w7 ⟨rfl, hp⟩
      clear a0 a1 a2 a3 a4 a5 HP
      obtain ⟨L2, hL2⟩ : ∃ z, z = L1 ++ k.tags.flatMap (be 2) ++ be 1 (k.effs.length : Int) := ⟨_, rfl⟩
      have hlen3 : L2.length = l.length + 16 + 2 * k.tags.length := by rw [hL2, List.length_append, hlen2, be_length]; omega
      have HP := Lib.hid (hL2 ▸ hp : WrAt b L2 w0 w7)
      have HL2 : Hid (L2 ++ k.effs.flatMap effE = l ++ kndE k) := Lib.hid (by
        rw [hL2, HL1.out]
        unfold kndE
        simp only [List.append_assoc])
      clear hp hL2 hlen2
      obtain ⟨a0, a1, a2, a3, a4, a5⟩ := six (HP.out.kept _ _ _ hgb (by decide) HM.out)
      go_wp2_with fail
      clear a0 a1 a2 a3 a4 a5
      go_loopw [50] (fun vi wr => ∃ (j : Nat), j ≤ k.effs.length ∧ vi = .int .i64 j ∧ Hid (WrAt b (L2 ++ (k.effs.take j).flatMap effE) w0 wr)) (fun vi _ => k.effs.length - (intOf vi).toNat)
      case atStart => exact ⟨0, by omega, rfl, Lib.hid (by simpa using HP.out)⟩
      case round =>
        clear HP
        obtain ⟨j, hj, rfl, HP⟩ := hrel
        by_cases hltj : j < k.effs.length
        · obtain ⟨g, off, As, cs, Ac, cc, hgA, hg, c0, c1, c2, c3, hs, hcd⟩ := HE.out j k.effs[j] (List.getElem?_eq_getElem hltj)
          have hcell := fun o => HP.out.below.cell (p := ⟨g, o, none⟩) hg
          have d0 := (hcell _).trans c0
          have d1 := (hcell _).trans c1
          have d2 := (hcell _).trans c2
          have d3 := (hcell _).trans c3
          clear c0 c1 c2 c3 hcell
          have HN := Lib.hid (flat_next k.effs effE j _ (List.getElem?_eq_getElem hltj))
          have hef := HF.out.each _ (List.getElem_mem hltj)
          have hes := hef.slots
          have HSM := Lib.hid hef.small
          have hec := hef.code
          have hsum := sum_at_le k.effs effSize j _ (List.getElem?_eq_getElem hltj)
          have hlen4 : (L2 ++ (k.effs.take j).flatMap effE).length = L2.length + ((k.effs.take j).map effSize).sum := by
            rw [List.length_append, effs_length]
          clear hef
          subst hgA
          generalize k.effs[j] = x at *
          obtain ⟨L3, hL3⟩ : ∃ z, z = L2 ++ (k.effs.take j).flatMap effE := ⟨_, rfl⟩
          rw [← hL3] at HP hlen4
          have hb3 : L3.length + (12 + x.slots.length + x.code.length) ≤ 140737488355328 := by
            have e1 : effSize x = 12 + x.slots.length + x.code.length := rfl
            omega
          have HS := Lib.hid hs
          have HCD := Lib.hid hcd
          have HL3 := Lib.hid hL3
          clear hs hcd hL3 hlen4 hsum
          have kz := (Keeps.refl (fun _ => False) wr).alloc (.cells #[.int .i64 x.on, .slice As x.slots.length cs, .slice Ac x.code.length cc, .int .i64 x.bound] 43)
          have HP2 := Lib.hid (HP.out.past kz)
          have HB := Lib.hid (Whole.made wr 43 #[.int .i64 x.on, .slice As x.slots.length cs, .slice Ac x.code.length cc, .int .i64 x.bound])
          have hgb2 : wr.heap.size ≠ b := by have := HP.out.size; omega
          clear kz
          go_wp2_with fail
          clear d0 d1 d2 d3 HP
          generalize wr.alloc _ = v at *
          generalize wr.heap.size = g2 at *
          have HQ : Hid (WrAt b L3 v v) := Lib.hid HP2.out.self
          obtain ⟨a0, a1, a2, a3⟩ := four (HQ.out.kept _ _ _ hgb2 (by decide) HB.out)
          go_wp2_with fail
          with_reducible refine (number_lit 1 1 rfl _ b _ v _ HQ.out (by decide) (by (try simp only [List.length_append, be_length]); omega)).mono ?_
          rintro e w8 ⟨rfl, hp⟩
          clear a0 a1 a2 a3 HQ
          have HQ := Lib.hid hp
          clear hp
          obtain ⟨a0, a1, a2, a3⟩ := four (HQ.out.kept _ _ _ hgb2 (by decide) HB.out)
          go_wp2_with fail
          with_reducible refine (number_lit 1 1 rfl _ b _ v _ HQ.out (by decide) (by (try simp only [List.length_append, be_length]); omega)).mono ?_
          rintro e w9 ⟨rfl, hp⟩
          clear a0 a1 a2 a3 HQ
          have HQ := Lib.hid hp
          clear hp
          obtain ⟨L4, hL4⟩ : ∃ z, z = L3 ++ be 1 x.on ++ be 1 (x.slots.length : Int) := ⟨_, rfl⟩
          have hlen5 : L4.length = L3.length + 2 := by rw [hL4]; simp only [List.length_append, be_length]
          have HQ4 := Lib.hid (hL4 ▸ HQ.out : WrAt b L4 v w9)
          have HL4 := Lib.hid hL4
          clear hL4 HQ
          obtain ⟨a0, a1, a2, a3⟩ := four (HQ4.out.kept _ _ _ hgb2 (by decide) HB.out)
          go_wp2_with fail
          clear a0 a1 a2 a3
          go_loopw [66] (fun vi wr => ∃ (q : Nat), q ≤ x.slots.length ∧ vi = .int .i64 q ∧ Hid (WrAt b (L4 ++ (x.slots.take q).flatMap (be 1)) v wr)) (fun vi _ => x.slots.length - (intOf vi).toNat)
          case atStart => exact ⟨0, by omega, rfl, Lib.hid (by simpa using HQ4.out)⟩
          case round =>
            clear HQ4
            obtain ⟨q, hq, rfl, HQ⟩ := hrel
            by_cases hltq : q < x.slots.length
            · obtain ⟨g3, off3, hgA3, hg3, hc0⟩ := HS.out q (.int .i8 x.slots[q]) (by simp [hltq])
              have hc := ((HP2.out.trans HQ.out).below.cell (p := ⟨g3, off3 + q, none⟩) hg3).trans hc0
              have HN5 := Lib.hid (flat_next x.slots (be 1) q _ (List.getElem?_eq_getElem hltq))
              have hsm := HSM.out _ (List.getElem_mem hltq)
              have hlen6 : (L4 ++ (x.slots.take q).flatMap (be 1)).length + 1 ≤ 140737488355328 := by
                rw [List.length_append, flat_be, List.length_take]; omega
              have HL6 := Lib.hid hlen6
              subst hgA3
              clear hc0 hlen6
              generalize x.slots[q] = y at *
              go_wp2_with fail
              with_reducible refine (number_lit 1 1 rfl _ b _ v _ HQ.out (by decide) HL6.out).mono ?_
              rintro e wa ⟨rfl, hp⟩
              have HQ1 : Hid (WrAt b (L4 ++ (x.slots.take (q + 1)).flatMap (be 1)) v wa) := Lib.hid (by
                rw [HN5.out, ← List.append_assoc]; exact hp)
              clear hp HQ HN5 HL6
              go_wp2_with fail
              go_roundw
              case rel => exact ⟨q + 1, by omega, by go_num, HQ1⟩
              case measure => simp [intOf]; omega
            · obtain rfl : q = x.slots.length := by omega
              rw [List.take_length] at HQ
              have hlen7 : (L4 ++ x.slots.flatMap (be 1)).length = L3.length + 2 + x.slots.length := by
                rw [List.length_append, flat_be]; omega
              obtain ⟨L5, hL5⟩ : ∃ z, z = L4 ++ x.slots.flatMap (be 1) := ⟨_, rfl⟩
              rw [← hL5] at HQ hlen7
              have HL5 := Lib.hid hL5
              clear hL5
              obtain ⟨a0, a1, a2, a3⟩ := four (HQ.out.kept _ _ _ hgb2 (by decide) HB.out)
              go_wp2_with fail
              with_reducible refine (number_lit 8 8 rfl _ b _ v _ HQ.out (by decide) (by (try simp only [List.length_append, be_length]); omega)).mono ?_
              rintro e wb ⟨rfl, hp⟩
              clear a0 a1 a2 a3 HQ
              have HQ := Lib.hid hp
              clear hp
              obtain ⟨a0, a1, a2, a3⟩ := four (HQ.out.kept _ _ _ hgb2 (by decide) HB.out)
              go_wp2_with fail
              with_reducible refine (number_lit 2 2 rfl _ b _ v _ HQ.out (by decide) (by (try simp only [List.length_append, be_length]); omega)).mono ?_
              rintro e wc ⟨rfl, hp⟩
              clear a0 a1 a2 a3 HQ
              have HQ := Lib.hid hp
              clear hp
              obtain ⟨a0, a1, a2, a3⟩ := four (HQ.out.kept _ _ _ hgb2 (by decide) HB.out)
              go_wp2_with fail
              refine wp_region_held_drew (S := fun W => W.cell? ⟨g2, 2, none⟩ = some (.slice Ac x.code.length cc)) (by kernel_rfl) (a2) ?_
              intro hSn
              refine wpAnyH_take (i := 0) (v := ?v1) rfl (by kernel_rfl) (by kernel_rfl) (by kernel_rfl) (fun _ _ _ h => by first | exact h | exact absurd h.1 (fun e => by cases e)) (Or.inl ⟨by rfl, ?hy1⟩) (by assumption) ?rest1
              case hy1 =>
                intro w hSw
                have s1 := hSw
                go_simp
                try with_reducible rfl
              go_simp
              refine wpAnyH_take (i := 1) (v := ?v2) rfl (by kernel_rfl) (by kernel_rfl) (by kernel_rfl) (fun _ _ _ h => by first | exact h | exact absurd h.1 (fun e => by cases e)) (Or.inl ⟨by rfl, ?hy2⟩) (by assumption) ?rest2
              case hy2 =>
                intro w hSw
                have s1 := hSw
                go_simp
                try with_reducible rfl
              go_simp
              refine wpAnyH_take (i := 2) (v := ?v3) rfl (by kernel_rfl) (by kernel_rfl) (by kernel_rfl) (fun _ _ _ h => by first | exact h | exact absurd h.1 (fun e => by cases e)) (Or.inl ⟨by rfl, ?hy3⟩) (by assumption) ?rest3
              case hy3 =>
                intro w hSw
                have s1 := hSw
                go_simp
                try with_reducible rfl
              go_simp
              refine wpAnyH_take (i := 3) (v := ?v4) rfl (by kernel_rfl) (by kernel_rfl) (by kernel_rfl) (fun _ _ _ h => by first | exact h | exact absurd h.1 (fun e => by cases e)) (Or.inl ⟨by rfl, ?hy4⟩) (by assumption) ?rest4
              case hy4 =>
                intro w hSw
                have s1 := hSw
                go_simp
                try with_reducible rfl
              go_simp
              refine wpAnyH_take (i := 4) (v := ?v5) rfl (by kernel_rfl) (by kernel_rfl) (by kernel_rfl) (fun _ _ _ h => by first | exact h | exact absurd h.1 (fun e => by cases e)) (Or.inl ⟨by rfl, ?hy5⟩) (by assumption) ?rest5
              case hy5 =>
                intro w hSw
                have s1 := hSw
                go_simp
                try with_reducible rfl
              go_simp
              refine wpAnyH_ready (rs := [5]) (by kernel_rfl) (by simp) ?_
              refine AllReadyH.cons rfl (fun K hK => ?_) AllReadyH.nil
              go_simp
              refine (wrAny_any b _ x.code Ac cc v _ (HQ.out.past ((Keeps.refl _ wc).drew)) (HCD.out.keep (fun g o hg => ((HP2.out.trans HQ.out).below.cell (p := ⟨g, o, none⟩) hg))) (by simp only [List.length_append, be_length]; omega)).mono ?_
              rintro e wd ⟨⟨nn, rfl⟩, hp⟩
              refine hK.out _ _ (hp.kept _ _ _ hgb2 (by decide) HB.out |>.cellAt 2) (fun hSn => ?_)
              clear hK K hSn
              go_simp
              refine wpAnyH_done (by kernel_rfl) ?_ _
              have HZ : Hid (WrAt b (L2 ++ (k.effs.take (j + 1)).flatMap effE) w0 wd) := Lib.hid (by
                have h := HP2.out.trans hp
                rw [HL5.out, HL4.out, HL3.out] at h
                rw [HN.out]
                unfold effE
                simp only [List.append_assoc] at h ⊢
                exact h)
              clear hp HQ
              clear a0 a1 a2 a3
              go_wp2_with fail
              go_roundw
              case rel => exact ⟨j + 1, by omega, by go_num, HZ⟩
              case measure => simp [intOf]; omega
        · obtain rfl : j = k.effs.length := by omega
          rw [List.take_length] at HP
          go_wp2_with fail
          go_end0
          refine ⟨rfl, ?_⟩
          have h := HP.out
          rw [HL2.out] at h
          exact HW.out.trans h
end Go.Proofs.YtcmbdnjcfneinaaGreatDoor
