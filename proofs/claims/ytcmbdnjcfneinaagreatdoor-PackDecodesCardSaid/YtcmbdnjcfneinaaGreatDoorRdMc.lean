/-
  The reader of chapter 19: the kinds: the walk. Conditions: lengths within 2 ^ 20.
-/
import Derived.Test.YtcmbdnjcfneinaaGreatDoorRdJ
import Derived.Laws.EntriesVeiled
namespace Go.Proofs.YtcmbdnjcfneinaaGreatDoor
open Go.RowKit
def kndVals (ks : List PK) : List Value := ks.flatMap fun p => p.vals.toList
section
variable {w0 w : World} {rb g off cap i en : Nat} {b : List Oct} {F : Flt} {x4 x5 x6 x7 x8 : Value} {Q : List Loc}
set_option maxRecDepth 4000 in
set_option maxHeartbeats 2000000 in
theorem kinds_any (h : RdAt w0 w rb g off cap b i en F x4 x5 x6 (.slice none 0 0) x8 Q) :
    Calls Tryz.prog 107 #[.pointer (some ⟨rb, 0, none⟩)] w fun r w' => r = .returned (.tuple #[]) ∧ ∃ (l : List PK) (A : Option Addr) (c : Nat), Step (listP 2 kndP) b en i F (l.map PK.knd) fun j F' => RdAt w0 w' rb g off cap b j en F' x4 x5 x6 (.slice A l.length c) x8 (Loc.own w0.heap.size 40 6 (.slice A l.length c) l.length (kndVals l) :: (Q ++ l.flatMap (PK.locs w0.heap.size))) := by
  have hm0 := (h.make 176 #[.pointer (some ⟨rb, 0, none⟩)]).past ((Keeps.refl _ (w.alloc (.cells #[.pointer (some ⟨rb, 0, none⟩)] 176))).drew)
  have HD := Lib.hid (hm0.nil w0.heap.size 40 6)
  have hS0 : Hid ((w.alloc (.cells #[.pointer (some ⟨rb, 0, none⟩)] 176)).drew.cell? ⟨w.heap.size, 0, none⟩ = some (.pointer (some ⟨rb, 0, none⟩))) := Lib.hid ((HD.out.boxq 1 rfl).cellAt 0)
  have HC := Lib.hid (numberS_any 2 b g off HD.out (by decide))
  clear h hm0
  have hmf : ∀ (fn : Fn) (first cap : Array Value) (w : World), (Instr.makeFunc fn first cap).run Tryz.prog w = .ok (.func fn first cap) w := fun _ _ _ _ => rfl
  go_enter Tryz.func107, Tryz.ntmps107
  go_wp2_with fail
  refine wp_region_upTo 8 (fun W => W.cell? ⟨w.heap.size, 0, none⟩ = some (.pointer (some ⟨rb, 0, none⟩))) (fun _ => True) (by kernel_rfl) ?_
  refine upTo_take (i := 0) (v := ?v1) rfl (by kernel_rfl) (by kernel_rfl) (by kernel_rfl) (fun _ _ _ h => by first | exact h | exact absurd h.1 (fun e => by cases e)) (by decide) (Or.inl ⟨by rfl, ?hy1⟩) (hS0.out) (fun _ => trivial) ?rest1
  case hy1 =>
    intro w hSw
    obtain qh := hSw
    go_simp
    try with_reducible rfl
  go_simp
  refine upTo_take (i := 1) (v := ?v2) rfl (by kernel_rfl) (by kernel_rfl) (by kernel_rfl) (fun _ _ _ h => by first | exact h | exact absurd h.1 (fun e => by cases e)) (by decide) (Or.inl ⟨by rfl, ?hy2⟩) (hS0.out) (fun _ => trivial) ?rest2
  case hy2 =>
    intro w hSw
    clear hSw
    go_simp
    try with_reducible rfl
  go_simp
  refine upTo_take (i := 2) (v := ?v3) rfl (by kernel_rfl) (by kernel_rfl) (by kernel_rfl) (fun _ _ _ h => by first | exact h | exact absurd h.1 (fun e => by cases e)) (by decide) (Or.inl ⟨by rfl, ?hy3⟩) (hS0.out) (fun _ => trivial) ?rest3
  case hy3 =>
    intro w hSw
    clear hSw
    go_simp
    try with_reducible rfl
  go_simp
  refine upTo_take (i := 3) (v := ?v4) rfl (by kernel_rfl) (by kernel_rfl) (by kernel_rfl) (fun _ _ _ h => by first | exact h | exact absurd h.1 (fun e => by cases e)) (by decide) (Or.inl ⟨by rfl, ?hy4⟩) (hS0.out) (fun _ => trivial) ?rest4
  case hy4 =>
    intro w hSw
    obtain qh := hSw
    go_simp
    try with_reducible rfl
  go_simp
  refine upTo_take (i := 4) (v := ?v5) rfl (by kernel_rfl) (by kernel_rfl) (by kernel_rfl) (fun _ _ _ h => by first | exact h | exact absurd h.1 (fun e => by cases e)) (by decide) (Or.inl ⟨by rfl, ?hy5⟩) (hS0.out) (fun _ => trivial) ?rest5
  case hy5 =>
    intro w hSw
    clear hSw
    go_simp
    try with_reducible rfl
  go_simp
  refine upTo_take (i := 5) (v := ?v6) rfl (by kernel_rfl) (by kernel_rfl) (by kernel_rfl) (fun _ _ _ h => by first | exact h | exact absurd h.1 (fun e => by cases e)) (by decide) (Or.inl ⟨by rfl, ?hy6⟩) (hS0.out) (fun _ => trivial) ?rest6
  case hy6 =>
    intro w hSw
    clear hSw
    go_simp
    try with_reducible rfl
  go_simp
  refine upTo_take (i := 7) (v := ?v7) rfl (by kernel_rfl) (by kernel_rfl) (by kernel_rfl) (fun _ _ _ h => by first | exact h | exact absurd h.1 (fun e => by cases e)) (by decide) (Or.inl ⟨by rfl, ?hy7⟩) (hS0.out) (fun _ => trivial) ?rest7
  case hy7 =>
    intro w hSw
    clear hSw
    go_simp
    try with_reducible rfl
  go_simp
  refine upTo_next (i := 6) (by kernel_rfl) rfl ?_
  intro K hK
  go_simp
  refine (HC.out).mono ?_
  rintro r w1 ⟨n, rfl, hn, i1, F1, hg1, hij, h1⟩
  have H1 := Lib.hid h1
  have HG1 := Lib.hid hg1
  have hn2 : n ≤ 65536 := by omega
  clear h1 HC HD hS0 hg1 hn
  refine hK.out _ _ ((H1.out.boxq 1 rfl).cellAt 0) (fun _ => trivial) ?_
  clear hK K
  go_simp
  refine upTo_next (i := 8) (by kernel_rfl) rfl ?_
  intro K hK
  go_simp
  refine (times_any 142 n rb #[.pointer (some ⟨w.heap.size, 0, none⟩)] (enters_of Tryz.func142 (by kernel_rfl) rfl) (fun m W => ∃ (j : Nat) (F2 : Flt) (l : List PK) (A : Option Addr) (c : Nat), Goes (repP kndP m) (b.take en) i1 F1 j F2 (l.map PK.knd) ∧ l.length = m ∧ i1 ≤ j ∧
      RdAt w0 W rb g off cap b j en F2 x4 x5 x6 (.slice A m c) x8 (Loc.own w0.heap.size 40 6 (.slice A m c) m (kndVals l) :: Loc.box w.heap.size 176 #[.pointer (some ⟨rb, 0, none⟩)] :: (Q ++ l.flatMap (PK.locs w0.heap.size)))) w1 (by omega)
    (fun m W hm => by obtain ⟨j, F2, l, A, c, hg, hl, hj, hr⟩ := hm; exact hr.err) (fun m W hm hlt hnil => ?step) ⟨i1, F1, [], none, 0, Goes.ret _, rfl, Nat.le_refl _, by simp only [List.flatMap_nil, List.append_nil]; exact H1.out⟩).mono ?_
  case step =>
    obtain ⟨j, F2, l, A, c, hg, hl, hj, hr⟩ := hm
    refine (kindMore_any hr (by omega)).mono ?_
    rintro r W' ⟨rfl, t, A', c', j2, F3, hg2, hj2, hr2⟩
    exact ⟨rfl, j2, F3, l ++ [t], A', c', by rw [List.map_append]; exact hg.snoc hg2, by rw [List.length_append, hl]; rfl, by omega, by
      have e1 : kndVals (l ++ [t]) = kndVals l ++ t.vals.toList := by unfold kndVals; simp
      have e2 : (l ++ [t]).flatMap (PK.locs w0.heap.size) = l.flatMap (PK.locs w0.heap.size) ++ t.locs w0.heap.size := by simp
      rw [e1, e2, ← List.append_assoc]
      exact hr2⟩
  rintro r w2 ⟨rfl, m, hm, ⟨j, F2, l, A, c, hg, hl, hj, hr⟩, hend⟩
  have HE : Hid (m = n ∨ ∃ f, F2 = some f) := Lib.hid (hend.imp id hr.halted)
  have HR := Lib.hid hr
  have HL := Lib.hid hl
  have HG := Lib.hid hg
  clear hr hl hg hend H1
  refine hK.out _ _ ((HR.out.boxq 1 rfl).cellAt 0) (fun h => absurd h (by decide)) ?_
  clear hK K
  go_simp
  refine upTo_done (by kernel_rfl) ?_ _
  go_end0
  have hl2 := HL.out
  subst hl2
  exact ⟨rfl, l, A, c, j, F2, HG1.out.list HG.out hm HE.out, by omega, HR.out.sub ((List.sublist_cons_self _ _).cons_cons _)⟩
end
end Go.Proofs.YtcmbdnjcfneinaaGreatDoor
/-
  The reader of chapter 19: a section, whatever its body: the walk. Conditions: lengths within 2 ^ 20.
-/
namespace Go.Proofs.YtcmbdnjcfneinaaGreatDoor
open Go.RowKit
/-- The reader between two sections. -/
structure RdS (w0 w : World) (rb g off cap : Nat) (b : List Oct) (last i : Nat) (F : Flt) (x4 x5 x6 x7 : Value) (Q : List Loc) : Prop where
  box : ∃ en fb, Rdr w0 w rb (some ⟨g, off, none⟩) b.length cap i en F fb x4 x5 x6 x7 (.int .i64 last) Q
  lies : Lies w0 w0.heap.size (some ⟨g, off, none⟩) (bytesV b)
  room : b.length ≤ cap
  stop : last + 4 = b.length
  le : i ≤ last
  small : b.length ≤ 1048576
/-- The pieces Z are there; a pack's fields are of their make. -/
structure Fit (Z Q : List Loc) (x4 x5 x6 x7 : Value) : Prop where
  sub : ∀ e ∈ Z, e ∈ Q
  four : ∃ c, x4 = .int .i64 c
  five : ∃ A n c, x5 = .slice A n c
  six : ∃ A n c, x6 = .slice A n c
  seven : ∃ A n c, x7 = .slice A n c
/-- A fault has been met; the pieces Z are there. -/
def Stuck (w0 w : World) (rb g off cap : Nat) (b : List Oct) (last : Nat) (Z : List Loc) (f : Nat × Nat) : Prop := ∃ i x4 x5 x6 x7 Q, RdS w0 w rb g off cap b last i (some f) x4 x5 x6 x7 Q ∧ Fit Z Q x4 x5 x6 x7
section
variable {w0 w w' : World} {rb g off cap i en last : Nat} {b : List Oct} {F : Flt} {x4 x5 x6 x7 : Value} {Q Z : List Loc}
theorem RdS.past (h : RdS w0 w rb g off cap b last i F x4 x5 x6 x7 Q) (hk : Keeps (fun _ => False) w w') : RdS w0 w' rb g off cap b last i F x4 x5 x6 x7 Q := by
  obtain ⟨⟨en, fb, h1⟩, h2, h3, h4, h5, h6⟩ := h
  exact ⟨⟨en, fb, h1.past hk⟩, h2, h3, h4, h5, h6⟩
theorem RdS.rbox (h : RdS w0 w rb g off cap b last i F x4 x5 x6 x7 Q) : ∃ en fb, Whole w rb 180 #[.slice (some ⟨g, off, none⟩) b.length cap, .int .i64 i, .int .i64 (en : Nat), errV F fb, x4, x5, x6, x7, .int .i64 last] := by
  obtain ⟨en, fb, hb⟩ := h.box
  exact ⟨en, fb, hb.box_at 0 rfl⟩
theorem RdAt.toS (h : RdAt w0 w rb g off cap b i en F x4 x5 x6 x7 (.int .i64 last) Q) (hl : last + 4 = b.length) (hi : i ≤ last) : RdS w0 w rb g off cap b last i F x4 x5 x6 x7 Q := by
  obtain ⟨⟨fb, h1⟩, h2, h3, h4, h5, h6⟩ := h
  exact ⟨⟨en, fb, h1⟩, h2, h3, hl, hi, h6⟩
theorem RdS.stuck {f : Nat × Nat} (h : RdS w0 w rb g off cap b last i (some f) x4 x5 x6 x7 Q) (hz : Fit Z Q x4 x5 x6 x7) : Stuck w0 w rb g off cap b last Z f := ⟨_, _, _, _, _, _, h, hz⟩
theorem RdS.fail (e q : Nat) (h : RdS w0 w rb g off cap b last i F x4 x5 x6 x7 Q) :
    Calls Tryz.prog 109 #[.pointer (some ⟨rb, 0, none⟩), .int .i64 e, .int .i64 q] w fun r w' => r = .returned (.tuple #[]) ∧ RdS w0 w' rb g off cap b last i (F.or e q) x4 x5 x6 x7 Q := by
  obtain ⟨⟨en, fb, h1⟩, h2, h3, h4, h5, h6⟩ := h
  exact (fail_any e q h1).mono fun r w' ⟨hr, fb', h⟩ => ⟨hr, ⟨en, fb', h⟩, h2, h3, h4, h5, h6⟩
set_option maxRecDepth 4000 in
theorem section_stuck {f : Nat × Nat} (id : Int) (K : Value) (h : Stuck w0 w rb g off cap b last Z f) :
    Calls Tryz.prog 108 #[.pointer (some ⟨rb, 0, none⟩), .int .u8 id, K] w fun r w' => r = .returned (.tuple #[]) ∧ Stuck w0 w' rb g off cap b last Z f := by
  have HS := Lib.hid h
  obtain ⟨i, x4, x5, x6, x7, Q, hs, _⟩ := h
  obtain ⟨en, fb, hb⟩ := hs.rbox
  have c3 := hb.cellAt 3
  clear hs hb
  unfold errV at *
  go_enter Tryz.func108, Tryz.ntmps108
  go_wp2_with fail
  go_returns
  exact ⟨rfl, HS.out⟩
theorem or_bytei (x c : Nat) (hx : x < 16777216) (hc : c < 256) : bits .or .i64 ((x : Int) * 256) (c : Int) = ((256 * x + c : Nat) : Int) := by
  have e : (x : Int) * 256 = ((256 * x : Nat) : Int) := by omega
  have hx2 : (256 * x ||| c) < 2 ^ 63 := Nat.or_lt_two_pow (by omega) (by omega)
  rw [e]
  show IntKind.i64.wrap ((BitVec.ofInt 64 ((256 * x : Nat) : Int) ||| BitVec.ofInt 64 (c : Int)).toNat : Int) = _
  rw [BitVec.toNat_or, ofInt_u64 _ (by omega), ofInt_u64 c (by omega), IntWalk.i64_in _ (by omega)]
  have h := Nat.two_pow_add_eq_or_of_lt (i := 8) (b := c) (by simpa using hc) x
  congr 1
  exact h.symm
set_option maxRecDepth 8000 in
set_option maxHeartbeats 4000000 in
/-- A section, whose body is read by p: the body's results are indexed by ι. -/
theorem section_read {α ι : Type} (p : Pr α) (res : ι → α) (y4 y5 y6 y7 : ι → Value) (R : ι → List Loc) (sid : Nat) (hid : sid < 256) (K : Nat) (hK : ∀ args w, (callFunc K args).run Tryz.prog w = .ok (.enter K args) w)
    (h : RdS w0 w rb g off cap b last i none x4 x5 x6 x7 Q) (hzQ : Fit Z Q x4 x5 x6 x7) (hzR : ∀ s, Fit Z (R s) (y4 s) (y5 s) (y6 s) (y7 s))
    (hbody : ∀ W en, RdAt w0 W rb g off cap b (i + 5) en none x4 x5 x6 x7 (.int .i64 last) Q → Calls Tryz.prog K #[.pointer (some ⟨rb, 0, none⟩)] W fun r w' => r = .returned (.tuple #[]) ∧ ∃ s : ι, Step p b en (i + 5) none (res s) fun j F' => RdAt w0 w' rb g off cap b j en F' (y4 s) (y5 s) (y6 s) (y7 s) (.int .i64 last) (R s)) :
    Calls Tryz.prog 108 #[.pointer (some ⟨rb, 0, none⟩), .int .u8 sid, .func (.func K) #[] #[]] w fun r w' => r = .returned (.tuple #[]) ∧
      ((∃ s j, secP (BitVec.ofNat 8 sid) p (b.take last) i = .ok (res s) j ∧ RdS w0 w' rb g off cap b last j none (y4 s) (y5 s) (y6 s) (y7 s) (R s)) ∨ ∃ e q, secP (BitVec.ofNat 8 sid) p (b.take last) i = .bad e q ∧ Stuck w0 w' rb g off cap b last Z (e, q)) := by
  have HS := Lib.hid h
  have HB := Lib.hid hbody
  obtain ⟨⟨en, fb, hs⟩, hl, hroom, hstop, hle, hsmall⟩ := h
  have hbx := hs.box_at 0 rfl
  unfold rdC at hbx
  obtain ⟨a0, a1, a2, a3, a4, a5, a6, a7, a8⟩ := nine hbx
  have hbl : (b.take last).length = last := by rw [List.length_take]; omega
  clear hs hbody a4 a5 a6 a7 hbx
  unfold errV at *
  by_cases h5 : last < i + 5
  · have HP : Hid (secP (BitVec.ofNat 8 sid) p (b.take last) i = .bad 54 i) := Lib.hid (by unfold secP; rw [if_pos (by rw [hbl]; exact Or.inl h5)])
    have hlt : (last : Int) - i < 5 := by omega
    have HF := Lib.hid (HS.out.fail 54 i)
    clear hbl HB hl
    go_enter Tryz.func108, Tryz.ntmps108
    go_wp2_with fail
    refine HF.out.mono ?_
    rintro r w1 ⟨rfl, h1⟩
    have HZ := Lib.hid (h1.stuck hzQ)
    clear h1 HF
    go_wp2_with fail
    go_returns
    exact ⟨rfl, Or.inr ⟨54, i, HP.out, HZ.out⟩⟩
  · have hil : i < b.length := by omega
    obtain ⟨g', off', hA, hg, hci⟩ := hl i _ (bytesV_get b i hil)
    injection hA with hA
    injection hA with e1 e2
    subst e1 e2
    have hk0 : Keeps (fun _ => False) w0 w := by
      obtain ⟨en, fb, hs⟩ := HS.out.box
      exact hs.old
    have hc0 : w.cell? ⟨g, off + i, none⟩ = some (byteV b[i]) := (hk0.cell hg id).trans hci
    have HK0 := Lib.hid hk0
    have HL := Lib.hid hl
    have hbi : (b.take last)[i]? = some b[i] := by rw [List.getElem?_take, if_pos (by omega), List.getElem?_eq_getElem hil]
    have hd0 : ¬ ((last : Int) - i < 5) := by omega
    have hci2 : ¬ cap = i + 1 := by omega
    have hci3 : ¬ i + 1 = cap := by omega
    unfold byteV at hc0
    by_cases hsid : b[i] = BitVec.ofNat 8 sid
    · have hl4 : ((b.drop (i + 1)).take 4).length = 4 := by rw [List.length_take, List.length_drop]; omega
      have hx4 : ((b.take last).drop (i + 1)).take 4 = (b.drop (i + 1)).take 4 := by rw [List.drop_take, List.take_take, Nat.min_eq_left (by omega)]
      have HP1 : Hid (∀ n, n = val ((b.drop (i + 1)).take 4) → secP (BitVec.ofNat 8 sid) p (b.take last) i = if last < i + 5 + n then .bad 54 i else match p (b.take (i + 5 + n)) (i + 5) with | .bad q => .bad 50 q | .ok a j => if j < i + 5 + n then .bad 55 j else .ok a j) := Lib.hid (fun n hn => by
        unfold secP
        rw [if_neg (by rw [hbl, hbi, hsid]; simp; omega)]
        simp only [hx4, ← hn, hbl]
        by_cases hc : last < i + 5 + n
        · rw [if_pos hc, if_pos hc]
        · rw [if_neg hc, if_neg hc, List.take_take, Nat.min_eq_left (by omega)]
          cases p (List.take (i + 5 + n) b) (i + 5) <;> rfl)
      have hT := take_lies HL.out (i + 1) 4
      have hTw : Lies w w0.heap.size (some ⟨g, off + (i + 1), none⟩) (bytesV ((b.drop (i + 1)).take 4)) := hT.keep fun g o hg => HK0.out.cell hg id
      have HT := Lib.hid hTw
      have hcs : (b[i].toNat : Int) = sid := by rw [hsid, BitVec.toNat_ofNat, Nat.mod_eq_of_lt hid]
      rw [hcs] at hc0
      obtain ⟨l4, hl4e⟩ : ∃ l, l = (b.drop (i + 1)).take 4 := ⟨_, rfl⟩
      rw [← hl4e] at HP1 HT hl4
      clear hbl hl hT hTw hx4 hbi hcs hsid hci hk0 hl4e
      go_enter Tryz.func108, Tryz.ntmps108
      go_wp2_with fail
      go_loop [7, 56] (fun vx vk => ∃ k : Nat, k ≤ l4.length ∧ vk = .int .i64 k ∧ vx = .int .i64 (val (l4.take k) : Nat)) (fun _ vk => l4.length - (intOf vk).toNat)
      case atStart => exact ⟨0, by omega, rfl, rfl⟩
      case round =>
        obtain ⟨k, hk, rfl, rfl⟩ := hrel
        by_cases hlt : k < l4.length
        · obtain ⟨g', off', hA, _, hc⟩ := HT.out k _ (bytesV_get l4 k hlt)
          injection hA with hA
          injection hA with e1 e2
          subst e1 e2
          have hts := take_snoc l4 k hlt
          have hv := val_snoc (l4.take k) l4[k]
          have hlt2 : val (l4.take k) < 16777216 := by
            have h1 := val_lt (l4.take k)
            rw [List.length_take, Nat.min_eq_left (by omega)] at h1
            have h2 : 256 ^ k ≤ 256 ^ 3 := Nat.pow_le_pow_right (by decide) (by omega)
            omega
          obtain ⟨x, hx⟩ : ∃ x, x = val (l4.take k) := ⟨_, rfl⟩
          obtain ⟨c', hcx⟩ : ∃ c, c = l4[k] := ⟨_, rfl⟩
          rw [← hts, ← hx, ← hcx] at hv
          have HV := Lib.hid hv
          rw [← hcx] at hc
          have hcl := c'.isLt
          rw [← hx] at hlt2 ⊢
          clear hv hts hx hcx
          go_wp2_with fail
          refine ⟨⟨k + 1, by omega, by go_num, ?_⟩, by simp [intOf]; omega⟩
          rw [or_bytei x c'.toNat (by omega) hcl, HV.out]
        · obtain rfl : k = l4.length := by omega
          rw [List.take_length]
          have hv4 : val l4 < 4294967296 := by
            have h1 := val_lt l4
            rw [hl4] at h1
            exact h1
          obtain ⟨n, hx⟩ : ∃ x, x = val l4 := ⟨_, rfl⟩
          rw [← hx] at hv4 ⊢
          have HPn := Lib.hid (HP1.out n hx)
          clear hx HP1 HT
          by_cases hbig : last < i + 5 + n
          · have HP2 : Hid (secP (BitVec.ofNat 8 sid) p (b.take last) i = .bad 54 i) := Lib.hid (by rw [HPn.out, if_pos hbig])
            have hb2 : (last : Int) - i - 5 < n := by omega
            have HF := Lib.hid (HS.out.fail 54 i)
            clear HB HL HPn
            go_wp2_with fail
            refine HF.out.mono ?_
            rintro r w1 ⟨rfl, h1⟩
            have HZ := Lib.hid (h1.stuck hzQ)
            clear h1 HF
            go_wp2_with fail
            go_returns
            exact ⟨rfl, Or.inr ⟨54, i, HP2.out, HZ.out⟩⟩
          · have hb2 : ¬ ((last : Int) - i - 5 < n) := by omega
            have HP2 : Hid (secP (BitVec.ofNat 8 sid) p (b.take last) i = match p (b.take (i + 5 + n)) (i + 5) with | .bad q => .bad 50 q | .ok a j => if j < i + 5 + n then .bad 55 j else .ok a j) := Lib.hid (by rw [HPn.out, if_neg hbig])
            obtain ⟨en0, fb0, hs0⟩ := HS.out.box
            have hW0 := hs0.box_at 0 rfl
            unfold rdC at hW0
            have f1 := hW0.free 1
            have f2 := hW0.free 2
            have h1 := (hs0.cell 0 rfl 1 (.int .i64 ((i : Int) + 5))).cell 0 rfl 2 (.int .i64 ((i : Int) + 5 + n))
            have h2 : RdAt w0 ((w.setCell ⟨rb, 1, none⟩ (.int .i64 ((i : Int) + 5))).setCell ⟨rb, 2, none⟩ (.int .i64 ((i : Int) + 5 + n))) rb g off cap b (i + 5) (i + 5 + n) none x4 x5 x6 x7 (.int .i64 last) Q := ⟨⟨fb0, h1⟩, HL.out, hroom, by omega, by omega, hsmall⟩
            have HBo := Lib.hid (HB.out _ _ h2)
            clear hs0 hW0 h1 h2 HPn HB HS
            go_wp2_with fail
            refine HBo.out.mono ?_
            rintro r w1 ⟨rfl, s, j, F1, hg1, hj1, h1⟩
            have hjle := h1.le
            have H1 := Lib.hid h1
            have HZ : Hid ((j = i + 5 + n ∧ F1 = none ∧ secP (BitVec.ofNat 8 sid) p (b.take last) i = .ok (res s) j) ∨ ∃ e q, secP (BitVec.ofNat 8 sid) p (b.take last) i = .bad e q ∧ (F1 = some (e, q) ∨ (F1 = none ∧ j < i + 5 + n ∧ e = 55 ∧ q = j))) := Lib.hid (by
              rw [HP2.out]
              cases F1 with
              | none =>
                rw [hg1.ok]
                by_cases hlt : j < i + 5 + n
                · exact Or.inr ⟨55, j, by simp only []; rw [if_pos hlt], Or.inr ⟨rfl, hlt, rfl, rfl⟩⟩
                · exact Or.inl ⟨by omega, rfl, by simp only []; rw [if_neg hlt]⟩
              | some f =>
                obtain ⟨e1, rfl⟩ := hg1.bad
                rw [e1]
                exact Or.inr ⟨50, j, rfl, Or.inl rfl⟩)
            obtain ⟨fb1, hb1⟩ := h1.rbox
            have c1 := hb1.cellAt 1
            have c2 := hb1.cellAt 2
            clear h1 hg1 hb1 HBo HP2 HL a0 a1 a2 a3 a8 hc0 f1 f2
            by_cases hlt : j < i + 5 + n
            · have hltz : (j : Int) < ((i + 5 + n : Nat) : Int) := by omega
              go_wp2_with fail
              go_quiet (fail)
              go_wp2_with fail
              refine wp_region_upTo 8 (fun _ => True) (fun W => W.cell? ⟨rb, 1, none⟩ = some (.int .i64 j)) (by kernel_rfl) ?_
              refine upTo_take (i := 0) (v := ?v1) rfl (by kernel_rfl) (by kernel_rfl) (by kernel_rfl) (fun _ _ _ h => by first | exact h | exact absurd h.1 (fun e => by cases e)) (by decide) (Or.inl ⟨by rfl, ?hy1⟩) (trivial) (fun _ => c1) ?rest1
              case hy1 =>
                intro w hSw
                clear hSw
                go_simp
                try with_reducible rfl
              go_simp
              refine upTo_take (i := 1) (v := ?v2) rfl (by kernel_rfl) (by kernel_rfl) (by kernel_rfl) (fun _ _ _ h => by first | exact h | exact absurd h.1 (fun e => by cases e)) (by decide) (Or.inl ⟨by rfl, ?hy2⟩) (trivial) (fun _ => c1) ?rest2
              case hy2 =>
                intro w hSw
                clear hSw
                go_simp
                try with_reducible rfl
              go_simp
              refine upTo_take (i := 2) (v := ?v3) rfl (by kernel_rfl) (by kernel_rfl) (by kernel_rfl) (fun _ _ _ h => by first | exact h | exact absurd h.1 (fun e => by cases e)) (by decide) (Or.inl ⟨by rfl, ?hy3⟩) (trivial) (fun _ => c1) ?rest3
              case hy3 =>
                intro w hSw
                clear hSw
                go_simp
                try with_reducible rfl
              go_simp
              refine upTo_take (i := 3) (v := ?v4) rfl (by kernel_rfl) (by kernel_rfl) (by kernel_rfl) (fun _ _ _ h => by first | exact h | exact absurd h.1 (fun e => by cases e)) (by decide) (Or.inl ⟨by rfl, ?hy4⟩) (trivial) (fun _ => c1) ?rest4
              case hy4 =>
                intro w hSw
                clear hSw
                go_simp
                try with_reducible rfl
              go_simp
              refine upTo_take (i := 4) (v := ?v5) rfl (by kernel_rfl) (by kernel_rfl) (by kernel_rfl) (fun _ _ _ h => by first | exact h | exact absurd h.1 (fun e => by cases e)) (by decide) (Or.inl ⟨by rfl, ?hy5⟩) (trivial) (fun _ => c1) ?rest5
              case hy5 =>
                intro w hSw
                clear hSw
                go_simp
                try with_reducible rfl
              go_simp
              refine upTo_take (i := 5) (v := ?v6) rfl (by kernel_rfl) (by kernel_rfl) (by kernel_rfl) (fun _ _ _ h => by first | exact h | exact absurd h.1 (fun e => by cases e)) (by decide) (Or.inl ⟨by rfl, ?hy6⟩) (trivial) (fun _ => c1) ?rest6
              case hy6 =>
                intro w hSw
                clear hSw
                go_simp
                try with_reducible rfl
              go_simp
              refine upTo_take (i := 6) (v := ?v7) rfl (by kernel_rfl) (by kernel_rfl) (by kernel_rfl) (fun _ _ _ h => by first | exact h | exact absurd h.1 (fun e => by cases e)) (by decide) (Or.inl ⟨by rfl, ?hy7⟩) (trivial) (fun _ => c1) ?rest7
              case hy7 =>
                intro w hSw
                clear hSw
                go_simp
                try with_reducible rfl
              go_simp
              refine upTo_load (i := 7) (v := ?v8) rfl (by kernel_rfl) (by kernel_rfl) (by kernel_rfl) (fun _ _ _ h => by first | exact h | exact absurd h.1 (fun e => by cases e)) (by decide) (by kernel_rfl) (by kernel_rfl) (Or.inl ⟨by rfl, ?hy8⟩) (trivial) (c1) ?rest8
              case hy8 =>
                intro w hSw
                obtain qh := hSw
                go_simp
                try with_reducible rfl
              go_simp
              refine upTo_next (i := 8) (by kernel_rfl) rfl ?_
              intro K hK
              go_simp
              refine (failAt_any 55 j (H1.out.past (by first | exact ((Keeps.refl _ w1).drewN _).drew | exact (Keeps.refl _ w1).drewN _))).mono ?_
              rintro r w2 ⟨rfl, h2⟩
              have H2 := Lib.hid h2
              clear h2 H1
              refine hK.out _ _ (trivial) (fun h => absurd h (by decide)) ?_
              clear hK K
              go_simp
              refine upTo_done (by kernel_rfl) ?_ _
              have HQ : Hid (∃ e q, secP (BitVec.ofNat 8 sid) p (b.take last) i = .bad e q ∧ Stuck w0 w2 rb g off cap b last Z (e, q)) := Lib.hid (by
                rcases HZ.out with ⟨e1, _, _⟩ | ⟨e, q, e1, e2 | ⟨e2, _, rfl, rfl⟩⟩
                · omega
                · refine ⟨e, q, e1, ?_⟩
                  have h := H2.out
                  rw [e2] at h
                  exact (h.toS hstop (by omega)).stuck (hzR s)
                · refine ⟨55, q, e1, ?_⟩
                  have h := H2.out
                  rw [e2] at h
                  exact (h.toS hstop (by omega)).stuck (hzR s))
              clear H2 HZ
              go_wp2_with fail
              go_end0
              exact ⟨rfl, Or.inr HQ.out⟩
            · obtain rfl : j = i + 5 + n := by omega
              go_wp2_with fail
              go_quiet (fail)
              go_wp2_with fail
              go_end0
              refine ⟨rfl, ?_⟩
              have h1 := H1.out
              rcases HZ.out with ⟨_, e2, e3⟩ | ⟨e, q, e1, e2 | ⟨_, e2, _⟩⟩
              · rw [e2] at h1
                exact Or.inl ⟨s, _, e3, (h1.toS hstop (by omega)).past ((Keeps.refl _ w1).drewN _)⟩
              · rw [e2] at h1
                exact Or.inr ⟨e, q, e1, ((h1.toS hstop (by omega)).past ((Keeps.refl _ w1).drewN _)).stuck (hzR s)⟩
              · omega
    · have HP : Hid (secP (BitVec.ofNat 8 sid) p (b.take last) i = .bad 54 i) := Lib.hid (by
        unfold secP
        rw [if_pos (Or.inr (by rw [hbi]; intro e; injection e with e; exact hsid e))])
      have hne : ((b[i].toNat : Int) != (sid : Int)) = true := bne_iff_ne.2 (fun e => hsid (by
        apply BitVec.eq_of_toNat_eq
        rw [BitVec.toNat_ofNat, Nat.mod_eq_of_lt hid]
        omega))
      have hnp : ¬ ((b[i].toNat : Int) = (sid : Int)) := bne_iff_ne.1 hne
      have HF := Lib.hid (HS.out.fail 54 i)
      generalize (b[i].toNat : Int) = ci at *
      clear hbl HB hl hbi hsid hci hk0
      go_enter Tryz.func108, Tryz.ntmps108
      go_wp2_with fail
      refine HF.out.mono ?_
      rintro r w1 ⟨rfl, h1⟩
      have HZ := Lib.hid (h1.stuck hzQ)
      clear h1 HF
      go_wp2_with fail
      go_returns
      exact ⟨rfl, Or.inr ⟨54, i, HP.out, HZ.out⟩⟩
end
end Go.Proofs.YtcmbdnjcfneinaaGreatDoor
/-
  The reader of chapter 19: the four sections: the walk. Conditions: lengths within 2 ^ 20.
-/
namespace Go.Proofs.YtcmbdnjcfneinaaGreatDoor
open Go.RowKit
/-- A pack, and where its lists lie. -/
structure PPk where
  cards : Nat
  ints : List Int
  Ai : Option Addr
  ci : Nat
  texts : List (List Oct)
  At : Option Addr
  ct : Nat
  ks : List PK
  Ak : Option Addr
  ck : Nat
def PPk.x (p : PPk) : Int × List Int × List (List Oct) × List Knd := (p.cards, p.ints, p.texts, p.ks.map PK.knd)
def PPk.vals (p : PPk) : Array Value := #[.int .i64 p.cards, .slice p.Ai p.ints.length p.ci, .slice p.At p.texts.length p.ct, .slice p.Ak p.ks.length p.ck]
def PPk.intsL (B : Nat) (p : PPk) : Loc := Loc.own B 2 1 (.slice p.Ai p.ints.length p.ci) p.ints.length (p.ints.map (Value.int .i64))
def PPk.textsL (B : Nat) (p : PPk) : Loc := Loc.own B 9 1 (.slice p.At p.texts.length p.ct) p.texts.length (textsV p.texts)
def PPk.kindsL (B : Nat) (p : PPk) : Loc := Loc.own B 40 6 (.slice p.Ak p.ks.length p.ck) p.ks.length (kndVals p.ks)
def PPk.locs (B : Nat) (p : PPk) : List Loc := p.kindsL B :: p.textsL B :: p.intsL B :: p.ks.flatMap (PK.locs B)
section
variable {b : List Oct} {c : Int} {l : List Int} {t : List (List Oct)} {k : List Knd} {j1 j2 j3 j4 e q : Nat}
theorem secs_bad1 (h1 : secP 1#8 (numP 2) b 5 = .bad e q) : secsP b 5 = .bad e q := by
  unfold secsP Ps.andThen
  simp only [h1]
theorem secs_bad2 (h1 : secP 1#8 (numP 2) b 5 = .ok c j1) (h2 : secP 2#8 (listP 2 s64P) b j1 = .bad e q) : secsP b 5 = .bad e q := by
  unfold secsP Ps.andThen Ps.map
  simp only [h1, h2]
theorem secs_bad3 (h1 : secP 1#8 (numP 2) b 5 = .ok c j1) (h2 : secP 2#8 (listP 2 s64P) b j1 = .ok l j2) (h3 : secP 3#8 (listP 2 (bytesP 1)) b j2 = .bad e q) : secsP b 5 = .bad e q := by
  unfold secsP Ps.andThen Ps.map
  simp only [h1, h2, h3]
theorem secs_bad4 (h1 : secP 1#8 (numP 2) b 5 = .ok c j1) (h2 : secP 2#8 (listP 2 s64P) b j1 = .ok l j2) (h3 : secP 3#8 (listP 2 (bytesP 1)) b j2 = .ok t j3) (h4 : secP 4#8 (listP 2 kndP) b j3 = .bad e q) : secsP b 5 = .bad e q := by
  unfold secsP Ps.andThen Ps.map
  simp only [h1, h2, h3, h4]
theorem secs_ok (h1 : secP 1#8 (numP 2) b 5 = .ok c j1) (h2 : secP 2#8 (listP 2 s64P) b j1 = .ok l j2) (h3 : secP 3#8 (listP 2 (bytesP 1)) b j2 = .ok t j3) (h4 : secP 4#8 (listP 2 kndP) b j3 = .ok k j4) : secsP b 5 = .ok (c, l, t, k) j4 := by
  unfold secsP Ps.andThen Ps.map
  simp only [h1, h2, h3, h4]
end
theorem section_lit2 {w0 w : World} {rb g off cap i last : Nat} {b : List Oct} {x4 x5 x6 x7 : Value} {Q Z : List Loc} {α ι : Type} (p : Pr α) (res : ι → α) (y4 y5 y6 y7 : ι → Value) (R : ι → List Loc) (sid : Nat) (z : Int) (hz : (sid : Int) = z) (hid : sid < 256) (K : Nat)
    (hK : ∀ args w, (callFunc K args).run Tryz.prog w = .ok (.enter K args) w) (h : RdS w0 w rb g off cap b last i none x4 x5 x6 x7 Q) (hzQ : Fit Z Q x4 x5 x6 x7) (hzR : ∀ s, Fit Z (R s) (y4 s) (y5 s) (y6 s) (y7 s))
    (hbody : ∀ W en, RdAt w0 W rb g off cap b (i + 5) en none x4 x5 x6 x7 (.int .i64 last) Q → Calls Tryz.prog K #[.pointer (some ⟨rb, 0, none⟩)] W fun r w' => r = .returned (.tuple #[]) ∧ ∃ s : ι, Step p b en (i + 5) none (res s) fun j F' => RdAt w0 w' rb g off cap b j en F' (y4 s) (y5 s) (y6 s) (y7 s) (.int .i64 last) (R s)) :
    Calls Tryz.prog 108 #[.pointer (some ⟨rb, 0, none⟩), .int .u8 z, .func (.func K) #[] #[]] w fun r w' => r = .returned (.tuple #[]) ∧
      ((∃ s j, secP (BitVec.ofNat 8 sid) p (b.take last) i = .ok (res s) j ∧ RdS w0 w' rb g off cap b last j none (y4 s) (y5 s) (y6 s) (y7 s) (R s)) ∨ ∃ e q, secP (BitVec.ofNat 8 sid) p (b.take last) i = .bad e q ∧ Stuck w0 w' rb g off cap b last Z (e, q)) := by
  subst hz
  exact section_read p res y4 y5 y6 y7 R sid hid K hK h hzQ hzR hbody
/-- The pieces that read has made besides: the sections' readers, the result. -/
def rdZ (fs rc : Nat) : List Loc := [Loc.box fs 181 #[.func (.func 104) #[] #[], .func (.func 105) #[] #[], .func (.func 106) #[] #[], .func (.func 107) #[] #[]],
  Loc.box rc 26 #[.int .i64 0, .slice none 0 0, .slice none 0 0, .slice none 0 0]]
def RdBad (w W : World) (rb g off cap : Nat) (b : List Oct) (last fs rc : Nat) : Prop := ∃ f : Nat × Nat, secsP (b.take last) 5 = .bad f.1 f.2 ∧ Stuck w W rb g off cap b last (rdZ fs rc) f
/-- Behind so many sections. -/
def RdI (w W : World) (rb g off cap : Nat) (b : List Oct) (last fs rc : Nat) : Nat → Prop
  | 0 => RdS w W rb g off cap b last 5 none (.int .i64 0) (.slice none 0 0) (.slice none 0 0) (.slice none 0 0) (rdZ fs rc)
  | 1 => RdBad w W rb g off cap b last fs rc ∨ ∃ (c j1 : Nat), secP 1#8 (numP 2) (b.take last) 5 = .ok (c : Int) j1 ∧ RdS w W rb g off cap b last j1 none (.int .i64 c) (.slice none 0 0) (.slice none 0 0) (.slice none 0 0) (rdZ fs rc)
  | 2 => RdBad w W rb g off cap b last fs rc ∨ ∃ (c j1 : Nat) (l : List Int) (A : Option Addr) (a j2 : Nat), secP 1#8 (numP 2) (b.take last) 5 = .ok (c : Int) j1 ∧ secP 2#8 (listP 2 s64P) (b.take last) j1 = .ok l j2 ∧
      RdS w W rb g off cap b last j2 none (.int .i64 c) (.slice A l.length a) (.slice none 0 0) (.slice none 0 0) (Loc.own w.heap.size 2 1 (.slice A l.length a) l.length (l.map (Value.int .i64)) :: rdZ fs rc)
  | 3 => RdBad w W rb g off cap b last fs rc ∨ ∃ (c j1 : Nat) (l : List Int) (A : Option Addr) (a j2 : Nat) (t : List (List Oct)) (At : Option Addr) (ct j3 : Nat), secP 1#8 (numP 2) (b.take last) 5 = .ok (c : Int) j1 ∧ secP 2#8 (listP 2 s64P) (b.take last) j1 = .ok l j2 ∧ secP 3#8 (listP 2 (bytesP 1)) (b.take last) j2 = .ok t j3 ∧
      RdS w W rb g off cap b last j3 none (.int .i64 c) (.slice A l.length a) (.slice At t.length ct) (.slice none 0 0) (Loc.own w.heap.size 9 1 (.slice At t.length ct) t.length (textsV t) :: Loc.own w.heap.size 2 1 (.slice A l.length a) l.length (l.map (Value.int .i64)) :: rdZ fs rc)
  | 4 => RdBad w W rb g off cap b last fs rc ∨ ∃ (p : PPk) (j4 : Nat), secsP (b.take last) 5 = .ok p.x j4 ∧ RdS w W rb g off cap b last j4 none (.int .i64 p.cards) (.slice p.Ai p.ints.length p.ci) (.slice p.At p.texts.length p.ct) (.slice p.Ak p.ks.length p.ck)
      (p.kindsL w.heap.size :: ((p.textsL w.heap.size :: p.intsL w.heap.size :: rdZ fs rc) ++ p.ks.flatMap (PK.locs w.heap.size)))
  | _ => False
section
variable {w W : World} {rb g off cap last fs rc : Nat} {b : List Oct}
theorem RdS.piece {w0 : World} {i : Nat} {F : Flt} {x4 x5 x6 x7 : Value} {Q : List Loc} {e : Loc} (h : RdS w0 W rb g off cap b last i F x4 x5 x6 x7 Q) (he : e ∈ Q) : e.holds W := by
  obtain ⟨en, fb, hb⟩ := h.box
  exact hb.all e (by simp [he])
theorem Stuck.piece {w0 : World} {Z : List Loc} {f : Nat × Nat} {e : Loc} (h : Stuck w0 W rb g off cap b last Z f) (he : e ∈ Z) : e.holds W := by
  obtain ⟨i, x4, x5, x6, x7, Q, hs, hz⟩ := h
  exact hs.piece (hz.sub e he)
theorem RdI.funcs {k : Nat} (h : RdI w W rb g off cap b last fs rc k) : Whole W fs 181 #[.func (.func 104) #[] #[], .func (.func 105) #[] #[], .func (.func 106) #[] #[], .func (.func 107) #[] #[]] := by
  have hm : (Loc.box fs 181 #[.func (.func 104) #[] #[], .func (.func 105) #[] #[], .func (.func 106) #[] #[], .func (.func 107) #[] #[]]) ∈ rdZ fs rc := by unfold rdZ; simp
  match k, h with
  | 0, h => exact h.piece hm
  | 1, .inl ⟨f, _, h⟩ => exact h.piece hm
  | 1, .inr ⟨c, j1, _, h⟩ => exact h.piece hm
  | 2, .inl ⟨f, _, h⟩ => exact h.piece hm
  | 2, .inr ⟨c, j1, l, A, a, j2, _, _, h⟩ => exact h.piece (List.mem_cons_of_mem _ hm)
  | 3, .inl ⟨f, _, h⟩ => exact h.piece hm
  | 3, .inr ⟨c, j1, l, A, a, j2, t, At, ct, j3, _, _, _, h⟩ => exact h.piece (List.mem_cons_of_mem _ (List.mem_cons_of_mem _ hm))
  | 4, .inl ⟨f, _, h⟩ => exact h.piece hm
  | 4, .inr ⟨p, j4, _, h⟩ => exact h.piece (List.mem_cons_of_mem _ (List.mem_append_left _ (List.mem_cons_of_mem _ (List.mem_cons_of_mem _ hm))))
theorem rdI_end (h : RdI w W rb g off cap b last fs rc 4) : ∃ (F : Flt) (i : Nat) (c : Int) (A5 : Option Addr) (n5 c5 : Nat) (A6 : Option Addr) (n6 c6 : Nat) (A7 : Option Addr) (n7 c7 : Nat) (Q : List Loc), RdS w W rb g off cap b last i F (.int .i64 c) (.slice A5 n5 c5) (.slice A6 n6 c6) (.slice A7 n7 c7) Q ∧ ∃ k : Nat, Q[k]? = some (Loc.box rc 26 #[.int .i64 0, .slice none 0 0, .slice none 0 0, .slice none 0 0]) ∧
    ((∃ f, F = some f ∧ secsP (b.take last) 5 = .bad f.1 f.2) ∨ ∃ p : PPk, F = none ∧ secsP (b.take last) 5 = .ok p.x i ∧ #[.int .i64 c, .slice A5 n5 c5, .slice A6 n6 c6, .slice A7 n7 c7] = p.vals ∧ Q = p.kindsL w.heap.size :: ((p.textsL w.heap.size :: p.intsL w.heap.size :: rdZ fs rc) ++ p.ks.flatMap (PK.locs w.heap.size)) ∧ k = 4) := by
  rcases h with ⟨f, hb, i, x4, x5, x6, x7, Q, hr, hz⟩ | ⟨p, j4, e, hr⟩
  · obtain ⟨c, rfl⟩ := hz.four
    obtain ⟨A5, n5, c5, rfl⟩ := hz.five
    obtain ⟨A6, n6, c6, rfl⟩ := hz.six
    obtain ⟨A7, n7, c7, rfl⟩ := hz.seven
    obtain ⟨k, hk⟩ := List.mem_iff_getElem?.1 (hz.sub (Loc.box rc 26 #[.int .i64 0, .slice none 0 0, .slice none 0 0, .slice none 0 0]) (by unfold rdZ; simp))
    exact ⟨some f, i, c, A5, n5, c5, A6, n6, c6, A7, n7, c7, Q, hr, k, hk, Or.inl ⟨f, rfl, hb⟩⟩
  · exact ⟨none, j4, _, _, _, _, _, _, _, _, _, _, _, hr, 4, rfl, Or.inr ⟨p, rfl, e, rfl, rfl, rfl⟩⟩
theorem results_cellT {P : Program} {fn : Func} {a b : Tmp} {t : TypeId} (h : fn.results = #[.cell a t, .tmp b]) (tmps : Array Value) (g : Nat) (hp : tmps.getD a undef = .pointer (some ⟨g, 0, none⟩)) (cs : Array Value) (v : Value) (hb : tmps.getD b undef = v) (w : World) (hW : Whole w g t cs) (d : TypeDesc) (hu : P.underlying t = some d)
    (hd : (match d with | .struct _ | .array _ _ => true | _ => false) = true) (hi : (P.info? t).map (·.size) = some cs.size) : (results fn tmps).run P w = .ok (.tuple #[.agg cs, v]) w := by
  have hl := run_loadVar_row (P := P) w g t t cs (0, 0) d hW hu hd hi
  have hp' : tmps[a]?.getD undef = .pointer (some ⟨g, 0, none⟩) := by rw [← Array.getD_eq_getD_getElem?]; exact hp
  have hb' : tmps[b]?.getD undef = v := by rw [← Array.getD_eq_getD_getElem?]; exact hb
  simp [results, h, hp', hb', asAddr, hl]
/-- The result is laid into its cell. -/
theorem rdr_put4 {i en fb k n : Nat} {A : Option Addr} {F : Flt} {x4 x5 x6 x7 x8 v0 v1 v2 v3 : Value} {t : TypeId} {Q : List Loc} {w0 : World} (u0 u1 u2 u3 : Value) (hb : Rdr w0 W rb A n cap i en F fb x4 x5 x6 x7 x8 Q) (hk : Q[k]? = some (Loc.box rc t #[v0, v1, v2, v3])) :
    Rdr w0 ((((W.setCell ⟨rc, 0, none⟩ u0).setCell ⟨rc, 1, none⟩ u1).setCell ⟨rc, 2, none⟩ u2).setCell ⟨rc, 3, none⟩ u3) rb A n cap i en F fb x4 x5 x6 x7 x8 (Q.set k (Loc.box rc t #[u0, u1, u2, u3])) := by
  have hkl := (List.getElem?_eq_some_iff.1 hk).1
  have e0 := hb.cell (k + 2) hk 0 u0
  have e1 := e0.cell (k + 2) (by show (Q.set k _)[k]? = _; rw [List.getElem?_set_self hkl]) 1 u1
  have e2 := e1.cell (k + 2) (by show ((Q.set k _).set k _)[k]? = _; rw [List.getElem?_set_self (by simpa using hkl)]) 2 u2
  have e3 := e2.cell (k + 2) (by show (((Q.set k _).set k _).set k _)[k]? = _; rw [List.getElem?_set_self (by simpa using hkl)]) 3 u3
  have e4 : ∀ (a b c d : Loc), (((Q.set k a).set k b).set k c).set k d = Q.set k d := fun a b c d => by rw [List.set_set, List.set_set, List.set_set]
  have e5 := e3
  simp only [List.set_cons_succ, e4] at e5
  exact e5
end
section
variable {w : World} {g off cap : Nat} {b : List Oct}
set_option maxRecDepth 8000 in
set_option maxHeartbeats 4000000 in
theorem read_any (hl : Lies w w.heap.size (some ⟨g, off, none⟩) (bytesV b)) (hcap : b.length ≤ cap) (h9 : 9 ≤ b.length) (hs : b.length ≤ 1048576) :
    Calls Tryz.prog 78 #[.slice (some ⟨g, off, none⟩) b.length cap] w fun r w' =>
      (∃ p : PPk, r = .returned (.tuple #[.agg p.vals, .nilIface]) ∧ secsP (b.take (b.length - 4)) 5 = .ok p.x (b.length - 4) ∧ Sep w w' (p.locs w.heap.size)) ∨
      ∃ (e q : Nat) (c : Int) (A5 : Option Addr) (n5 c5 : Nat) (A6 : Option Addr) (n6 c6 : Nat) (A7 : Option Addr) (n7 c7 : Nat) (fb : Nat), r = .returned (.tuple #[.agg #[.int .i64 c, .slice A5 n5 c5, .slice A6 n6 c6, .slice A7 n7 c7], .iface 114 (.pointer (some ⟨fb, 0, none⟩))]) ∧ (secsP (b.take (b.length - 4)) 5 = .bad e q ∨ ∃ x, secsP (b.take (b.length - 4)) 5 = .ok x q ∧ q ≠ b.length - 4 ∧ e = 55) ∧
        Whole w' fb 118 #[.int .i64 e, .int .i64 q] ∧ Keeps (fun _ => False) w w' := by
  have hla : b.length - 4 + 4 = b.length := by omega
  have HL := Lib.hid hl
  clear hl
  have hll : (b.length : Int) - 4 = ((b.length - 4 : Nat) : Int) := by omega
  have s1 := (Sep.start w).make 26 #[.int .i64 0, .slice none 0 0, .slice none 0 0, .slice none 0 0]
  have s2 := s1.make 180 #[.slice (some ⟨g, off, none⟩) b.length cap, .int .i64 5, .int .i64 0, .nilIface, .int .i64 0, .slice none 0 0, .slice none 0 0, .slice none 0 0, .int .i64 ((b.length - 4 : Nat) : Int)]
  have s3 := s2.make 181 (#[.func (.func 104) #[] #[], .func (.func 105) #[] #[], .func (.func 106) #[] #[], .func (.func 107) #[] #[]] : Array Value)
  have s4 := (s3.add (e := Loc.none) (Keeps.refl _ _) trivial (fun k e => by cases e)).perm (((List.Perm.swap _ _ _).cons _).trans (List.Perm.swap _ _ _))
  simp only [World.size_alloc] at s4
  have HI0 : Hid (RdI w (((w.alloc (.cells #[.int .i64 0, .slice none 0 0, .slice none 0 0, .slice none 0 0] 26)).alloc (.cells #[.slice (some ⟨g, off, none⟩) b.length cap, .int .i64 5, .int .i64 0, .nilIface, .int .i64 0, .slice none 0 0, .slice none 0 0, .slice none 0 0, .int .i64 ((b.length - 4 : Nat) : Int)] 180)).alloc (.cells (#[.func (.func 104) #[] #[], .func (.func 105) #[] #[], .func (.func 106) #[] #[], .func (.func 107) #[] #[]] : Array Value) 181)) (w.heap.size + 1) g off cap b (b.length - 4) (w.heap.size + 1 + 1) w.heap.size 0) := Lib.hid ⟨⟨0, 0, s4⟩, HL.out, hcap, hla, by omega, hs⟩
  clear s1 s2 s3 s4
  go_enter Tryz.func78, Tryz.ntmps78
  go_wp2_with fail
  try simp only [hll]
  go_loopw [16] (fun vi wr => ∃ k : Nat, k ≤ 4 ∧ vi = .int .i64 k ∧ Hid (RdI w wr (w.heap.size + 1) g off cap b (b.length - 4) (w.heap.size + 1 + 1) w.heap.size k)) (fun vi _ => 4 - (intOf vi).toNat)
  case atStart => exact ⟨0, by omega, rfl, HI0⟩
  case round =>
    clear HI0
    obtain ⟨k, hk, rfl, HI⟩ := hrel
    by_cases hlt : k < 4
    · have h4 : k = 0 ∨ k = 1 ∨ k = 2 ∨ k = 3 := by omega
      rcases h4 with rfl | rfl | rfl | rfl
      · have hf := HI.out.funcs
        have fk := hf.cellAt 0
        have HSC : Hid (Calls Tryz.prog 108 #[.pointer (some ⟨w.heap.size + 1, 0, none⟩), .int .u8 1, .func (.func 104) #[] #[]] wr fun r w' => r = .returned (.tuple #[]) ∧ RdI w w' (w.heap.size + 1) g off cap b (b.length - 4) (w.heap.size + 1 + 1) w.heap.size 1) := Lib.hid (by
          have h0 := HI.out
          refine (section_lit2 (Z := rdZ (w.heap.size + 1 + 1) w.heap.size) (numP 2) (fun y : Nat => (y : Int)) (fun y => .int .i64 y) (fun _ => .slice none 0 0) (fun _ => .slice none 0 0) (fun _ => .slice none 0 0) (fun _ => rdZ (w.heap.size + 1 + 1) w.heap.size) 1 1 rfl (by decide) 104 (enters_of Tryz.func104 (by kernel_rfl) rfl) h0 ⟨(fun _ h => h), ⟨_, rfl⟩, ⟨_, _, _, rfl⟩, ⟨_, _, _, rfl⟩, ⟨_, _, _, rfl⟩⟩ (fun _ => ⟨(fun _ h => h), ⟨_, rfl⟩, ⟨_, _, _, rfl⟩, ⟨_, _, _, rfl⟩, ⟨_, _, _, rfl⟩⟩) (fun W en h => cards_any h)).mono ?_
          rintro r w1 ⟨rfl, ⟨s, j, e1, h⟩ | ⟨e, q, e1, h⟩⟩
          · exact ⟨rfl, Or.inr ⟨s, j, e1, h⟩⟩
          · exact ⟨rfl, Or.inl ⟨(e, q), secs_bad1 e1, h⟩⟩)
        clear HI hf
        go_wp2_with fail
        refine HSC.out.mono ?_
        rintro r w1 ⟨rfl, hi1⟩
        have HJ := Lib.hid hi1
        clear hi1 HSC fk
        go_wp2_with fail
        go_roundw
        case rel => exact ⟨1, by omega, by go_num, HJ⟩
        case measure => simp [intOf]
      · have hf := HI.out.funcs
        have fk := hf.cellAt 1
        have HSC : Hid (Calls Tryz.prog 108 #[.pointer (some ⟨w.heap.size + 1, 0, none⟩), .int .u8 2, .func (.func 105) #[] #[]] wr fun r w' => r = .returned (.tuple #[]) ∧ RdI w w' (w.heap.size + 1) g off cap b (b.length - 4) (w.heap.size + 1 + 1) w.heap.size 2) := Lib.hid (by
          rcases HI.out with ⟨f, hb, h0⟩ | ⟨c, j1, e1, h0⟩
          · refine (section_stuck 2 _ h0).mono ?_
            rintro r w1 ⟨rfl, h⟩
            exact ⟨rfl, Or.inl ⟨f, hb, h⟩⟩
          · refine (section_lit2 (Z := rdZ (w.heap.size + 1 + 1) w.heap.size) (listP 2 s64P) (fun y : List Int × Option Addr × Nat => y.1) (fun _ => .int .i64 c) (fun y => .slice y.2.1 y.1.length y.2.2) (fun _ => .slice none 0 0) (fun _ => .slice none 0 0) (fun y => Loc.own w.heap.size 2 1 (.slice y.2.1 y.1.length y.2.2) y.1.length (y.1.map (Value.int .i64)) :: rdZ (w.heap.size + 1 + 1) w.heap.size) 2 2 rfl (by decide) 105 (enters_of Tryz.func105 (by kernel_rfl) rfl) h0 ⟨(fun _ h => h), ⟨_, rfl⟩, ⟨_, _, _, rfl⟩, ⟨_, _, _, rfl⟩, ⟨_, _, _, rfl⟩⟩ (fun _ => ⟨(fun _ h => List.mem_cons_of_mem _ h), ⟨_, rfl⟩, ⟨_, _, _, rfl⟩, ⟨_, _, _, rfl⟩, ⟨_, _, _, rfl⟩⟩) (fun W en h => (ints_any h).mono fun r w' ⟨hr, l, A, c, hs⟩ => ⟨hr, (l, A, c), hs⟩)).mono ?_
            rintro r w1 ⟨rfl, ⟨s, j, e2, h⟩ | ⟨e, q, e2, h⟩⟩
            · exact ⟨rfl, Or.inr ⟨c, j1, s.1, s.2.1, s.2.2, j, e1, e2, h⟩⟩
            · exact ⟨rfl, Or.inl ⟨(e, q), secs_bad2 e1 e2, h⟩⟩)
        clear HI hf
        go_wp2_with fail
        refine HSC.out.mono ?_
        rintro r w1 ⟨rfl, hi1⟩
        have HJ := Lib.hid hi1
        clear hi1 HSC fk
        go_wp2_with fail
        go_roundw
        case rel => exact ⟨2, by omega, by go_num, HJ⟩
        case measure => simp [intOf]
      · have hf := HI.out.funcs
        have fk := hf.cellAt 2
        have HSC : Hid (Calls Tryz.prog 108 #[.pointer (some ⟨w.heap.size + 1, 0, none⟩), .int .u8 3, .func (.func 106) #[] #[]] wr fun r w' => r = .returned (.tuple #[]) ∧ RdI w w' (w.heap.size + 1) g off cap b (b.length - 4) (w.heap.size + 1 + 1) w.heap.size 3) := Lib.hid (by
          rcases HI.out with ⟨f, hb, h0⟩ | ⟨c, j1, l, A, a, j2, e1, e2, h0⟩
          · refine (section_stuck 3 _ h0).mono ?_
            rintro r w1 ⟨rfl, h⟩
            exact ⟨rfl, Or.inl ⟨f, hb, h⟩⟩
          · refine (section_lit2 (Z := rdZ (w.heap.size + 1 + 1) w.heap.size) (listP 2 (bytesP 1)) (fun y : List (List Oct) × Option Addr × Nat => y.1) (fun _ => .int .i64 c) (fun _ => .slice A l.length a) (fun y => .slice y.2.1 y.1.length y.2.2) (fun _ => .slice none 0 0) (fun y => Loc.own w.heap.size 9 1 (.slice y.2.1 y.1.length y.2.2) y.1.length (textsV y.1) :: Loc.own w.heap.size 2 1 (.slice A l.length a) l.length (l.map (Value.int .i64)) :: rdZ (w.heap.size + 1 + 1) w.heap.size) 3 3 rfl (by decide) 106 (enters_of Tryz.func106 (by kernel_rfl) rfl) h0 ⟨(fun _ h => List.mem_cons_of_mem _ h), ⟨_, rfl⟩, ⟨_, _, _, rfl⟩, ⟨_, _, _, rfl⟩, ⟨_, _, _, rfl⟩⟩ (fun _ => ⟨(fun _ h => List.mem_cons_of_mem _ (List.mem_cons_of_mem _ h)), ⟨_, rfl⟩, ⟨_, _, _, rfl⟩, ⟨_, _, _, rfl⟩, ⟨_, _, _, rfl⟩⟩) (fun W en h => (texts_any h).mono fun r w' ⟨hr, l, A, c, hs⟩ => ⟨hr, (l, A, c), hs⟩)).mono ?_
            rintro r w1 ⟨rfl, ⟨s, j, e3, h⟩ | ⟨e, q, e3, h⟩⟩
            · exact ⟨rfl, Or.inr ⟨c, j1, l, A, a, j2, s.1, s.2.1, s.2.2, j, e1, e2, e3, h⟩⟩
            · exact ⟨rfl, Or.inl ⟨(e, q), secs_bad3 e1 e2 e3, h⟩⟩)
        clear HI hf
        go_wp2_with fail
        refine HSC.out.mono ?_
        rintro r w1 ⟨rfl, hi1⟩
        have HJ := Lib.hid hi1
        clear hi1 HSC fk
        go_wp2_with fail
        go_roundw
        case rel => exact ⟨3, by omega, by go_num, HJ⟩
        case measure => simp [intOf]
      · have hf := HI.out.funcs
        have fk := hf.cellAt 3
        have HSC : Hid (Calls Tryz.prog 108 #[.pointer (some ⟨w.heap.size + 1, 0, none⟩), .int .u8 4, .func (.func 107) #[] #[]] wr fun r w' => r = .returned (.tuple #[]) ∧ RdI w w' (w.heap.size + 1) g off cap b (b.length - 4) (w.heap.size + 1 + 1) w.heap.size 4) := Lib.hid (by
          rcases HI.out with ⟨f, hb, h0⟩ | ⟨c, j1, l, A, a, j2, t, At, ct, j3, e1, e2, e3, h0⟩
          · refine (section_stuck 4 _ h0).mono ?_
            rintro r w1 ⟨rfl, h⟩
            exact ⟨rfl, Or.inl ⟨f, hb, h⟩⟩
          · refine (section_lit2 (Z := rdZ (w.heap.size + 1 + 1) w.heap.size) (listP 2 kndP) (fun y : List PK × Option Addr × Nat => y.1.map PK.knd) (fun _ => .int .i64 c) (fun _ => .slice A l.length a) (fun _ => .slice At t.length ct) (fun y => .slice y.2.1 y.1.length y.2.2) (fun y => Loc.own w.heap.size 40 6 (.slice y.2.1 y.1.length y.2.2) y.1.length (kndVals y.1) :: ((Loc.own w.heap.size 9 1 (.slice At t.length ct) t.length (textsV t) :: Loc.own w.heap.size 2 1 (.slice A l.length a) l.length (l.map (Value.int .i64)) :: rdZ (w.heap.size + 1 + 1) w.heap.size) ++ y.1.flatMap (PK.locs w.heap.size))) 4 4 rfl (by decide) 107 (enters_of Tryz.func107 (by kernel_rfl) rfl) h0 ⟨(fun _ h => List.mem_cons_of_mem _ (List.mem_cons_of_mem _ h)), ⟨_, rfl⟩, ⟨_, _, _, rfl⟩, ⟨_, _, _, rfl⟩, ⟨_, _, _, rfl⟩⟩ (fun _ => ⟨(fun _ h => List.mem_cons_of_mem _ (List.mem_append_left _ (List.mem_cons_of_mem _ (List.mem_cons_of_mem _ h)))), ⟨_, rfl⟩, ⟨_, _, _, rfl⟩, ⟨_, _, _, rfl⟩, ⟨_, _, _, rfl⟩⟩) (fun W en h => (kinds_any h).mono fun r w' ⟨hr, l, A, c, hs⟩ => ⟨hr, (l, A, c), hs⟩)).mono ?_
            rintro r w1 ⟨rfl, ⟨s, j, e4, h⟩ | ⟨e, q, e4, h⟩⟩
            · exact ⟨rfl, Or.inr ⟨⟨c, l, A, a, t, At, ct, s.1, s.2.1, s.2.2⟩, j, secs_ok e1 e2 e3 e4, h⟩⟩
            · exact ⟨rfl, Or.inl ⟨(e, q), secs_bad4 e1 e2 e3 e4, h⟩⟩)
        clear HI hf
        go_wp2_with fail
        refine HSC.out.mono ?_
        rintro r w1 ⟨rfl, hi1⟩
        have HJ := Lib.hid hi1
        clear hi1 HSC fk
        go_wp2_with fail
        go_roundw
        case rel => exact ⟨4, by omega, by go_num, HJ⟩
        case measure => simp [intOf]
    · obtain rfl : k = 4 := by omega
      obtain ⟨F, i, c, A5, n5, c5, A6, n6, c6, A7, n7, c7, Q, hr, kr, hkr, hout⟩ := rdI_end HI.out
      obtain ⟨en, fb, hb⟩ := hr.rbox
      have a1 := hb.cellAt 1
      have a8 := hb.cellAt 8
      have HR := Lib.hid hr
      have HO := Lib.hid hout
      have HK := Lib.hid hkr
      clear hr hout hkr hb HI
      by_cases hi : i = b.length - 4
      · have hq1 : ((i : Int) != ((b.length - 4 : Nat) : Int)) = false := by simp [hi]
        have hq2 : (i : Int) = ((b.length - 4 : Nat) : Int) := by omega
        have HT := Lib.hid hi
        clear hi
        go_wp2_with fail
        go_quiet (fail)
        go_wp2_with fail
        have HR9 := Lib.hid (HR.out.past ((Keeps.refl _ wr).drewN nq))
        generalize wr.drewN nq = W9 at *
        clear HR a1 a8 hq1 hq2
        obtain ⟨en9, fb9, hs9⟩ := (HR9.out.past ((Keeps.refl _ W9).drew)).box
        have hb9 := hs9.box_at 0 rfl
        unfold rdC at hb9
        have hS0 : Hid (W9.drew.cell? ⟨w.heap.size + 1, 3, none⟩ = some (errV F fb9) ∧ W9.drew.cell? ⟨w.heap.size + 1, 4, none⟩ = some (.int .i64 c) ∧ W9.drew.cell? ⟨w.heap.size + 1, 5, none⟩ = some (.slice A5 n5 c5) ∧ W9.drew.cell? ⟨w.heap.size + 1, 6, none⟩ = some (.slice A6 n6 c6) ∧ W9.drew.cell? ⟨w.heap.size + 1, 7, none⟩ = some (.slice A7 n7 c7)) := Lib.hid ⟨hb9.cellAt 3, hb9.cellAt 4, hb9.cellAt 5, hb9.cellAt 6, hb9.cellAt 7⟩
        have HZ := Lib.hid (rdr_put4 (.int .i64 c) (.slice A5 n5 c5) (.slice A6 n6 c6) (.slice A7 n7 c7) hs9 HK.out)
        have hrc : Whole W9.drew w.heap.size 26 #[.int .i64 0, .slice none 0 0, .slice none 0 0, .slice none 0 0] := hs9.all (Loc.box w.heap.size 26 #[.int .i64 0, .slice none 0 0, .slice none 0 0, .slice none 0 0]) (by simp [List.mem_of_getElem? HK.out])
        obtain ⟨p0, p1, p2, p3⟩ := four hrc
        have f0 := hrc.free 0
        have f1 := hrc.free 1
        have f2 := hrc.free 2
        have f3 := hrc.free 3
        clear hs9 hb9 hrc HR9
        refine wp_region_upTo 9 (fun W => W.cell? ⟨w.heap.size + 1, 3, none⟩ = some (errV F fb9) ∧ W.cell? ⟨w.heap.size + 1, 4, none⟩ = some (.int .i64 c) ∧ W.cell? ⟨w.heap.size + 1, 5, none⟩ = some (.slice A5 n5 c5) ∧ W.cell? ⟨w.heap.size + 1, 6, none⟩ = some (.slice A6 n6 c6) ∧ W.cell? ⟨w.heap.size + 1, 7, none⟩ = some (.slice A7 n7 c7)) (fun _ => True) (by kernel_rfl) ?_
        generalize W9.drew = Wd at *
        refine upTo_take (i := 0) (v := ?v1) rfl (by kernel_rfl) (by kernel_rfl) (by kernel_rfl) (fun _ _ _ h => by first | exact h | exact absurd h.1 (fun e => by cases e)) (by decide) (Or.inl ⟨by rfl, ?hy1⟩) (hS0.out) (fun _ => trivial) ?rest1
        case hy1 =>
          intro w hSw
          clear hSw
          go_simp
          try with_reducible rfl
        go_simp
        refine upTo_take (i := 1) (v := ?v2) rfl (by kernel_rfl) (by kernel_rfl) (by kernel_rfl) (fun _ _ _ h => by first | exact h | exact absurd h.1 (fun e => by cases e)) (by decide) (Or.inl ⟨by rfl, ?hy2⟩) (hS0.out) (fun _ => trivial) ?rest2
        case hy2 =>
          intro w hSw
          clear hSw
          go_simp
          try with_reducible rfl
        go_simp
        refine upTo_take (i := 2) (v := ?v3) rfl (by kernel_rfl) (by kernel_rfl) (by kernel_rfl) (fun _ _ _ h => by first | exact h | exact absurd h.1 (fun e => by cases e)) (by decide) (Or.inl ⟨by rfl, ?hy3⟩) (hS0.out) (fun _ => trivial) ?rest3
        case hy3 =>
          intro w hSw
          clear hSw
          go_simp
          try with_reducible rfl
        go_simp
        refine upTo_take (i := 3) (v := ?v4) rfl (by kernel_rfl) (by kernel_rfl) (by kernel_rfl) (fun _ _ _ h => by first | exact h | exact absurd h.1 (fun e => by cases e)) (by decide) (Or.inl ⟨by rfl, ?hy4⟩) (hS0.out) (fun _ => trivial) ?rest4
        case hy4 =>
          intro w hSw
          obtain ⟨q3, q4, q5, q6, q7⟩ := hSw
          go_simp
          try with_reducible rfl
        go_simp
        refine upTo_take (i := 4) (v := ?v5) rfl (by kernel_rfl) (by kernel_rfl) (by kernel_rfl) (fun _ _ _ h => by first | exact h | exact absurd h.1 (fun e => by cases e)) (by decide) (Or.inl ⟨by rfl, ?hy5⟩) (hS0.out) (fun _ => trivial) ?rest5
        case hy5 =>
          intro w hSw
          clear hSw
          go_simp
          try with_reducible rfl
        go_simp
        refine upTo_take (i := 5) (v := ?v6) rfl (by kernel_rfl) (by kernel_rfl) (by kernel_rfl) (fun _ _ _ h => by first | exact h | exact absurd h.1 (fun e => by cases e)) (by decide) (Or.inl ⟨by rfl, ?hy6⟩) (hS0.out) (fun _ => trivial) ?rest6
        case hy6 =>
          intro w hSw
          clear hSw
          go_simp
          try with_reducible rfl
        go_simp
        refine upTo_take (i := 6) (v := ?v7) rfl (by kernel_rfl) (by kernel_rfl) (by kernel_rfl) (fun _ _ _ h => by first | exact h | exact absurd h.1 (fun e => by cases e)) (by decide) (Or.inl ⟨by rfl, ?hy7⟩) (hS0.out) (fun _ => trivial) ?rest7
        case hy7 =>
          intro w hSw
          clear hSw
          go_simp
          try with_reducible rfl
        go_simp
        refine upTo_take (i := 7) (v := ?v8) rfl (by kernel_rfl) (by kernel_rfl) (by kernel_rfl) (fun _ _ _ h => by first | exact h | exact absurd h.1 (fun e => by cases e)) (by decide) (Or.inl ⟨by rfl, ?hy8⟩) (hS0.out) (fun _ => trivial) ?rest8
        case hy8 =>
          intro w hSw
          clear hSw
          go_simp
          try with_reducible rfl
        go_simp
        refine upTo_take (i := 8) (v := ?v9) rfl (by kernel_rfl) (by kernel_rfl) (by kernel_rfl) (fun _ _ _ h => by first | exact h | exact absurd h.1 (fun e => by cases e)) (by decide) (Or.inl ⟨by rfl, ?hy9⟩) (hS0.out) (fun _ => trivial) ?rest9
        case hy9 =>
          intro w hSw
          obtain ⟨q3, q4, q5, q6, q7⟩ := hSw
          go_simp
          try with_reducible rfl
        go_simp
        refine upTo_next (i := 9) (by kernel_rfl) rfl ?_
        intro K hK
        go_simp
        refine hK.out _ _ (let h := HZ.out.box_at 0 rfl; ⟨h.cellAt 3, h.cellAt 4, h.cellAt 5, h.cellAt 6, h.cellAt 7⟩) (fun h => absurd h (by decide)) ?_
        clear hK K
        go_simp
        refine upTo_take (i := 10) (v := ?v10) rfl (by kernel_rfl) (by kernel_rfl) (by kernel_rfl) (fun _ _ _ h => by first | exact h | exact absurd h.1 (fun e => by cases e)) (by decide) (Or.inl ⟨by rfl, ?hy10⟩) (let h := HZ.out.box_at 0 rfl; ⟨h.cellAt 3, h.cellAt 4, h.cellAt 5, h.cellAt 6, h.cellAt 7⟩) (fun h => absurd h (by decide)) ?rest10
        case hy10 =>
          intro w hSw
          clear hSw
          go_simp
          try with_reducible rfl
        go_simp
        refine upTo_done (by kernel_rfl) ?_ _
        have hkl := (List.getElem?_eq_some_iff.1 HK.out).1
        have hrz := HZ.out.box_at (kr + 2) (by show (Q.set kr _)[kr]? = _; rw [List.getElem?_set_self hkl])
        clear hS0 p0 p1 p2 p3 f0 f1 f2 f3
        go_wp2_with fail
        refine bodyPost_ret (results_cellT (by rfl) _ w.heap.size (by rfl) #[.int .i64 c, .slice A5 n5 c5, .slice A6 n6 c6, .slice A7 n7 c7] (errV F fb9) (by rfl) _ hrz _ Tryz.underlying26 rfl (by kernel_rfl)) rfl ?_
        rcases HO.out with ⟨f, rfl, hb⟩ | ⟨p, rfl, e, hv, rfl, rfl⟩
        · exact Or.inr ⟨f.1, f.2, c, A5, n5, c5, A6, n6, c6, A7, n7, c7, fb9, rfl, Or.inl hb, HZ.out.at_ 1 rfl, HZ.out.old⟩
        · refine Or.inl ⟨p, by rw [hv]; rfl, by rw [e, HT.out], HZ.out.sub ?_⟩
          exact (((((((List.sublist_cons_self _ _).cons _).cons_cons _).cons_cons _).cons_cons _).cons _).cons _)
      · have hq1 : ((i : Int) != ((b.length - 4 : Nat) : Int)) = true := bne_iff_ne.2 (by omega)
        have hq2 : ¬ ((i : Int) = ((b.length - 4 : Nat) : Int)) := by omega
        have HT := Lib.hid hi
        clear hi
        go_wp2_with fail
        go_quiet (fail)
        go_wp2_with fail
        have HR8 := Lib.hid (HR.out.past ((Keeps.refl _ wr).drewN nq))
        generalize wr.drewN nq = W9 at *
        have h8d := HR8.out.past ((Keeps.refl _ W9).drew)
        have hc1 : Hid (W9.drew.cell? ⟨w.heap.size + 1, 1, none⟩ = some (.int .i64 i)) := Lib.hid (by
          obtain ⟨en8, fb8, hb8⟩ := h8d.rbox
          exact hb8.cellAt 1)
        have HFl := Lib.hid (h8d.fail 55 i)
        clear HR a1 a8 hq1 hq2 h8d
        refine wp_region_upTo 8 (fun _ => True) (fun W => W.cell? ⟨w.heap.size + 1, 1, none⟩ = some (.int .i64 i)) (by kernel_rfl) ?_
        refine upTo_take (i := 0) (v := ?v11) rfl (by kernel_rfl) (by kernel_rfl) (by kernel_rfl) (fun _ _ _ h => by first | exact h | exact absurd h.1 (fun e => by cases e)) (by decide) (Or.inl ⟨by rfl, ?hy11⟩) (trivial) (fun _ => hc1.out) ?rest11
        case hy11 =>
          intro w hSw
          clear hSw
          go_simp
          try with_reducible rfl
        go_simp
        refine upTo_take (i := 1) (v := ?v12) rfl (by kernel_rfl) (by kernel_rfl) (by kernel_rfl) (fun _ _ _ h => by first | exact h | exact absurd h.1 (fun e => by cases e)) (by decide) (Or.inl ⟨by rfl, ?hy12⟩) (trivial) (fun _ => hc1.out) ?rest12
        case hy12 =>
          intro w hSw
          clear hSw
          go_simp
          try with_reducible rfl
        go_simp
        refine upTo_take (i := 2) (v := ?v13) rfl (by kernel_rfl) (by kernel_rfl) (by kernel_rfl) (fun _ _ _ h => by first | exact h | exact absurd h.1 (fun e => by cases e)) (by decide) (Or.inl ⟨by rfl, ?hy13⟩) (trivial) (fun _ => hc1.out) ?rest13
        case hy13 =>
          intro w hSw
          clear hSw
          go_simp
          try with_reducible rfl
        go_simp
        refine upTo_take (i := 3) (v := ?v14) rfl (by kernel_rfl) (by kernel_rfl) (by kernel_rfl) (fun _ _ _ h => by first | exact h | exact absurd h.1 (fun e => by cases e)) (by decide) (Or.inl ⟨by rfl, ?hy14⟩) (trivial) (fun _ => hc1.out) ?rest14
        case hy14 =>
          intro w hSw
          clear hSw
          go_simp
          try with_reducible rfl
        go_simp
        refine upTo_take (i := 4) (v := ?v15) rfl (by kernel_rfl) (by kernel_rfl) (by kernel_rfl) (fun _ _ _ h => by first | exact h | exact absurd h.1 (fun e => by cases e)) (by decide) (Or.inl ⟨by rfl, ?hy15⟩) (trivial) (fun _ => hc1.out) ?rest15
        case hy15 =>
          intro w hSw
          clear hSw
          go_simp
          try with_reducible rfl
        go_simp
        refine upTo_take (i := 5) (v := ?v16) rfl (by kernel_rfl) (by kernel_rfl) (by kernel_rfl) (fun _ _ _ h => by first | exact h | exact absurd h.1 (fun e => by cases e)) (by decide) (Or.inl ⟨by rfl, ?hy16⟩) (trivial) (fun _ => hc1.out) ?rest16
        case hy16 =>
          intro w hSw
          clear hSw
          go_simp
          try with_reducible rfl
        go_simp
        refine upTo_take (i := 6) (v := ?v17) rfl (by kernel_rfl) (by kernel_rfl) (by kernel_rfl) (fun _ _ _ h => by first | exact h | exact absurd h.1 (fun e => by cases e)) (by decide) (Or.inl ⟨by rfl, ?hy17⟩) (trivial) (fun _ => hc1.out) ?rest17
        case hy17 =>
          intro w hSw
          clear hSw
          go_simp
          try with_reducible rfl
        go_simp
        refine upTo_load (i := 7) (v := ?v18) rfl (by kernel_rfl) (by kernel_rfl) (by kernel_rfl) (fun _ _ _ h => by first | exact h | exact absurd h.1 (fun e => by cases e)) (by decide) (by kernel_rfl) (by kernel_rfl) (Or.inl ⟨by rfl, ?hy18⟩) (trivial) (hc1.out) ?rest18
        case hy18 =>
          intro w hSw
          obtain qh := hSw
          go_simp
          try with_reducible rfl
        go_simp
        refine upTo_next (i := 8) (by kernel_rfl) rfl ?_
        intro K hK
        go_simp
        refine (HFl.out).mono ?_
        rintro r w8 ⟨rfl, h8⟩
        have HR9 := Lib.hid h8
        clear h8 HFl HR8
        refine hK.out _ _ (trivial) (fun h => absurd h (by decide)) ?_
        clear hK K
        go_simp
        refine upTo_done (by kernel_rfl) ?_ _
        clear hc1
        go_wp2_with fail
        generalize w8 = W9 at *
        obtain ⟨en9, fb9, hs9⟩ := (HR9.out.past ((Keeps.refl _ W9).drew)).box
        have hb9 := hs9.box_at 0 rfl
        unfold rdC at hb9
        have hS0 : Hid (W9.drew.cell? ⟨w.heap.size + 1, 3, none⟩ = some (errV (F.or 55 i) fb9) ∧ W9.drew.cell? ⟨w.heap.size + 1, 4, none⟩ = some (.int .i64 c) ∧ W9.drew.cell? ⟨w.heap.size + 1, 5, none⟩ = some (.slice A5 n5 c5) ∧ W9.drew.cell? ⟨w.heap.size + 1, 6, none⟩ = some (.slice A6 n6 c6) ∧ W9.drew.cell? ⟨w.heap.size + 1, 7, none⟩ = some (.slice A7 n7 c7)) := Lib.hid ⟨hb9.cellAt 3, hb9.cellAt 4, hb9.cellAt 5, hb9.cellAt 6, hb9.cellAt 7⟩
        have HZ := Lib.hid (rdr_put4 (.int .i64 c) (.slice A5 n5 c5) (.slice A6 n6 c6) (.slice A7 n7 c7) hs9 HK.out)
        have hrc : Whole W9.drew w.heap.size 26 #[.int .i64 0, .slice none 0 0, .slice none 0 0, .slice none 0 0] := hs9.all (Loc.box w.heap.size 26 #[.int .i64 0, .slice none 0 0, .slice none 0 0, .slice none 0 0]) (by simp [List.mem_of_getElem? HK.out])
        obtain ⟨p0, p1, p2, p3⟩ := four hrc
        have f0 := hrc.free 0
        have f1 := hrc.free 1
        have f2 := hrc.free 2
        have f3 := hrc.free 3
        clear hs9 hb9 hrc HR9
        refine wp_region_upTo 9 (fun W => W.cell? ⟨w.heap.size + 1, 3, none⟩ = some (errV (F.or 55 i) fb9) ∧ W.cell? ⟨w.heap.size + 1, 4, none⟩ = some (.int .i64 c) ∧ W.cell? ⟨w.heap.size + 1, 5, none⟩ = some (.slice A5 n5 c5) ∧ W.cell? ⟨w.heap.size + 1, 6, none⟩ = some (.slice A6 n6 c6) ∧ W.cell? ⟨w.heap.size + 1, 7, none⟩ = some (.slice A7 n7 c7)) (fun _ => True) (by kernel_rfl) ?_
        generalize W9.drew = Wd at *
        refine upTo_take (i := 0) (v := ?v19) rfl (by kernel_rfl) (by kernel_rfl) (by kernel_rfl) (fun _ _ _ h => by first | exact h | exact absurd h.1 (fun e => by cases e)) (by decide) (Or.inl ⟨by rfl, ?hy19⟩) (hS0.out) (fun _ => trivial) ?rest19
        case hy19 =>
          intro w hSw
          clear hSw
          go_simp
          try with_reducible rfl
        go_simp
        refine upTo_take (i := 1) (v := ?v20) rfl (by kernel_rfl) (by kernel_rfl) (by kernel_rfl) (fun _ _ _ h => by first | exact h | exact absurd h.1 (fun e => by cases e)) (by decide) (Or.inl ⟨by rfl, ?hy20⟩) (hS0.out) (fun _ => trivial) ?rest20
        case hy20 =>
          intro w hSw
          clear hSw
          go_simp
          try with_reducible rfl
        go_simp
        refine upTo_take (i := 2) (v := ?v21) rfl (by kernel_rfl) (by kernel_rfl) (by kernel_rfl) (fun _ _ _ h => by first | exact h | exact absurd h.1 (fun e => by cases e)) (by decide) (Or.inl ⟨by rfl, ?hy21⟩) (hS0.out) (fun _ => trivial) ?rest21
        case hy21 =>
          intro w hSw
          clear hSw
          go_simp
          try with_reducible rfl
        go_simp
        refine upTo_take (i := 3) (v := ?v22) rfl (by kernel_rfl) (by kernel_rfl) (by kernel_rfl) (fun _ _ _ h => by first | exact h | exact absurd h.1 (fun e => by cases e)) (by decide) (Or.inl ⟨by rfl, ?hy22⟩) (hS0.out) (fun _ => trivial) ?rest22
        case hy22 =>
          intro w hSw
          obtain ⟨q3, q4, q5, q6, q7⟩ := hSw
          go_simp
          try with_reducible rfl
        go_simp
        refine upTo_take (i := 4) (v := ?v23) rfl (by kernel_rfl) (by kernel_rfl) (by kernel_rfl) (fun _ _ _ h => by first | exact h | exact absurd h.1 (fun e => by cases e)) (by decide) (Or.inl ⟨by rfl, ?hy23⟩) (hS0.out) (fun _ => trivial) ?rest23
        case hy23 =>
          intro w hSw
          clear hSw
          go_simp
          try with_reducible rfl
        go_simp
        refine upTo_take (i := 5) (v := ?v24) rfl (by kernel_rfl) (by kernel_rfl) (by kernel_rfl) (fun _ _ _ h => by first | exact h | exact absurd h.1 (fun e => by cases e)) (by decide) (Or.inl ⟨by rfl, ?hy24⟩) (hS0.out) (fun _ => trivial) ?rest24
        case hy24 =>
          intro w hSw
          clear hSw
          go_simp
          try with_reducible rfl
        go_simp
        refine upTo_take (i := 6) (v := ?v25) rfl (by kernel_rfl) (by kernel_rfl) (by kernel_rfl) (fun _ _ _ h => by first | exact h | exact absurd h.1 (fun e => by cases e)) (by decide) (Or.inl ⟨by rfl, ?hy25⟩) (hS0.out) (fun _ => trivial) ?rest25
        case hy25 =>
          intro w hSw
          clear hSw
          go_simp
          try with_reducible rfl
        go_simp
        refine upTo_take (i := 7) (v := ?v26) rfl (by kernel_rfl) (by kernel_rfl) (by kernel_rfl) (fun _ _ _ h => by first | exact h | exact absurd h.1 (fun e => by cases e)) (by decide) (Or.inl ⟨by rfl, ?hy26⟩) (hS0.out) (fun _ => trivial) ?rest26
        case hy26 =>
          intro w hSw
          clear hSw
          go_simp
          try with_reducible rfl
        go_simp
        refine upTo_take (i := 8) (v := ?v27) rfl (by kernel_rfl) (by kernel_rfl) (by kernel_rfl) (fun _ _ _ h => by first | exact h | exact absurd h.1 (fun e => by cases e)) (by decide) (Or.inl ⟨by rfl, ?hy27⟩) (hS0.out) (fun _ => trivial) ?rest27
        case hy27 =>
          intro w hSw
          obtain ⟨q3, q4, q5, q6, q7⟩ := hSw
          go_simp
          try with_reducible rfl
        go_simp
        refine upTo_next (i := 9) (by kernel_rfl) rfl ?_
        intro K hK
        go_simp
        refine hK.out _ _ (let h := HZ.out.box_at 0 rfl; ⟨h.cellAt 3, h.cellAt 4, h.cellAt 5, h.cellAt 6, h.cellAt 7⟩) (fun h => absurd h (by decide)) ?_
        clear hK K
        go_simp
        refine upTo_take (i := 10) (v := ?v28) rfl (by kernel_rfl) (by kernel_rfl) (by kernel_rfl) (fun _ _ _ h => by first | exact h | exact absurd h.1 (fun e => by cases e)) (by decide) (Or.inl ⟨by rfl, ?hy28⟩) (let h := HZ.out.box_at 0 rfl; ⟨h.cellAt 3, h.cellAt 4, h.cellAt 5, h.cellAt 6, h.cellAt 7⟩) (fun h => absurd h (by decide)) ?rest28
        case hy28 =>
          intro w hSw
          clear hSw
          go_simp
          try with_reducible rfl
        go_simp
        refine upTo_done (by kernel_rfl) ?_ _
        have hkl := (List.getElem?_eq_some_iff.1 HK.out).1
        have hrz := HZ.out.box_at (kr + 2) (by show (Q.set kr _)[kr]? = _; rw [List.getElem?_set_self hkl])
        clear hS0 p0 p1 p2 p3 f0 f1 f2 f3
        go_wp2_with fail
        refine bodyPost_ret (results_cellT (by rfl) _ w.heap.size (by rfl) #[.int .i64 c, .slice A5 n5 c5, .slice A6 n6 c6, .slice A7 n7 c7] (errV (F.or 55 i) fb9) (by rfl) _ hrz _ Tryz.underlying26 rfl (by kernel_rfl)) rfl ?_
        rcases HO.out with ⟨f, rfl, hb⟩ | ⟨p, rfl, e, hv, rfl, rfl⟩
        · exact Or.inr ⟨f.1, f.2, c, A5, n5, c5, A6, n6, c6, A7, n7, c7, fb9, rfl, Or.inl hb, HZ.out.at_ 1 rfl, HZ.out.old⟩
        · exact Or.inr ⟨55, i, c, A5, n5, c5, A6, n6, c6, A7, n7, c7, fb9, rfl, Or.inr ⟨_, e, HT.out, rfl⟩, HZ.out.at_ 1 rfl, HZ.out.old⟩
end
end Go.Proofs.YtcmbdnjcfneinaaGreatDoor
