/-
  The cursor of chapter 19: its fault, bytes taken, a number, how often something is done: the walks. Conditions: lengths within 2 ^ 20.
-/
import Derived.Test.YtcmbdnjcfneinaaGreatDoorMemM
import Derived.Test.YtcmbdnjcfneinaaGreatDoorPkG
import Derived.Test.YtcmbdnjcfneinaaGreatDoorBytes
import Derived.Test.YtcmbdnjcfneinaaGreatDoorProg
import Derived.BigQuiet
import Derived.LoopN
import Derived.Test.YtcmbdnjcfneinaaGreatDoorAppendN
namespace Go.Proofs.YtcmbdnjcfneinaaGreatDoor
open Go.RowKit
abbrev Flt := Option (Nat × Nat)
/-- The fault as the reader holds it. -/
def errV (F : Flt) (fb : Nat) : Value := match F with
  | none => .nilIface
  | some _ => .iface 114 (.pointer (some ⟨fb, 0, none⟩))
def Loc.none : Loc := ⟨Option.none, fun _ => True, fun _ _ _ e => (by cases e), fun _ _ _ h => h⟩
def Loc.fault (F : Flt) (fb : Nat) : Loc := match F with
  | .none => Loc.none
  | some f => Loc.box fb 118 #[.int .i64 f.1, .int .i64 f.2]
/-- A fault more, if there is none. -/
def Flt.or (F : Flt) (e q : Nat) : Flt := match F with
  | none => some (e, q)
  | some f => some f
/-- The reader's block. -/
def rdC (A : Option Addr) (n cap i en : Nat) (v x4 x5 x6 x7 x8 : Value) : Array Value := #[.slice A n cap, .int .i64 i, .int .i64 en, v, x4, x5, x6, x7, x8]
theorem nine {w : World} {b : Nat} {t : TypeId} {v0 v1 v2 v3 v4 v5 v6 v7 v8 : Value} (h : Whole w b t #[v0, v1, v2, v3, v4, v5, v6, v7, v8]) :
    w.cell? ⟨b, 0, none⟩ = some v0 ∧ w.cell? ⟨b, 1, none⟩ = some v1 ∧ w.cell? ⟨b, 2, none⟩ = some v2 ∧ w.cell? ⟨b, 3, none⟩ = some v3 ∧ w.cell? ⟨b, 4, none⟩ = some v4 ∧ w.cell? ⟨b, 5, none⟩ = some v5 ∧ w.cell? ⟨b, 6, none⟩ = some v6 ∧ w.cell? ⟨b, 7, none⟩ = some v7 ∧ w.cell? ⟨b, 8, none⟩ = some v8 :=
  ⟨h.cellAt 0, h.cellAt 1, h.cellAt 2, h.cellAt 3, h.cellAt 4, h.cellAt 5, h.cellAt 6, h.cellAt 7, h.cellAt 8⟩
/-- The reader and its fault, and what lies apart from them. -/
abbrev Rdr (w0 w : World) (rb : Nat) (A : Option Addr) (n cap i en : Nat) (F : Flt) (fb : Nat) (x4 x5 x6 x7 x8 : Value) (Q : List Loc) : Prop :=
  Sep w0 w (Loc.box rb 180 (rdC A n cap i en (errV F fb) x4 x5 x6 x7 x8) :: Loc.fault F fb :: Q)
section
variable {w0 w : World} {rb n cap i en fb : Nat} {A : Option Addr} {F : Flt} {x4 x5 x6 x7 x8 : Value} {Q : List Loc}
theorem fail_any (e q : Nat) (h : Rdr w0 w rb A n cap i en F fb x4 x5 x6 x7 x8 Q) :
    Calls Tryz.prog 109 #[.pointer (some ⟨rb, 0, none⟩), .int .i64 e, .int .i64 q] w fun r w' => r = .returned (.tuple #[]) ∧ ∃ fb', Rdr w0 w' rb A n cap i en (F.or e q) fb' x4 x5 x6 x7 x8 Q := by
  have hb := h.box_at 0 rfl
  have HM := Lib.hid hb
  have HS := Lib.hid h
  unfold rdC at hb
  obtain ⟨a0, a1, a2, a3, a4, a5, a6, a7, a8⟩ := nine hb
  have f3 := hb.free 3
  have hin := hb.inside
  clear h hb a0 a1 a2 a4 a5 a6 a7 a8
  cases F with
  | none =>
    have h1 : Sep w0 (w.alloc (.cells #[.int .i64 e, .int .i64 q] 118)) _ := HS.out.make 118 #[.int .i64 e, .int .i64 q]
    have b3 := (World.cell?_alloc_lt w (.cells #[.int .i64 e, .int .i64 q] 118) ⟨rb, 3, none⟩ hin).trans a3
    have g3 := (h1.box_at 1 rfl).free 3
    have h2 := h1.cell 1 rfl 3 (errV (some (e, q)) w.heap.size)
    have h3 : Rdr w0 ((w.alloc (.cells #[.int .i64 e, .int .i64 q] 118)).setCell ⟨rb, 3, none⟩ (errV (some (e, q)) w.heap.size)) rb A n cap i en (some (e, q)) w.heap.size x4 x5 x6 x7 x8 Q :=
      (h2.swap).sub (List.Sublist.cons_cons _ (List.Sublist.cons_cons _ (List.sublist_cons_self _ _)))
    have HZ := Lib.hid h3
    clear h1 h2 h3 HS HM hin
    unfold errV at *
    go_enter Tryz.func109, Tryz.ntmps109
    go_wp2_with fail
    go_end0
    exact ⟨rfl, _, HZ.out⟩
  | some f =>
    unfold errV at *
    go_enter Tryz.func109, Tryz.ntmps109
    go_wp2_with fail
    go_end0
    exact ⟨rfl, _, HS.out⟩
theorem take_lies {w0 : World} {g off : Nat} {b : List Oct} (hl : Lies w0 w0.heap.size (some ⟨g, off, none⟩) (bytesV b)) (i m : Nat) : Lies w0 w0.heap.size (some ⟨g, off + i, none⟩) (bytesV ((b.drop i).take m)) := fun k u hu => by
  have hk : (bytesV b)[i + k]? = some u := by
    unfold bytesV at hu ⊢
    rw [List.getElem?_map, List.getElem?_take] at hu
    split at hu
    · rw [List.getElem?_drop] at hu
      rw [List.getElem?_map]
      exact hu
    · cases hu
  obtain ⟨g', off', e, hg, hc⟩ := hl (i + k) u hk
  injection e with e
  injection e with e1 e2
  subst e1 e2
  exact ⟨g, off + i, rfl, hg, by rw [Nat.add_assoc]; exact hc⟩
/-- The reader at a place, up to an end; a fault, if any. -/
structure RdAt (w0 w : World) (rb g off cap : Nat) (b : List Oct) (i en : Nat) (F : Flt) (x4 x5 x6 x7 x8 : Value) (Q : List Loc) : Prop where
  box : ∃ fb, Rdr w0 w rb (some ⟨g, off, none⟩) b.length cap i en F fb x4 x5 x6 x7 x8 Q
  lies : Lies w0 w0.heap.size (some ⟨g, off, none⟩) (bytesV b)
  room : b.length ≤ cap
  le : i ≤ en
  stop : en < b.length
  small : b.length ≤ 1048576
/-- What is read, and where the reader stands then. -/
def Step {α : Type} (p : Pr α) (b : List Oct) (en i : Nat) (F : Flt) (a : α) (K : Nat → Flt → Prop) : Prop := ∃ j F', Goes p (b.take en) i F j F' a ∧ i ≤ j ∧ K j F'
theorem RdAt.past {w' : World} {g off : Nat} {b : List Oct} (h : RdAt w0 w rb g off cap b i en F x4 x5 x6 x7 x8 Q) (hk : Keeps (fun _ => False) w w') : RdAt w0 w' rb g off cap b i en F x4 x5 x6 x7 x8 Q := by
  obtain ⟨⟨fb, h1⟩, h2, h3, h4, h5, h6⟩ := h
  exact ⟨⟨fb, h1.past hk⟩, h2, h3, h4, h5, h6⟩
theorem failAt_any (e q : Nat) {g off : Nat} {b : List Oct} (h : RdAt w0 w rb g off cap b i en F x4 x5 x6 x7 x8 Q) :
    Calls Tryz.prog 109 #[.pointer (some ⟨rb, 0, none⟩), .int .i64 e, .int .i64 q] w fun r w' => r = .returned (.tuple #[]) ∧ RdAt w0 w' rb g off cap b i en (F.or e q) x4 x5 x6 x7 x8 Q := by
  obtain ⟨⟨fb, h1⟩, h2, h3, h4, h5, h6⟩ := h
  exact (fail_any e q h1).mono fun r w' ⟨hr, h⟩ => ⟨hr, h, h2, h3, h4, h5, h6⟩
theorem take_any (m : Nat) (b : List Oct) (g off : Nat) (h : RdAt w0 w rb g off cap b i en F x4 x5 x6 x7 x8 Q) (hm : m ≤ 1048576) :
    Calls Tryz.prog 141 #[.pointer (some ⟨rb, 0, none⟩), .int .i64 m] w fun r w' => ∃ (l : List Oct) (A' : Option Addr) (c : Nat), r = .returned (.slice A' l.length c) ∧ Lies w0 w0.heap.size A' (bytesV l) ∧ l.length ≤ c ∧ l.length ≤ m ∧
      Step (takeP m) b en i F l fun j F' => RdAt w0 w' rb g off cap b j en F' x4 x5 x6 x7 x8 Q := by
  have HA := Lib.hid h
  obtain ⟨⟨fb, hs⟩, hl, hc, hie, hen, hb⟩ := h
  have hbx := hs.box_at 0 rfl
  have HS := Lib.hid hs
  have HL := Lib.hid hl
  have hlen : (b.take en).length = en := by rw [List.length_take]; omega
  unfold rdC at hbx
  obtain ⟨a0, a1, a2, a3, a4, a5, a6, a7, a8⟩ := nine hbx
  have f1 := hbx.free 1
  clear hbx hl a4 a5 a6 a7 a8 hs
  cases F with
  | some f =>
    unfold errV at *
    clear HS HL
    go_enter Tryz.func141, Tryz.ntmps141
    go_wp2_with fail
    go_ret
    exact ⟨[], none, 0, rfl, Lies.nil, Nat.le_refl _, Nat.zero_le _, i, some f, Goes.stuck, Nat.le_refl _, HA.out⟩
  | none =>
    by_cases hs : en - i < m
    · have HG : Hid (Goes (takeP m) (b.take en) i none i (some (50, i)) ([] : List Oct)) := Lib.hid (Or.inr ⟨by unfold takeP; rw [if_neg (by omega)], rfl⟩)
      have hs2 : (en : Int) - i < m := by omega
      unfold errV at *
      clear hlen hs HS HL
      go_enter Tryz.func141, Tryz.ntmps141
      go_wp2_with fail
      go_quiet (fail)
      go_wp2_with fail
      refine (failAt_any 50 i (HA.out.past ((Keeps.refl _ w).drewN _))).mono ?_
      rintro r w' ⟨rfl, hz⟩
      have HZ := Lib.hid hz
      clear hz HA
      go_wp2_with fail
      go_ret
      exact ⟨[], none, 0, rfl, Lies.nil, Nat.le_refl _, Nat.zero_le _, i, some (50, i), HG.out, Nat.le_refl _, HZ.out⟩
    · have hG : Goes (takeP m) (b.take en) i none (i + m) none ((b.drop i).take m) := Or.inl ⟨by
        unfold takeP
        rw [if_pos (by omega), List.drop_take, List.take_take, Nat.min_eq_left (by omega)], rfl⟩
      have HG := Lib.hid hG
      have hll : ((b.drop i).take m).length = m := by rw [List.length_take, List.length_drop]; omega
      have HT := Lib.hid (take_lies HL.out i m)
      have hs2 : ¬ ((en : Int) - i < m) := by omega
      have hci : i < cap := by omega
      have hcn : ¬ cap = i := by omega
      have hcn2 : ¬ i = cap := by omega
      have HZ : Hid (∀ n k, RdAt w0 (((w.drewN n).setCell ⟨rb, 1, none⟩ (.int .i64 ((i : Int) + m))).drewN k) rb g off cap b (i + m) en none x4 x5 x6 x7 x8 Q) := Lib.hid (fun n k => by
        have h2 := (HS.out.past ((Keeps.refl _ w).drewN n)).cell 0 rfl 1 (.int .i64 ((i + m : Nat) : Int))
        rw [Int.natCast_add] at h2
        have h3 : RdAt w0 ((w.drewN n).setCell ⟨rb, 1, none⟩ (.int .i64 ((i : Int) + m))) rb g off cap b (i + m) en none x4 x5 x6 x7 x8 Q := ⟨⟨fb, h2⟩, HL.out, hc, by omega, hen, hb⟩
        exact h3.past ((Keeps.refl _ _).drewN k))
      generalize (b.drop i).take m = l at *
      unfold errV at *
      clear hlen hs HS HL hG HA
      go_enter Tryz.func141, Tryz.ntmps141
      go_wp2_with fail
      go_quiet (fail)
      go_wp2_with fail
      go_quiet (fail)
      go_wp2_with fail
      all_goals first | (exfalso; omega) | skip
      all_goals (
        go_ret
        refine ⟨l, some ⟨g, off + i, none⟩, cap - i, by rw [hll]; first | rfl | (rw [Nat.add_sub_cancel_left]; rfl), HT.out, by omega, by omega, i + m, none, HG.out, by omega, ?_⟩
        exact HZ.out _ _)
end
end Go.Proofs.YtcmbdnjcfneinaaGreatDoor
/-
  The cursor of chapter 19: a number read; how often something is done: the walks. Conditions: lengths within 2 ^ 20.
-/
namespace Go.Proofs.YtcmbdnjcfneinaaGreatDoor
open Go.RowKit
theorem num_take (n : Nat) : numP n = (takeP n).map fun l => (val l : Int) := by
  funext b i
  unfold Pr.map
  by_cases h : i + n ≤ b.length
  · simp only [numP, takeP, if_pos h]
  · simp only [numP, takeP, if_neg h]
theorem Step.num {n : Nat} {b : List Oct} {en i : Nat} {F : Flt} {l : List Oct} {K : Nat → Flt → Prop} (h : Step (takeP n) b en i F l K) : Step (numP n) b en i F (val l : Int) K := by
  obtain ⟨j, F', h1, h2⟩ := h
  exact ⟨j, F', by rw [num_take]; exact h1.map _, h2⟩
theorem or_byte64 (x c : Nat) (hx : x < 72057594037927936) (hc : c < 256) : bits .or .u64 ((x : Int) * 256) (c : Int) = ((256 * x + c : Nat) : Int) := by
  have e : (x : Int) * 256 = ((256 * x : Nat) : Int) := by omega
  rw [e, u64_or_nat _ _ (by omega) (by omega)]
  have h := Nat.two_pow_add_eq_or_of_lt (i := 8) (b := c) (by simpa using hc) x
  congr 1
  exact h.symm
theorem wrap64_sx (x : Nat) (h : x < 18446744073709551616) : wrap64 (x : Int) = sx64 x := by
  unfold wrap64 sx64
  split <;> omega
theorem sx64_small {y : Int} (h : y < 9223372036854775808) : sx64 y = y := by
  unfold sx64
  rw [if_pos h]
section
variable {w0 w : World} {rb cap i en : Nat} {F : Flt} {x4 x5 x6 x7 x8 : Value} {Q : List Loc}
set_option maxHeartbeats 1000000 in
theorem numberAt_any (m : Nat) (b : List Oct) (g off : Nat) (h : RdAt w0 w rb g off cap b i en F x4 x5 x6 x7 x8 Q) (hm : m ≤ 8) :
    Calls Tryz.prog 137 #[.pointer (some ⟨rb, 0, none⟩), .int .i64 m] w fun r w' => ∃ y : Nat, r = .returned (.int .i64 (sx64 y)) ∧ y < 256 ^ m ∧
      Step (numP m) b en i F (y : Int) fun j F' => RdAt w0 w' rb g off cap b j en F' x4 x5 x6 x7 x8 Q := by
  have HT := Lib.hid (take_any m b g off h (by omega))
  clear h
  go_enter Tryz.func137, Tryz.ntmps137
  go_wp2_with fail
  refine HT.out.mono ?_
  rintro r w1 ⟨l, A, c, rfl, hl, hlc, hlm, hst⟩
  have HS : Hid (Step (numP m) b en i F (val l : Int) fun j F' => RdAt w0 w1 rb g off cap b j en F' x4 x5 x6 x7 x8 Q) := Lib.hid hst.num
  have hk1 : Keeps (fun _ => False) w0 w1 := by
    obtain ⟨j, F', _, _, h⟩ := hst
    obtain ⟨fb, h⟩ := h.box
    exact h.old
  have HL : Hid (Lies w1 w0.heap.size A (bytesV l)) := Lib.hid (hl.keep fun g o hg => hk1.cell hg id)
  have hvl := val_lt l
  have hvm : val l < 256 ^ m := Nat.lt_of_lt_of_le hvl (Nat.pow_le_pow_right (by decide) hlm)
  have HVM := Lib.hid hvm
  have hl8 : l.length ≤ 8 := by omega
  clear HT hl hst hk1 hvl hvm
  go_wp2_with fail
  go_loop [5, 12] (fun vx vk => ∃ k : Nat, k ≤ l.length ∧ vk = .int .i64 k ∧ vx = .int .u64 (val (l.take k) : Nat)) (fun _ vk => l.length - (intOf vk).toNat)
  case atStart => exact ⟨0, by omega, rfl, rfl⟩
  case round =>
    obtain ⟨k, hk, rfl, rfl⟩ := hrel
    by_cases hlt : k < l.length
    · obtain ⟨g', off', hA, _, hc⟩ := HL.out k _ (bytesV_get l k hlt)
      have hts := take_snoc l k hlt
      have hv := val_snoc (l.take k) l[k]
      have hlt2 : val (l.take k) < 72057594037927936 := by
        have h1 := val_lt (l.take k)
        rw [List.length_take, Nat.min_eq_left (by omega)] at h1
        have h2 : 256 ^ k ≤ 256 ^ 7 := Nat.pow_le_pow_right (by decide) (by omega)
        omega
      obtain ⟨x, hx⟩ : ∃ x, x = val (l.take k) := ⟨_, rfl⟩
      obtain ⟨c', hcx⟩ : ∃ c, c = l[k] := ⟨_, rfl⟩
      rw [← hts, ← hx, ← hcx] at hv
      have HV := Lib.hid hv
      rw [← hcx] at hc
      have hcl := c'.isLt
      subst hA
      rw [← hx] at hlt2 ⊢
      clear hv hts hx hcx
      go_wp2_with fail
      refine ⟨⟨k + 1, by omega, by go_num, ?_⟩, by simp [intOf]; omega⟩
      rw [or_byte64 x c'.toNat (by omega) hcl, HV.out]
    · obtain rfl : k = l.length := by omega
      rw [List.take_length]
      have hv4 : val l < 18446744073709551616 := by
        have h1 := HVM.out
        have h2 : 256 ^ m ≤ 256 ^ 8 := Nat.pow_le_pow_right (by decide) hm
        omega
      obtain ⟨x, hx⟩ : ∃ x, x = val l := ⟨_, rfl⟩
      rw [← hx] at hv4 ⊢
      have HX := Lib.hid hx
      clear hx
      go_wp2_with fail
      rw [wrap64_sx x hv4]
      go_ret
      refine ⟨x, rfl, by rw [HX.out]; exact HVM.out, ?_⟩
      rw [HX.out]
      exact HS.out
end
end Go.Proofs.YtcmbdnjcfneinaaGreatDoor
/-
  The cursor of chapter 19: something is done so many times, as long as nothing is wrong: the walk. Conditions: none.
-/
namespace Go.Proofs.YtcmbdnjcfneinaaGreatDoor
open Go.RowKit
/-- A fault has been met. -/
def Halted (rb : Nat) (w : World) : Prop := ∃ f fb, w.cell? ⟨rb, 3, none⟩ = some (errV (some f) fb)
set_option maxHeartbeats 1000000 in
theorem times_any (K n rb : Nat) (caps : Array Value) (hK : ∀ args w, (callFunc K args).run Tryz.prog w = .ok (.enter K args) w) (J : Nat → World → Prop) (w : World) (hn : n ≤ 1048576)
    (hJ : ∀ m W, J m W → ∃ F fb, W.cell? ⟨rb, 3, none⟩ = some (errV F fb)) (hstep : ∀ m W, J m W → m < n → W.cell? ⟨rb, 3, none⟩ = some .nilIface → Calls Tryz.prog K caps W fun r W' => r = .returned (.tuple #[]) ∧ J (m + 1) W') (h0 : J 0 w) :
    Calls Tryz.prog 138 #[.pointer (some ⟨rb, 0, none⟩), .int .i64 n, .func (.func K) #[] caps] w fun r w' => r = .returned (.tuple #[]) ∧ ∃ m, m ≤ n ∧ J m w' ∧ (m = n ∨ Halted rb w') := by
  have H0 := Lib.hid h0
  have HJ := Lib.hid hJ
  have HS := Lib.hid hstep
  clear h0 hJ hstep
  go_enter Tryz.func138, Tryz.ntmps138
  go_wp2_with fail
  go_loopw [1] (fun vn wr => ∃ m : Nat, m ≤ n ∧ vn = .int .i64 ((n : Int) - m) ∧ Hid (J m wr)) (fun vn _ => (intOf vn).toNat)
  case atStart => exact ⟨0, Nat.zero_le _, by simp, H0⟩
  case round =>
    clear H0
    obtain ⟨m, hm, rfl, HM⟩ := hrel
    obtain ⟨F, fb, hc⟩ := HJ.out m _ HM.out
    have HC := Lib.hid hc
    by_cases hlt : m < n
    · cases F with
      | none =>
        have HT := Lib.hid (HS.out m _ HM.out hlt hc)
        unfold errV at hc
        clear HM HC
        go_wp2_with fail
        refine HT.out.mono ?_
        rintro r w1 ⟨rfl, hj⟩
        have HM := Lib.hid hj
        clear hj HT hc
        go_wp2_with fail
        go_roundw
        case rel => exact ⟨m + 1, by omega, by go_num, HM⟩
        case measure => simp [intOf]; omega
      | some f =>
        unfold errV at hc
        go_wp2_with fail
        go_end0
        exact ⟨rfl, m, hm, HM.out, Or.inr ⟨f, fb, HC.out⟩⟩
    · obtain rfl : m = n := by omega
      clear hc
      go_wp2_with fail
      go_end0
      exact ⟨rfl, m, hm, HM.out, Or.inl rfl⟩
end Go.Proofs.YtcmbdnjcfneinaaGreatDoor
/-
  The reader of chapter 19: an int more: the walk. Conditions: lengths within 2 ^ 20.
-/
namespace Go.Proofs.YtcmbdnjcfneinaaGreatDoor
open Go.RowKit
theorem stepIfT {c : Bool} {A B : Prop} (hc : c = true) (h : A) : if c = true then A else B := by rw [if_pos hc]; exact h
section
variable {w0 w w' : World} {rb g off cap i en : Nat} {b : List Oct} {F : Flt} {x4 x5 x6 x7 x8 : Value} {Q : List Loc}
theorem RdAt.rbox (h : RdAt w0 w rb g off cap b i en F x4 x5 x6 x7 x8 Q) : ∃ fb, Whole w rb 180 #[.slice (some ⟨g, off, none⟩) b.length cap, .int .i64 i, .int .i64 en, errV F fb, x4, x5, x6, x7, x8] := by
  obtain ⟨fb, hb⟩ := h.box
  exact ⟨fb, hb.box_at 0 rfl⟩
theorem RdAt.boxq {B : Nat} {t : TypeId} {cs : Array Value} (h : RdAt w0 w rb g off cap b i en F x4 x5 x6 x7 x8 Q) (k : Nat) (hk : Q[k]? = some (Loc.box B t cs)) : Whole w B t cs := by
  obtain ⟨fb, hb⟩ := h.box
  exact hb.box_at (k + 2) hk
theorem RdAt.own {B size n : Nat} {t : TypeId} {v : Value} {xs : List Value} (h : RdAt w0 w rb g off cap b i en F x4 x5 x6 x7 x8 Q) (k : Nat) (hk : Q[k]? = some (Loc.own B t size v n xs)) : w.ownsRow B t size v n xs := by
  obtain ⟨fb, hb⟩ := h.box
  exact hb.own_at (k + 2) hk
theorem RdAt.old (h : RdAt w0 w rb g off cap b i en F x4 x5 x6 x7 x8 Q) : Keeps (fun _ => False) w0 w := by
  obtain ⟨fb, hb⟩ := h.box
  exact hb.old
theorem RdAt.grow {B size n n' : Nat} {t : TypeId} {v v' : Value} {xs ys : List Value} (h : RdAt w0 w rb g off cap b i en F x4 x5 x6 x7 x8 Q) (k : Nat) (hk : Q[k]? = some (Loc.own B t size v n xs)) (h1 : w'.ownsRow B t size v' n' ys) (h2 : w.grownBy w' v.ownBlock)
    (h3 : v'.ownBlock = v.ownBlock ∨ v'.ownBlock = some w.heap.size) : RdAt w0 w' rb g off cap b i en F x4 x5 x6 x7 x8 (Q.set k (Loc.own B t size v' n' ys)) := by
  obtain ⟨⟨fb, hb⟩, r2, r3, r4, r5, r6⟩ := h
  exact ⟨⟨fb, hb.grow (k + 2) hk h1 h2 h3⟩, r2, r3, r4, r5, r6⟩
theorem RdAt.cellq {B : Nat} {t : TypeId} {cs : Array Value} (h : RdAt w0 w rb g off cap b i en F x4 x5 x6 x7 x8 Q) (k : Nat) (hk : Q[k]? = some (Loc.box B t cs)) (o : Nat) (u : Value) :
    RdAt w0 (w.setCell ⟨B, o, none⟩ u) rb g off cap b i en F x4 x5 x6 x7 x8 (Q.set k (Loc.box B t (cs.setIfInBounds o u))) := by
  obtain ⟨⟨fb, hb⟩, r2, r3, r4, r5, r6⟩ := h
  exact ⟨⟨fb, hb.cell (k + 2) hk o u⟩, r2, r3, r4, r5, r6⟩
theorem RdAt.perm {M : List Loc} (h : RdAt w0 w rb g off cap b i en F x4 x5 x6 x7 x8 Q) (p : Q.Perm M) : RdAt w0 w rb g off cap b i en F x4 x5 x6 x7 x8 M := by
  obtain ⟨⟨fb, hb⟩, r2, r3, r4, r5, r6⟩ := h
  exact ⟨⟨fb, hb.perm ((p.cons _).cons _)⟩, r2, r3, r4, r5, r6⟩
theorem RdAt.sub {M : List Loc} (h : RdAt w0 w rb g off cap b i en F x4 x5 x6 x7 x8 Q) (p : M.Sublist Q) : RdAt w0 w rb g off cap b i en F x4 x5 x6 x7 x8 M := by
  obtain ⟨⟨fb, hb⟩, r2, r3, r4, r5, r6⟩ := h
  exact ⟨⟨fb, hb.sub ((p.cons_cons _).cons_cons _)⟩, r2, r3, r4, r5, r6⟩
theorem RdAt.add {e : Loc} (h : RdAt w0 w rb g off cap b i en F x4 x5 x6 x7 x8 Q) (hk : Keeps (fun _ => False) w w') (he : e.holds w') (hn : ∀ k, e.blk = some k → w.heap.size ≤ k) : RdAt w0 w' rb g off cap b i en F x4 x5 x6 x7 x8 (e :: Q) := by
  obtain ⟨⟨fb, hb⟩, r2, r3, r4, r5, r6⟩ := h
  exact ⟨⟨fb, (hb.add hk he hn).perm (((List.Perm.swap _ _ _)).trans ((List.Perm.swap _ _ _).cons _))⟩, r2, r3, r4, r5, r6⟩
theorem RdAt.make (h : RdAt w0 w rb g off cap b i en F x4 x5 x6 x7 x8 Q) (t : TypeId) (cs : Array Value) : RdAt w0 (w.alloc (.cells cs t)) rb g off cap b i en F x4 x5 x6 x7 x8 (Loc.box w.heap.size t cs :: Q) :=
  h.add ((Keeps.refl _ w).alloc _) (Whole.made w t cs) (fun k e => by injection e with e; omega)
theorem RdAt.nil (h : RdAt w0 w rb g off cap b i en F x4 x5 x6 x7 x8 Q) (B : Nat) (t : TypeId) (size : Nat) : RdAt w0 w rb g off cap b i en F x4 x5 x6 x7 x8 (Loc.own B t size (.slice none 0 0) 0 [] :: Q) :=
  h.add (Keeps.refl _ w) (World.ownsRow_nil _ _ _ _) (fun k e => by cases e)
theorem RdAt.set4 (h : RdAt w0 w rb g off cap b i en F x4 x5 x6 x7 x8 Q) (u : Value) : RdAt w0 (w.setCell ⟨rb, 4, none⟩ u) rb g off cap b i en F u x5 x6 x7 x8 Q := by
  obtain ⟨⟨fb, hb⟩, r2, r3, r4, r5, r6⟩ := h
  exact ⟨⟨fb, hb.cell 0 rfl 4 u⟩, r2, r3, r4, r5, r6⟩
theorem RdAt.set5 (h : RdAt w0 w rb g off cap b i en F x4 x5 x6 x7 x8 Q) (u : Value) : RdAt w0 (w.setCell ⟨rb, 5, none⟩ u) rb g off cap b i en F x4 u x6 x7 x8 Q := by
  obtain ⟨⟨fb, hb⟩, r2, r3, r4, r5, r6⟩ := h
  exact ⟨⟨fb, hb.cell 0 rfl 5 u⟩, r2, r3, r4, r5, r6⟩
theorem RdAt.set6 (h : RdAt w0 w rb g off cap b i en F x4 x5 x6 x7 x8 Q) (u : Value) : RdAt w0 (w.setCell ⟨rb, 6, none⟩ u) rb g off cap b i en F x4 x5 u x7 x8 Q := by
  obtain ⟨⟨fb, hb⟩, r2, r3, r4, r5, r6⟩ := h
  exact ⟨⟨fb, hb.cell 0 rfl 6 u⟩, r2, r3, r4, r5, r6⟩
theorem RdAt.set7 (h : RdAt w0 w rb g off cap b i en F x4 x5 x6 x7 x8 Q) (u : Value) : RdAt w0 (w.setCell ⟨rb, 7, none⟩ u) rb g off cap b i en F x4 x5 x6 u x8 Q := by
  obtain ⟨⟨fb, hb⟩, r2, r3, r4, r5, r6⟩ := h
  exact ⟨⟨fb, hb.cell 0 rfl 7 u⟩, r2, r3, r4, r5, r6⟩
end
theorem info_i64 : (Tryz.prog.info? 2).map (fun i => (i.zero, i.size, i.bytes)) = some (some (.int .i64 0), 1, 8) := by kernel_rfl
section
variable {w0 w : World} {rb g off cap i en bx n c : Nat} {A : Option Addr} {b : List Oct} {F : Flt} {x4 x6 x7 x8 : Value} {xs : List Value} {Q : List Loc}
set_option maxRecDepth 4000 in
set_option maxHeartbeats 2000000 in
theorem intMore_any (h : RdAt w0 w rb g off cap b i en F x4 (.slice A n c) x6 x7 x8 (Loc.own w0.heap.size 2 1 (.slice A n c) n xs :: Loc.box bx 176 #[.pointer (some ⟨rb, 0, none⟩)] :: Q)) (hn : n ≤ 1048576) :
    Calls Tryz.prog 139 #[.pointer (some ⟨bx, 0, none⟩)] w fun r w' => r = .returned (.tuple #[]) ∧ ∃ (y : Nat) (A' : Option Addr) (c' : Nat), y < 256 ^ 8 ∧ Step (numP 8) b en i F (y : Int) fun j F' =>
      RdAt w0 w' rb g off cap b j en F' x4 (.slice A' (n + 1) c') x6 x7 x8 (Loc.own w0.heap.size 2 1 (.slice A' (n + 1) c') (n + 1) (xs ++ [.int .i64 (sx64 y)]) :: Loc.box bx 176 #[.pointer (some ⟨rb, 0, none⟩)] :: Q) := by
  have HD := Lib.hid (h.past ((Keeps.refl _ w).drew))
  have hS0 : Hid (w.drew.cell? ⟨bx, 0, none⟩ = some (.pointer (some ⟨rb, 0, none⟩))) := Lib.hid ((HD.out.boxq 1 rfl).cellAt 0)
  have hT0 : Hid (w.drew.cell? ⟨rb, 5, none⟩ = some (.slice A n c)) := Lib.hid (by
    obtain ⟨fb, hb⟩ := HD.out.rbox
    exact hb.cellAt 5)
  have HC := Lib.hid (numberAt_any 8 b g off HD.out (by decide))
  clear h
  go_enter Tryz.func139, Tryz.ntmps139
  go_wp2_with fail
  refine wp_region_upTo 11 (fun W => W.cell? ⟨bx, 0, none⟩ = some (.pointer (some ⟨rb, 0, none⟩))) (fun W => W.cell? ⟨rb, 5, none⟩ = some (.slice A n c)) (by kernel_rfl) ?_
  refine upTo_take (i := 0) (v := ?v1) rfl (by kernel_rfl) (by kernel_rfl) (by kernel_rfl) (fun _ _ _ h => by first | exact h | exact absurd h.1 (fun e => by cases e)) (by decide) (Or.inl ⟨by rfl, ?hy1⟩) (hS0.out) (fun _ => hT0.out) ?rest1
  case hy1 =>
    intro w hSw
    obtain qh := hSw
    go_simp
    try with_reducible rfl
  go_simp
  refine upTo_take (i := 1) (v := ?v2) rfl (by kernel_rfl) (by kernel_rfl) (by kernel_rfl) (fun _ _ _ h => by first | exact h | exact absurd h.1 (fun e => by cases e)) (by decide) (Or.inl ⟨by rfl, ?hy2⟩) (hS0.out) (fun _ => hT0.out) ?rest2
  case hy2 =>
    intro w hSw
    obtain qh := hSw
    go_simp
    try with_reducible rfl
  go_simp
  refine upTo_take (i := 2) (v := ?v3) rfl (by kernel_rfl) (by kernel_rfl) (by kernel_rfl) (fun _ _ _ h => by first | exact h | exact absurd h.1 (fun e => by cases e)) (by decide) (Or.inl ⟨by rfl, ?hy3⟩) (hS0.out) (fun _ => hT0.out) ?rest3
  case hy3 =>
    intro w hSw
    clear hSw
    go_simp
    try with_reducible rfl
  go_simp
  refine upTo_take (i := 3) (v := ?v4) rfl (by kernel_rfl) (by kernel_rfl) (by kernel_rfl) (fun _ _ _ h => by first | exact h | exact absurd h.1 (fun e => by cases e)) (by decide) (Or.inl ⟨by rfl, ?hy4⟩) (hS0.out) (fun _ => hT0.out) ?rest4
  case hy4 =>
    intro w hSw
    clear hSw
    go_simp
    try with_reducible rfl
  go_simp
  refine upTo_take (i := 4) (v := ?v5) rfl (by kernel_rfl) (by kernel_rfl) (by kernel_rfl) (fun _ _ _ h => by first | exact h | exact absurd h.1 (fun e => by cases e)) (by decide) (Or.inl ⟨by rfl, ?hy5⟩) (hS0.out) (fun _ => hT0.out) ?rest5
  case hy5 =>
    intro w hSw
    clear hSw
    go_simp
    try with_reducible rfl
  go_simp
  refine upTo_load (i := 5) (v := ?v6) rfl (by kernel_rfl) (by kernel_rfl) (by kernel_rfl) (fun _ _ _ h => by first | exact h | exact absurd h.1 (fun e => by cases e)) (by decide) (by kernel_rfl) (by kernel_rfl) (Or.inl ⟨by rfl, ?hy6⟩) (hS0.out) (hT0.out) ?rest6
  case hy6 =>
    intro w hSw
    obtain qh := hSw
    go_simp
    try with_reducible rfl
  go_simp
  refine upTo_take (i := 6) (v := ?v7) rfl (by kernel_rfl) (by kernel_rfl) (by kernel_rfl) (fun _ _ _ h => by first | exact h | exact absurd h.1 (fun e => by cases e)) (by decide) (Or.inl ⟨by rfl, ?hy7⟩) (hS0.out) (fun _ => hT0.out) ?rest7
  case hy7 =>
    intro w hSw
    obtain qh := hSw
    go_simp
    try with_reducible rfl
  go_simp
  refine upTo_take (i := 7) (v := ?v8) rfl (by kernel_rfl) (by kernel_rfl) (by kernel_rfl) (fun _ _ _ h => by first | exact h | exact absurd h.1 (fun e => by cases e)) (by decide) (Or.inl ⟨by rfl, ?hy8⟩) (hS0.out) (fun _ => hT0.out) ?rest8
  case hy8 =>
    intro w hSw
    clear hSw
    go_simp
    try with_reducible rfl
  go_simp
  refine upTo_take (i := 8) (v := ?v9) rfl (by kernel_rfl) (by kernel_rfl) (by kernel_rfl) (fun _ _ _ h => by first | exact h | exact absurd h.1 (fun e => by cases e)) (by decide) (Or.inl ⟨by rfl, ?hy9⟩) (hS0.out) (fun _ => hT0.out) ?rest9
  case hy9 =>
    intro w hSw
    clear hSw
    go_simp
    try with_reducible rfl
  go_simp
  refine upTo_next (i := 9) (by kernel_rfl) rfl ?_
  intro K hK
  go_simp
  refine (HC.out).mono ?_
  rintro r w1 ⟨y, rfl, hy, j, F1, hg1, hij, h1⟩
  have H1 := Lib.hid h1
  have hS1 : Hid (w1.cell? ⟨bx, 0, none⟩ = some (.pointer (some ⟨rb, 0, none⟩))) := Lib.hid ((h1.boxq 1 rfl).cellAt 0)
  have hT1 : Hid (w1.cell? ⟨rb, 5, none⟩ = some (.slice A n c)) := Lib.hid (by
    obtain ⟨fb, hb⟩ := h1.rbox
    exact hb.cellAt 5)
  have HG1 := Lib.hid hg1
  clear h1 HC HD hS0 hT0 hg1
  refine hK.out _ _ (hS1.out) (fun _ => hT1.out) ?_
  clear hK K
  go_simp
  have H2 := Lib.hid (H1.out.past ((Keeps.refl _ w1).alloc (.cells #[.int .i64 (sx64 y)] 2)))
  refine upTo_next (i := 10) (by kernel_rfl) rfl ?_
  intro K hK
  go_simp
  refine hK.out _ _ ((H2.out.boxq 1 rfl).cellAt 0) (fun _ => by obtain ⟨fb, hb⟩ := H2.out.rbox; exact hb.cellAt 5) ?_
  clear hK K
  go_simp
  refine upTo_next (i := 11) (by kernel_rfl) rfl ?_
  intro K hK
  refine stepIfT (by rfl) ?_
  have hBs : w0.heap.size ≤ (w1.alloc (.cells #[.int .i64 (sx64 y)] 2)).heap.size := H2.out.old.size
  refine wp_append_cells _ _ _ 22 rfl w0.heap.size 2 (.int .i64 0) 1 8 Tryz.underlying22 info_i64 rfl (by decide) (.slice A n c) n xs rfl (H2.out.own 0 rfl) (w1.heap.size + 1) (some ⟨w1.heap.size, 0, none⟩) 1 1 [.int .i64 (sx64 y)] rfl (Lies.row (t := 2) (fr := (0, 0)) (heap_alloc_new _ _) (Nat.lt_succ_self _)) rfl (fun u hu => by simp at hu; rw [hu]; rfl) (by simp only [maxLen]; omega) (by omega) hBs ?_
  intro A2 c2 w5 own5 hg5 hor5 _ _
  have H5 := Lib.hid (H2.out.grow 0 rfl own5 hg5 hor5)
  have H6 := Lib.hid (H5.out.set5 (.slice A2 (n + 1) c2))
  obtain ⟨fb, hb5⟩ := H5.out.rbox
  have f5 := hb5.free 5
  have c5 := hb5.cellAt 5
  clear own5 hg5 hor5 hb5 hS1 hT1
  refine hK.out _ _ ((H5.out.boxq 1 rfl).cellAt 0) (fun h => absurd h (by decide)) ?_
  clear hK K
  go_simp
  refine upTo_take (i := 12) (v := ?v10) rfl (by kernel_rfl) (by kernel_rfl) (by kernel_rfl) (fun _ _ _ h => by first | exact h | exact absurd h.1 (fun e => by cases e)) (by decide) (Or.inl ⟨by rfl, ?hy10⟩) ((H5.out.boxq 1 rfl).cellAt 0) (fun h => absurd h (by decide)) ?rest10
  case hy10 =>
    intro w hSw
    clear hSw
    go_simp
    try with_reducible rfl
  go_simp
  refine upTo_take (i := 13) (v := ?v11) rfl (by kernel_rfl) (by kernel_rfl) (by kernel_rfl) (fun _ _ _ h => by first | exact h | exact absurd h.1 (fun e => by cases e)) (by decide) (Or.inl ⟨by rfl, ?hy11⟩) ((H5.out.boxq 1 rfl).cellAt 0) (fun h => absurd h (by decide)) ?rest11
  case hy11 =>
    intro w hSw
    clear hSw
    go_simp
    try with_reducible rfl
  go_simp
  refine upTo_take (i := 14) (v := ?v12) rfl (by kernel_rfl) (by kernel_rfl) (by kernel_rfl) (fun _ _ _ h => by first | exact h | exact absurd h.1 (fun e => by cases e)) (by decide) (Or.inl ⟨by rfl, ?hy12⟩) ((H5.out.boxq 1 rfl).cellAt 0) (fun h => absurd h (by decide)) ?rest12
  case hy12 =>
    intro w hSw
    clear hSw
    go_simp
    try with_reducible rfl
  go_simp
  refine upTo_next (i := 15) (by kernel_rfl) rfl ?_
  intro K hK
  go_simp
  refine hK.out _ _ ((H6.out.boxq 1 rfl).cellAt 0) (fun h => absurd h (by decide)) ?_
  clear hK K
  go_simp
  refine upTo_done (by kernel_rfl) ?_ _
  go_end0
  exact ⟨rfl, y, A2, c2, hy, j, F1, HG1.out, hij, H6.out⟩
end
end Go.Proofs.YtcmbdnjcfneinaaGreatDoor
