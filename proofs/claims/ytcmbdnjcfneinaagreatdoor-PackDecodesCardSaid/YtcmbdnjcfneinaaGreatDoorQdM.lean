/-
  The reference's reader of chapter 19: fail, take, number: the walks. Conditions: lengths within 2 ^ 22.
-/
import Derived.Test.YtcmbdnjcfneinaaGreatDoorRdMa
import Derived.Test.YtcmbdnjcfneinaaGreatDoorPkM
import Derived.Test.YtcmbdnjcfneinaaGreatDoorCqM
import Derived.Test.YtcmbdnjcfneinaaGreatDoorRdMb
import Derived.Test.YtcmbdnjcfneinaaGreatDoorMemM
namespace Go.Proofs.YtcmbdnjcfneinaaGreatDoor
open Go.RowKit
def rfE (F : Flt) : Nat := match F with
  | none => 0
  | some f => f.1
def rfI (i : Nat) (F : Flt) : Nat := match F with
  | none => i
  | some f => f.2
/-- The reader's block. -/
def rfC (A : Option Addr) (n cap i en e : Nat) : Array Value := #[.slice A n cap, .int .i64 i, .int .i64 en, .int .i64 e]
/-- The reader at a place; a fault, if any. -/
structure Rq (w : World) (rb g off cap : Nat) (b : List Oct) (i en : Nat) (F : Flt) : Prop where
  box : Whole w rb 121 (rfC (some ⟨g, off, none⟩) b.length cap (rfI i F) en (rfE F))
  lies : Lies w rb (some ⟨g, off, none⟩) (bytesV b)
  room : b.length ≤ cap
  stop : en < b.length
  small : b.length ≤ 1048576
  nz : ∀ f, F = some f → f.1 ≠ 0 ∧ f.1 ≤ 1000 ∧ f.2 ≤ 1048576
/-- .. within a section. -/
structure Rf (w : World) (rb g off cap : Nat) (b : List Oct) (i en : Nat) (F : Flt) : Prop where
  rq : Rq w rb g off cap b i en F
  le : F = none → i ≤ en
section
variable {w w' : World} {rb g off cap i en : Nat} {b : List Oct} {F : Flt} {S : Nat → Prop}
theorem Rq.calm (h : Rq w rb g off cap b i en F) (hk : Keeps S w w') (hS : ∀ k, k ≤ rb → ¬ S k) : Rq w' rb g off cap b i en F :=
  ⟨h.box.keeps hk (hS rb (Nat.le_refl _)), h.lies.keeps hk (fun k hk' => hS k (Nat.le_of_lt hk')) (Nat.le_of_lt h.box.inside), h.room, h.stop, h.small, h.nz⟩
theorem Rf.calm (h : Rf w rb g off cap b i en F) (hk : Keeps S w w') (hS : ∀ k, k ≤ rb → ¬ S k) : Rf w' rb g off cap b i en F := ⟨h.rq.calm hk hS, h.le⟩
theorem Rq.past (h : Rq w rb g off cap b i en F) (hk : Keeps (fun _ => False) w w') : Rq w' rb g off cap b i en F := h.calm hk fun _ _ => id
theorem Rf.past (h : Rf w rb g off cap b i en F) (hk : Keeps (fun _ => False) w w') : Rf w' rb g off cap b i en F := h.calm hk fun _ _ => id
/-- A cell of the reader is turned. -/
theorem Rq.put (h : Rq w rb g off cap b i en F) (o : Nat) (v : Value) (i' en' : Nat) (F' : Flt) (hv : (rfC (some ⟨g, off, none⟩) b.length cap (rfI i F) en (rfE F)).setIfInBounds o v = rfC (some ⟨g, off, none⟩) b.length cap (rfI i' F') en' (rfE F')) (hs : en' < b.length) (hn : ∀ f, F' = some f → f.1 ≠ 0 ∧ f.1 ≤ 1000 ∧ f.2 ≤ 1048576) : Rq (w.setCell ⟨rb, o, none⟩ v) rb g off cap b i' en' F' :=
  ⟨hv ▸ h.box.put o v, h.lies.keeps ((Keeps.refl (fun k => k = rb) w).setCell (p := ⟨rb, o, none⟩) (fun _ => rfl) v) (fun k hk e => by omega) (Nat.le_of_lt h.box.inside), h.room, hs, h.small, hn⟩
end
theorem failF_ref (e q : Nat) {w : World} {rb g off cap i en : Nat} {b : List Oct} (h : Rq w rb g off cap b i en none) (he : e ≠ 0 ∧ e ≤ 1000) (hq : q ≤ 1048576) :
    Calls Tryz.prog 119 #[.pointer (some ⟨rb, 0, none⟩), .int .i64 e, .int .i64 q] w fun r w' => r = .returned (.tuple #[]) ∧ Rq w' rb g off cap b i en (some (e, q)) ∧ Keeps (fun k => k = rb) w w' := by
  have HA := Lib.hid h
  have hb := h.box
  unfold rfC rfI rfE at hb
  simp only [] at hb
  obtain ⟨a0, a1, a2, a3⟩ := four hb
  have f1 := hb.free 1
  have f3 := hb.free 3
  have HZ : Hid (Rq ((w.setCell ⟨rb, 3, none⟩ (.int .i64 (e : Int))).setCell ⟨rb, 1, none⟩ (.int .i64 (q : Int))) rb g off cap b i en (some (e, q)) ∧ Keeps (fun k => k = rb) w ((w.setCell ⟨rb, 3, none⟩ (.int .i64 (e : Int))).setCell ⟨rb, 1, none⟩ (.int .i64 (q : Int)))) := Lib.hid (by
    have hk := ((Keeps.refl (fun k => k = rb) w).setCell (p := ⟨rb, 3, none⟩) (fun _ => rfl) (.int .i64 (e : Int))).setCell (p := ⟨rb, 1, none⟩) (fun _ => rfl) (.int .i64 (q : Int))
    exact ⟨⟨(HA.out.box.put 3 (.int .i64 (e : Int))).put 1 (.int .i64 (q : Int)), HA.out.lies.keeps hk (fun k hk e => by omega) (Nat.le_of_lt HA.out.box.inside), HA.out.room, HA.out.stop, HA.out.small, fun f hf => by
      injection hf with hf
      subst hf
      exact ⟨he.1, he.2, hq⟩⟩, hk⟩)
  clear h hb a0 a2 HA
  go_enter Tryz.func119, Tryz.ntmps119
  go_wp2_with fail
  go_end0
  exact ⟨rfl, HZ.out⟩
theorem failR_ref (e q : Nat) {w : World} {rb g off cap i en : Nat} {b : List Oct} (h : Rf w rb g off cap b i en none) (he : e ≠ 0 ∧ e ≤ 1000) (hq : q ≤ 1048576) :
    Calls Tryz.prog 119 #[.pointer (some ⟨rb, 0, none⟩), .int .i64 e, .int .i64 q] w fun r w' => r = .returned (.tuple #[]) ∧ Rf w' rb g off cap b i en (some (e, q)) ∧ Keeps (fun k => k = rb) w w' :=
  (failF_ref e q h.rq he hq).mono fun _ _ ⟨h1, h2, h3⟩ => ⟨h1, ⟨h2, fun e => by cases e⟩, h3⟩
theorem take_lies2 {w : World} {B g off : Nat} {b : List Oct} (hl : Lies w B (some ⟨g, off, none⟩) (bytesV b)) (i m : Nat) : Lies w B (some ⟨g, off + i, none⟩) (bytesV ((b.drop i).take m)) := fun k u hu => by
  have hk : (bytesV b)[i + k]? = some u := by
    unfold bytesV at hu ⊢
    rw [List.getElem?_map, List.getElem?_take] at hu
    split at hu
    · rw [List.getElem?_drop] at hu
      rw [List.getElem?_map]; exact hu
    · cases hu
  obtain ⟨g', off', e, hg, hc⟩ := hl (i + k) u hk
  injection e with e
  injection e with e1 e2
  subst e1 e2
  exact ⟨g, off + i, rfl, hg, by rw [Nat.add_assoc]; exact hc⟩
set_option maxRecDepth 4000 in
set_option maxHeartbeats 1000000 in
theorem take_ref (m : Nat) {w : World} {rb g off cap i en : Nat} {b : List Oct} {F : Flt} (h : Rf w rb g off cap b i en F) (hm : m ≤ 1048576) :
    Calls Tryz.prog 117 #[.pointer (some ⟨rb, 0, none⟩), .int .i64 m] w fun r w' => ∃ (l : List Oct) (A' : Option Addr) (c : Nat), r = .returned (.slice A' l.length c) ∧ Lies w' rb A' (bytesV l) ∧ l.length ≤ m ∧
      (Step (takeP m) b en i F l fun j F' => Rf w' rb g off cap b j en F') ∧ Keeps (fun k => k = rb) w w' := by
  have HA := Lib.hid h
  have hb := h.rq.box
  have hen := h.rq.stop
  have hsm := h.rq.small
  have hroom := h.rq.room
  have hlen : (b.take en).length = en := by rw [List.length_take]; omega
  unfold rfC at hb
  obtain ⟨a0, a1, a2, a3⟩ := four hb
  have f1 := hb.free 1
  clear hb h
  cases F with
  | some f =>
    obtain ⟨hf0, hf1, hf2⟩ := HA.out.rq.nz f rfl
    have hfi : ¬ ((f.1 : Int) = 0) := by omega
    have hfe : ((f.1 : Int) == 0) = false := by simp; exact hf0
    unfold rfE rfI at *
    simp only [] at a0 a1 a2 a3
    go_enter Tryz.func117, Tryz.ntmps117
    go_wp2_with fail
    go_ret
    exact ⟨[], none, 0, rfl, Lies.nil, Nat.zero_le _, ⟨i, some f, Goes.stuck, Nat.le_refl _, HA.out⟩, Keeps.refl _ _⟩
  | none =>
    have hie := HA.out.le rfl
    unfold rfE rfI at *
    simp only [] at a0 a1 a2 a3
    by_cases hs : en - i < m
    · have HG : Hid (Goes (takeP m) (b.take en) i none i (some (50, i)) ([] : List Oct)) := Lib.hid (Or.inr ⟨by unfold takeP; rw [if_neg (by omega)], rfl⟩)
      have hs2 : (en : Int) - i < m := by omega
      clear hlen hs
      go_enter Tryz.func117, Tryz.ntmps117
      go_wp2_with fail
      go_quiet (fail)
      go_wp2_with fail
      refine (failR_ref 50 i (HA.out.past ((Keeps.refl _ w).drewN _)) (by decide) (by omega)).mono ?_
      rintro r w' ⟨rfl, hz, hk⟩
      have HZ := Lib.hid hz
      have HK := Lib.hid (((Keeps.refl (fun k => k = rb) w).drewN _).trans hk)
      clear hz HA hk
      go_wp2_with fail
      go_ret
      exact ⟨[], none, 0, rfl, Lies.nil, Nat.zero_le _, ⟨i, some (50, i), HG.out, Nat.le_refl _, HZ.out⟩, HK.out⟩
    · have hG : Goes (takeP m) (b.take en) i none (i + m) none ((b.drop i).take m) := Or.inl ⟨by
        unfold takeP
        rw [if_pos (by omega), List.drop_take, List.take_take, Nat.min_eq_left (by omega)], rfl⟩
      have HG := Lib.hid hG
      have hll : ((b.drop i).take m).length = m := by rw [List.length_take, List.length_drop]; omega
      have HT := Lib.hid (take_lies2 HA.out.rq.lies i m)
      have hs2 : ¬ ((en : Int) - i < m) := by omega
      have hci : i < cap := by omega
      have hcn : ¬ cap = i := by omega
      have hcn2 : ¬ i = cap := by omega
      have HZ : Hid (∀ n, Rf ((w.drewN n).setCell ⟨rb, 1, none⟩ (.int .i64 ((i : Int) + m))) rb g off cap b (i + m) en none ∧ Keeps (fun k => k = rb) w ((w.drewN n).setCell ⟨rb, 1, none⟩ (.int .i64 ((i : Int) + m)))) := Lib.hid (fun n => by
        have h2 := (HA.out.rq.past ((Keeps.refl _ w).drewN n)).put 1 (.int .i64 ((i + m : Nat) : Int)) (i + m) en none rfl hen (fun f hf => by cases hf)
        rw [Int.natCast_add] at h2
        exact ⟨⟨h2, fun _ => by omega⟩, ((Keeps.refl (fun k => k = rb) w).drewN n).setCell (p := ⟨rb, 1, none⟩) (fun _ => rfl) _⟩)
      have HLT : Hid (∀ w', Keeps (fun k => k = rb) w w' → Lies w' rb (some ⟨g, off + i, none⟩) (bytesV ((b.drop i).take m))) := Lib.hid fun w' hk => HT.out.keeps hk (fun k hk e => by omega) (Nat.le_of_lt HA.out.rq.box.inside)
      generalize (b.drop i).take m = l at *
      clear hlen hs hG HA HT
      go_enter Tryz.func117, Tryz.ntmps117
      go_wp2_with fail
      go_quiet (fail)
      go_wp2_with fail
      go_quiet (fail)
      go_wp2_with fail
      all_goals first | (exfalso; omega) | skip
      all_goals (
        go_ret
        refine ⟨l, some ⟨g, off + i, none⟩, cap - i, by rw [hll]; first | rfl | (rw [Nat.add_sub_cancel_left]; rfl), HLT.out _ (HZ.out _).2, by omega, ⟨i + m, none, HG.out, by omega, (HZ.out _).1⟩, (HZ.out _).2⟩)
set_option maxHeartbeats 1000000 in
theorem number_ref (m : Nat) {w : World} {rb g off cap i en : Nat} {b : List Oct} {F : Flt} (h : Rf w rb g off cap b i en F) (hm : m ≤ 8) :
    Calls Tryz.prog 115 #[.pointer (some ⟨rb, 0, none⟩), .int .i64 m] w fun r w' => ∃ y : Nat, r = .returned (.int .u64 y) ∧ y < 256 ^ m ∧ y < 18446744073709551616 ∧
      (Step (numP m) b en i F (y : Int) fun j F' => Rf w' rb g off cap b j en F') ∧ Keeps (fun k => k = rb) w w' := by
  have HT := Lib.hid (take_ref m h (by omega))
  clear h
  go_enter Tryz.func115, Tryz.ntmps115
  go_wp2_with fail
  refine HT.out.mono ?_
  rintro r w1 ⟨l, A, c, rfl, hl, hlm, hst, hk⟩
  have HS : Hid (Step (numP m) b en i F (val l : Int) fun j F' => Rf w1 rb g off cap b j en F') := Lib.hid hst.num
  have HL := Lib.hid hl
  have HK := Lib.hid hk
  have hvl := val_lt l
  have hvm : val l < 256 ^ m := Nat.lt_of_lt_of_le hvl (Nat.pow_le_pow_right (by decide) hlm)
  have HVM := Lib.hid hvm
  have hl8 : l.length ≤ 8 := by omega
  clear HT hl hst hvl hvm hk
  go_wp2_with fail
  go_loop [6, 7] (fun vx vk => ∃ k : Nat, k ≤ l.length ∧ vk = .int .i64 k ∧ vx = .int .u64 (val (l.take k) : Nat)) (fun _ vk => l.length - (intOf vk).toNat)
  case atStart => exact ⟨0, by omega, rfl, rfl⟩
  case round =>
    obtain ⟨k, hk, rfl, rfl⟩ := hrel
    by_cases hlt : k < l.length
    · obtain ⟨g', off', hA, _, hc⟩ := HL.out k _ (bytesV_get l k hlt)
      have hts := take_snoc l k hlt
      have hv := val_snoc (l.take k) l[k]
      have hlt2 : val (l.take k) < 72057594037927936 := by
        have h1 := val_lt (l.take k)
        rw [List.length_take, Nat.min_eq_left (by omega)] at h1
        have h2 : 256 ^ k ≤ 256 ^ 7 := Nat.pow_le_pow_right (by decide) (by omega)
        omega
      obtain ⟨x, hx⟩ : ∃ x, x = val (l.take k) := ⟨_, rfl⟩
      obtain ⟨c', hcx⟩ : ∃ c, c = l[k] := ⟨_, rfl⟩
      rw [← hts, ← hx, ← hcx] at hv
      have HV := Lib.hid hv
      rw [← hcx] at hc
      have hcl := c'.isLt
      subst hA
      rw [← hx] at hlt2 ⊢
      clear hv hts hx hcx
      go_wp2_with fail
      refine ⟨⟨k + 1, by omega, by go_num, ?_⟩, by simp [intOf]; omega⟩
      rw [or_byte64 x c'.toNat (by omega) hcl, HV.out]
    · obtain rfl : k = l.length := by omega
      rw [List.take_length]
      have hv4 : val l < 18446744073709551616 := by
        have h1 := HVM.out
        have h2 : 256 ^ m ≤ 256 ^ 8 := Nat.pow_le_pow_right (by decide) hm
        omega
      go_wp2_with fail
      go_ret
      exact ⟨val l, rfl, HVM.out, hv4, HS.out, HK.out⟩
end Go.Proofs.YtcmbdnjcfneinaaGreatDoor
/-
  The reference's reader of chapter 19: open, shut: the walks. Conditions: lengths within 2 ^ 20.
-/
namespace Go.Proofs.YtcmbdnjcfneinaaGreatDoor
open Go.RowKit
theorem i64_or_nat (a b : Nat) (ha : a < 9223372036854775808) (hb : b < 9223372036854775808) : bits .or .i64 (a : Int) (b : Int) = ((a ||| b : Nat) : Int) := by
  have hx : a ||| b < 2 ^ 63 := Nat.or_lt_two_pow (by omega) (by omega)
  show IntKind.i64.wrap ((BitVec.ofInt 64 (a : Int) ||| BitVec.ofInt 64 (b : Int)).toNat : Int) = _
  rw [BitVec.toNat_or, ofInt_u64 a (by omega), ofInt_u64 b (by omega)]
  generalize a ||| b = x at *
  simp only [IntKind.wrap, IntKind.signed, IntKind.bits]
  simp
  omega
theorem or_byteI (x c : Nat) (hx : x < 16777216) (hc : c < 256) : bits .or .i64 ((x : Int) * 256) (c : Int) = ((256 * x + c : Nat) : Int) := by
  have e : (x : Int) * 256 = ((256 * x : Nat) : Int) := by omega
  rw [e, i64_or_nat _ _ (by omega) (by omega)]
  have h := Nat.two_pow_add_eq_or_of_lt (i := 8) (b := c) (by simpa using hc) x
  congr 1
  exact h.symm
/-- What open finds: the section's reader then answers so. -/
def Opened (id : Oct) (b : List Oct) (i : Nat) (F : Flt) (en j : Nat) (G : Flt) : Prop := match F with
  | some f => G = some f
  | none => (G = some (54, i) ∧ ∀ (α : Type) (p : Pr α), secP id p (b.take (b.length - 4)) i = .bad 54 i) ∨
    (G = none ∧ j = i + 5 ∧ j ≤ en ∧ en ≤ b.length - 4 ∧ ∀ (α : Type) (p : Pr α), secP id p (b.take (b.length - 4)) i = match p (b.take en) j with
      | .bad q => .bad 50 q
      | .ok a k => if k < en then .bad 55 k else .ok a k)
theorem sec_short {α : Type} (id : Oct) (p : Pr α) {b : List Oct} {i : Nat} (h : b.length < i + 5) : secP id p b i = .bad 54 i := by unfold secP; rw [if_pos (.inl h)]
theorem sec_other {α : Type} (id : Oct) (p : Pr α) {b : List Oct} {i : Nat} (h : b[i]? ≠ some id) : secP id p b i = .bad 54 i := by unfold secP; rw [if_pos (.inr h)]
theorem sec_far {α : Type} (id : Oct) (p : Pr α) {b : List Oct} {i : Nat} (h1 : ¬ b.length < i + 5) (h2 : b[i]? = some id) (h3 : b.length < i + 5 + val ((b.drop (i + 1)).take 4)) : secP id p b i = .bad 54 i := by
  unfold secP
  rw [if_neg (by rw [h2]; simp; omega)]
  simp only []
  rw [if_pos h3]
theorem sec_in {α : Type} (id : Oct) (p : Pr α) {b : List Oct} {i : Nat} (h1 : ¬ b.length < i + 5) (h2 : b[i]? = some id) (h3 : ¬ b.length < i + 5 + val ((b.drop (i + 1)).take 4)) : secP id p b i = match p (b.take (i + 5 + val ((b.drop (i + 1)).take 4))) (i + 5) with
      | .bad q => .bad 50 q
      | .ok a k => if k < i + 5 + val ((b.drop (i + 1)).take 4) then .bad 55 k else .ok a k := by
  unfold secP
  rw [if_neg (by rw [h2]; simp; omega)]
  simp only []
  rw [if_neg h3]
  cases p (b.take (i + 5 + val ((b.drop (i + 1)).take 4))) (i + 5) <;> rfl
set_option maxRecDepth 8000 in
set_option maxHeartbeats 2000000 in
theorem open_ref (id : Oct) {w : World} {rb g off cap i en : Nat} {b : List Oct} {F : Flt} (h : Rq w rb g off cap b i en F) (h4 : 4 ≤ b.length) (hi : F = none → i + 4 ≤ b.length) :
    Calls Tryz.prog 114 #[.pointer (some ⟨rb, 0, none⟩), .int .u8 (id.toNat : Int)] w fun r w' => r = .returned (.tuple #[]) ∧ (∃ en' j G, Opened id b i F en' j G ∧ i ≤ j ∧ Rf w' rb g off cap b j en' G) ∧ Keeps (fun k => k = rb) w w' := by
  have HA := Lib.hid h
  have hb := h.box
  have hsm := h.small
  have hroom := h.room
  unfold rfC at hb
  obtain ⟨a0, a1, a2, a3⟩ := four hb
  clear hb h
  cases F with
  | some f =>
    obtain ⟨hf0, hf1, hf2⟩ := HA.out.nz f rfl
    have hfi : ¬ ((f.1 : Int) = 0) := by omega
    have hfe : ((f.1 : Int) == 0) = false := by simp; exact hf0
    unfold rfE rfI at *
    simp only [] at a0 a1 a2 a3
    go_enter Tryz.func114, Tryz.ntmps114
    go_wp2_with fail
    refine bodyPost_ret (results_none rfl _ _ _) rfl ?_
    exact ⟨rfl, ⟨en, i, some f, rfl, Nat.le_refl _, HA.out, fun e => by cases e⟩, Keeps.refl _ _⟩
  | none =>
    have hil := hi rfl
    clear hi
    unfold rfE rfI at *
    simp only [] at a0 a1 a2 a3
    obtain ⟨L, hL⟩ : ∃ L, L = b.length - 4 := ⟨_, rfl⟩
    have hbt : (b.take L).length = L := by rw [List.length_take]; omega
    have HBT := Lib.hid hbt
    have hwr : IntKind.i64.wrap ((b.length : Int) - 4 - i) = (b.length : Int) - 4 - i := by
      simp only [IntKind.wrap, IntKind.signed, IntKind.bits]
      simp
      omega
    by_cases h5 : L < i + 5
    · have HO : Hid (Opened id b i none en i (some (54, i))) := Lib.hid (.inl ⟨rfl, fun α p => by rw [← hL]; exact sec_short id p (by rw [hbt]; omega)⟩)
      have hs2 : (b.length : Int) - 4 - i < 5 := by omega
      have hs3 : decide ((b.length : Int) - 4 - i < 5) = true := decide_eq_true hs2
      clear hbt h5
      go_enter Tryz.func114, Tryz.ntmps114
      go_wp2_with fail
      go_quiet (fail)
      go_wp2_with fail
      refine (failF_ref 54 i (HA.out.past ((Keeps.refl _ w).drewN _)) (by decide) (by omega)).mono ?_
      rintro r w' ⟨rfl, hz, hk⟩
      have HZ := Lib.hid hz
      have HK := Lib.hid (((Keeps.refl (fun k => k = rb) w).drewN _).trans hk)
      clear hz HA hk
      go_wp2_with fail
      refine bodyPost_ret (results_none rfl _ _ _) rfl ?_
      exact ⟨rfl, ⟨en, i, some (54, i), HO.out, Nat.le_refl _, HZ.out, fun e => by cases e⟩, HK.out⟩
    · have hbi : i < b.length := by omega
      obtain ⟨g', off', eA, _, hc⟩ := HA.out.lies i _ (bytesV_get b i hbi)
      injection eA with eA
      injection eA with e1 e2 _
      subst e1 e2
      have hs2 : ¬ ((b.length : Int) - 4 - i < 5) := by omega
      have hs3 : decide ((b.length : Int) - 4 - i < 5) = false := decide_eq_false hs2
      have hgi : (b.take L)[i]? = some b[i] := by rw [List.getElem?_take, if_pos (by omega), List.getElem?_eq_getElem hbi]
      have HGI := Lib.hid hgi
      obtain ⟨c, hcx⟩ : ∃ c, c = b[i] := ⟨_, rfl⟩
      rw [← hcx] at hc HGI
      have hcl := c.isLt
      have hidl := id.isLt
      clear hgi hcx
      by_cases hid : c.toNat = id.toNat
      · have hce : c = id := BitVec.eq_of_toNat_eq hid
        subst hce
        clear hid hidl
        obtain ⟨bs, hbs⟩ : ∃ bs, bs = ((b.take L).drop (i + 1)).take 4 := ⟨_, rfl⟩
        have hbl : bs.length = 4 := by rw [hbs, List.length_take, List.length_drop, hbt]; omega
        have HBL := Lib.hid hbl
        have HBS : Hid (∀ k (h : k < 4), ∃ x : Oct, bs[k]? = some x ∧ w.cell? ⟨g, off + (i + (k + 1)), none⟩ = some (.int .u8 (x.toNat : Int))) := Lib.hid fun k hk => by
          have hb1 : i + (k + 1) < b.length := by omega
          obtain ⟨g', off', eA, _, hc'⟩ := HA.out.lies (i + (k + 1)) _ (bytesV_get b _ hb1)
          injection eA with eA
          injection eA with e1 e2 _
          subst e1 e2
          exact ⟨b[i + (k + 1)], by rw [hbs, List.getElem?_take, if_pos hk, List.getElem?_drop, List.getElem?_take, if_pos (by omega), show i + 1 + k = i + (k + 1) by omega]; exact List.getElem?_eq_getElem hb1, hc'⟩
        have HBE := Lib.hid hbs
        clear hbl hbs
        go_enter Tryz.func114, Tryz.ntmps114
        go_wp2_with fail
        go_quiet (fail)
        go_wp2_with fail
        go_loopw [5, 6] (fun vn vk wr => ∃ k d : Nat, k ≤ 4 ∧ vk = .int .i64 ((k : Int) + 1) ∧ vn = .int .i64 (val (bs.take k) : Nat) ∧ wr = w.drewN d) (fun _ vk _ => 5 - (intOf vk).toNat)
        case atStart => exact ⟨0, _, by omega, rfl, rfl, rfl⟩
        case round =>
          obtain ⟨k, d, hk, rfl, rfl, rfl⟩ := hrel
          by_cases hlt : k < 4
          · obtain ⟨x, hx, hcx⟩ := HBS.out k hlt
            have hts : bs.take (k + 1) = bs.take k ++ [x] := by rw [List.take_add_one, hx]; rfl
            have hv := val_snoc (bs.take k) x
            rw [← hts] at hv
            have hlt2 : val (bs.take k) < 16777216 := by
              have h1 := val_lt (bs.take k)
              have h3 := HBL.out
              rw [List.length_take, Nat.min_eq_left (by omega)] at h1
              have h2 : 256 ^ k ≤ 256 ^ 3 := Nat.pow_le_pow_right (by decide) (by omega)
              omega
            obtain ⟨v, hve⟩ : ∃ v, v = val (bs.take k) := ⟨_, rfl⟩
            rw [← hve] at hv hlt2 ⊢
            have HV := Lib.hid hv
            have hxl := x.isLt
            clear hv hts hve hx
            go_wp2_with fail
            go_quiet (fail)
            go_wp2_with fail
            exact ⟨⟨k + 1, _, by omega, by go_num, by rw [or_byteI v x.toNat hlt2 hxl, HV.out], rfl⟩, by simp [intOf]; omega⟩
          · obtain rfl : k = 4 := by omega
            have hb4 : bs.take 4 = bs := List.take_of_length_le (by rw [HBL.out]; exact Nat.le_refl _)
            rw [hb4]
            have hvl : val bs < 4294967296 := by
              have h1 := val_lt bs
              rw [HBL.out] at h1
              exact h1
            obtain ⟨n, hn⟩ : ∃ n, n = val bs := ⟨_, rfl⟩
            have HN : Hid (val (((b.take L).drop (i + 1)).take 4) = n) := Lib.hid (by rw [hn, HBE.out])
            rw [← hn] at hvl ⊢
            clear hn hb4 HBS HBL HBE hk hlt
            by_cases hfar : L < i + 5 + n
            · have HO : Hid (Opened c b i none en i (some (54, i))) := Lib.hid (.inl ⟨rfl, fun α p => by
                rw [← hL]
                exact sec_far c p (by rw [HBT.out]; exact h5) HGI.out (by rw [HBT.out, HN.out]; exact hfar)⟩)
              have hfi : (b.length : Int) - 4 - i - 5 < n := by omega
              clear HN
              go_wp2_with fail
              refine (failF_ref 54 i (HA.out.past ((Keeps.refl _ w).drewN _)) (by decide) (by omega)).mono ?_
              rintro r w' ⟨rfl, hz, hk⟩
              have HZ := Lib.hid hz
              have HK := Lib.hid (((Keeps.refl (fun k => k = rb) w).drewN _).trans hk)
              clear hz HA hk
              go_wp2_with fail
              refine bodyPost_ret (results_none rfl _ _ _) rfl ?_
              exact ⟨rfl, ⟨en, i, some (54, i), HO.out, Nat.le_refl _, HZ.out, fun e => by cases e⟩, HK.out⟩
            · have HO : Hid (Opened c b i none (i + 5 + n) (i + 5) none) := Lib.hid (.inr ⟨rfl, rfl, by omega, by omega, fun α p => by
                rw [← hL, sec_in c p (by rw [HBT.out]; exact h5) HGI.out (by rw [HBT.out, HN.out]; exact hfar), HN.out, List.take_take, Nat.min_eq_left (by omega)]⟩)
              have hfi : ¬ ((b.length : Int) - 4 - i - 5 < n) := by omega
              have HZ : Hid (∀ d, Rf (((w.drewN d).setCell ⟨rb, 1, none⟩ (.int .i64 ((i : Int) + 5))).setCell ⟨rb, 2, none⟩ (.int .i64 ((i : Int) + 5 + n))) rb g off cap b (i + 5) (i + 5 + n) none ∧ Keeps (fun k => k = rb) w (((w.drewN d).setCell ⟨rb, 1, none⟩ (.int .i64 ((i : Int) + 5))).setCell ⟨rb, 2, none⟩ (.int .i64 ((i : Int) + 5 + n)))) := Lib.hid (fun d => by
                have h1 := (HA.out.past ((Keeps.refl _ w).drewN d)).put 1 (.int .i64 ((i + 5 : Nat) : Int)) (i + 5) en none rfl HA.out.stop (fun f hf => by cases hf)
                have h2 := h1.put 2 (.int .i64 ((i + 5 + n : Nat) : Int)) (i + 5) (i + 5 + n) none rfl (by omega) (fun f hf => by cases hf)
                rw [Int.natCast_add, Int.natCast_add] at h2
                exact ⟨⟨h2, fun _ => by omega⟩, (((Keeps.refl (fun k => k = rb) w).drewN d).setCell (p := ⟨rb, 1, none⟩) (fun _ => rfl) _).setCell (p := ⟨rb, 2, none⟩) (fun _ => rfl) _⟩)
              have f1 := HA.out.box.free 1
              have f2 := HA.out.box.free 2
              clear HN HA
              go_wp2_with fail
              go_end0
              exact ⟨rfl, ⟨i + 5 + n, i + 5, none, HO.out, by omega, (HZ.out _).1⟩, (HZ.out _).2⟩
      · have HO : Hid (Opened id b i none en i (some (54, i))) := Lib.hid (.inl ⟨rfl, fun α p => by
          rw [← hL]
          exact sec_other id p (by rw [HGI.out]; intro e; injection e with e; exact hid (by rw [e]))⟩)
        have hidI : ¬ ((c.toNat : Int) = (id.toNat : Int)) := by omega
        go_enter Tryz.func114, Tryz.ntmps114
        go_wp2_with fail
        go_quiet (fail)
        go_wp2_with fail
        refine (failF_ref 54 i (HA.out.past ((Keeps.refl _ w).drewN _)) (by decide) (by omega)).mono ?_
        rintro r w' ⟨rfl, hz, hk⟩
        have HZ := Lib.hid hz
        have HK := Lib.hid (((Keeps.refl (fun k => k = rb) w).drewN _).trans hk)
        clear hz HA hk
        go_wp2_with fail
        refine bodyPost_ret (results_none rfl _ _ _) rfl ?_
        exact ⟨rfl, ⟨en, i, some (54, i), HO.out, Nat.le_refl _, HZ.out, fun e => by cases e⟩, HK.out⟩
def shutF (i en : Nat) (F : Flt) : Flt := match F with
  | some f => some f
  | none => if i = en then none else some (55, i)
set_option maxHeartbeats 1000000 in
theorem shut_ref {w : World} {rb g off cap i en : Nat} {b : List Oct} {F : Flt} (h : Rf w rb g off cap b i en F) :
    Calls Tryz.prog 116 #[.pointer (some ⟨rb, 0, none⟩)] w fun r w' => r = .returned (.tuple #[]) ∧ Rf w' rb g off cap b i en (shutF i en F) ∧ Keeps (fun k => k = rb) w w' := by
  have HA := Lib.hid h
  have hb := h.rq.box
  have hsm := h.rq.small
  have hst := h.rq.stop
  unfold rfC at hb
  obtain ⟨a0, a1, a2, a3⟩ := four hb
  clear hb h
  cases F with
  | some f =>
    obtain ⟨hf0, hf1, hf2⟩ := HA.out.rq.nz f rfl
    have hfi : ¬ ((f.1 : Int) = 0) := by omega
    have hfe : ((f.1 : Int) == 0) = false := by simp; exact hf0
    unfold rfE rfI at *
    simp only [] at a0 a1 a2 a3
    go_enter Tryz.func116, Tryz.ntmps116
    go_wp2_with fail
    go_quiet (fail)
    go_wp2_with fail
    go_end0
    exact ⟨rfl, HA.out.past ((Keeps.refl _ w).drewN _), (Keeps.refl _ w).drewN _⟩
  | none =>
    have hie := HA.out.le rfl
    unfold rfE rfI at *
    simp only [] at a0 a1 a2 a3
    by_cases he : i = en
    · have heI : ((i : Int) != (en : Int)) = false := by simp; omega
      have HZ : Hid (shutF i en none = none) := Lib.hid (by unfold shutF; simp only []; rw [if_pos he])
      go_enter Tryz.func116, Tryz.ntmps116
      go_wp2_with fail
      go_quiet (fail)
      go_wp2_with fail
      go_end0
      exact ⟨rfl, by rw [HZ.out]; exact HA.out.past ((Keeps.refl _ w).drewN _), (Keeps.refl _ w).drewN _⟩
    · have heI : ((i : Int) != (en : Int)) = true := by simp; omega
      have heN : ¬ ((i : Int) = (en : Int)) := by omega
      have HZ : Hid (shutF i en none = some (55, i)) := Lib.hid (by unfold shutF; simp only []; rw [if_neg he])
      go_enter Tryz.func116, Tryz.ntmps116
      go_wp2_with fail
      go_quiet (fail)
      go_wp2_with fail
      refine (failR_ref 55 i (HA.out.past ((Keeps.refl _ w).drewN _)) (by decide) (by omega)).mono ?_
      rintro r w' ⟨rfl, hz, hk⟩
      have HW := Lib.hid hz
      have HK := Lib.hid (((Keeps.refl (fun k => k = rb) w).drewN _).trans hk)
      clear hz HA hk
      go_wp2_with fail
      go_end0
      exact ⟨rfl, by rw [HZ.out]; exact HW.out, HK.out⟩
/-- From a place and a fault, if any, over a section. -/
def SGoes {α : Type} (p : Ps α) (b : List Oct) (i : Nat) (F : Flt) (j : Nat) (G : Flt) (a : α) : Prop := match F with
  | some f => G = some f
  | none => (p b i = .ok a j ∧ G = none) ∨ (∃ f, p b i = .bad f.1 f.2 ∧ G = some f)
theorem sec_goes {α : Type} {id : Oct} {q : Pr α} {b : List Oct} {i j k en : Nat} {F G H : Flt} {a : α} (ho : Opened id b i F en j G) (hg : Goes q (b.take en) j G k H a) (hk : H = none → k ≤ en) : SGoes (secP id q) (b.take (b.length - 4)) i F k (shutF k en H) a := by
  cases F with
  | some f =>
    have ho' : G = some f := ho
    subst ho'
    obtain ⟨rfl, rfl⟩ := hg
    rfl
  | none =>
    rcases ho with ⟨rfl, hs⟩ | ⟨rfl, rfl, h1, h2, hs⟩
    · obtain ⟨rfl, rfl⟩ := hg
      exact .inr ⟨(54, i), hs α q, rfl⟩
    · rcases hg with ⟨h3, rfl⟩ | ⟨h3, rfl⟩
      · have hke := hk rfl
        unfold SGoes shutF
        simp only []
        rw [hs α q, h3]
        simp only []
        by_cases e : k = en
        · rw [if_neg (by omega), if_pos e]
          exact .inl ⟨rfl, rfl⟩
        · rw [if_pos (by omega), if_neg e]
          exact .inr ⟨(55, k), rfl, rfl⟩
      · unfold SGoes shutF
        simp only []
        rw [hs α q, h3]
        exact .inr ⟨(50, k), rfl, rfl⟩
theorem SGoes.seq {α β : Type} {p : Ps α} {f : α → Ps β} {b : List Oct} {i j k : Nat} {F G H : Flt} {a : α} {c : β} (h : SGoes p b i F j G a) (k' : SGoes (f a) b j G k H c) : SGoes (p.andThen f) b i F k H c := by
  cases F with
  | some x =>
    have h' : G = some x := h
    subst h'
    exact k'
  | none =>
    rcases h with ⟨h1, rfl⟩ | ⟨x, h1, rfl⟩
    · unfold SGoes Ps.andThen
      simp only [h1]
      exact k'
    · have k2 : H = some x := k'
      unfold SGoes Ps.andThen
      simp only [h1]
      exact .inr ⟨x, rfl, k2⟩
theorem SGoes.map {α β : Type} {p : Ps α} {b : List Oct} {i j : Nat} {F G : Flt} {a : α} (f : α → β) (h : SGoes p b i F j G a) : SGoes (p.map f) b i F j G (f a) := by
  cases F with
  | some x => exact h
  | none =>
    rcases h with ⟨h1, rfl⟩ | ⟨x, h1, rfl⟩
    · unfold SGoes Ps.map
      simp only [h1]
      simp
    · unfold SGoes Ps.map
      simp only [h1]
      simp
end Go.Proofs.YtcmbdnjcfneinaaGreatDoor
/-
  The reference's reader of chapter 19: what stands while a thing is read into a box. Conditions: none.
-/
namespace Go.Proofs.YtcmbdnjcfneinaaGreatDoor
open Go.RowKit
structure Rw (w W : World) (rb g off cap : Nat) (b : List Oct) (i en : Nat) (F : Flt) (t : TypeId) (r0 xb : Nat) (rcs cs : Array Value) : Prop where
  lo : rb < w.heap.size
  r0lo : w.heap.size ≤ r0
  xblo : w.heap.size ≤ xb
  ne : r0 ≠ xb
  res : Whole W r0 t rcs
  box : Whole W xb t cs
  rd : Rf W rb g off cap b i en F
  keeps : Keeps (fun k => k = rb) w W
theorem own_not {w : World} {B s n g : Nat} {t e : TypeId} {v : Value} {xs : List Value} {cs : Array Value} (h : w.ownsRow B e s v n xs) (hw : Whole w g t cs) (hne : e ≠ t) : v.ownBlock ≠ some g := fun hb => by
  obtain ⟨cs', fr, e1⟩ := own_ofTy h g hb
  have e2 := hw.symm.trans e1
  injection e2 with e2
  injection e2 with _ e3 _
  exact hne e3.symm
section
variable {w W W' : World} {rb g off cap i j en r0 xb : Nat} {b : List Oct} {F G : Flt} {t e : TypeId} {rcs cs : Array Value} {s n : Nat} {v : Value} {xs : List Value}
theorem Rw.call (h : Rw w W rb g off cap b i en F t r0 xb rcs cs) (hk : Keeps (fun k => k = rb) W W') (hr : Rf W' rb g off cap b j en G) : Rw w W' rb g off cap b j en G t r0 xb rcs cs :=
  ⟨h.lo, h.r0lo, h.xblo, h.ne, h.res.keeps hk (fun e => by have := h.lo; have := h.r0lo; omega), h.box.keeps hk (fun e => by have := h.lo; have := h.xblo; omega), hr, h.keeps.trans hk⟩
theorem Rw.past (h : Rw w W rb g off cap b i en F t r0 xb rcs cs) (hk : Keeps (fun _ => False) W W') : Rw w W' rb g off cap b i en F t r0 xb rcs cs :=
  ⟨h.lo, h.r0lo, h.xblo, h.ne, h.res.keeps hk id, h.box.keeps hk id, h.rd.past hk, h.keeps.and hk (fun _ _ h => h.elim)⟩
theorem Rw.grow (h : Rw w W rb g off cap b i en F t r0 xb rcs cs) (ho : W.ownsRow w.heap.size e s v n xs) (hg : W.grownBy W' v.ownBlock) (hne : e ≠ t) : Rw w W' rb g off cap b i en F t r0 xb rcs cs := by
  have hk : Keeps (fun k => v.ownBlock = some k) W W' := (Keeps.refl _ W).grown hg fun _ e _ => e
  have hlo := h.lo
  exact ⟨h.lo, h.r0lo, h.xblo, h.ne, h.res.keeps hk (own_not ho h.res hne), h.box.keeps hk (own_not ho h.box hne), h.rd.calm hk (fun k hk' e => by have := (ho.lt k e).1; omega), h.keeps.and hk (fun k hk' e => by have := (ho.lt k e).1; omega)⟩
theorem Rw.put (h : Rw w W rb g off cap b i en F t r0 xb rcs cs) (o : Nat) (u : Value) : Rw w (W.setCell ⟨xb, o, none⟩ u) rb g off cap b i en F t r0 xb rcs (cs.setIfInBounds o u) := by
  have hk := (Keeps.refl (fun k => k = xb) W).setCell (p := ⟨xb, o, none⟩) (fun _ => rfl) u
  have hlo := h.lo
  have hxb := h.xblo
  exact ⟨h.lo, h.r0lo, h.xblo, h.ne, h.res.keeps hk h.ne, h.box.put o u, h.rd.calm hk (fun k hk' e => by omega), h.keeps.and hk (fun k hk' e => by omega)⟩
theorem own_call (h : Rw w W rb g off cap b i en F t r0 xb rcs cs) (ho : W.ownsRow w.heap.size e s v n xs) (hk : Keeps (fun k => k = rb) W W') : W'.ownsRow w.heap.size e s v n xs := own_keepsS ho hk fun k hb e => by have := (ho.lt k hb).1; have := h.lo; omega
theorem own_put (h : Rw w W rb g off cap b i en F t r0 xb rcs cs) (ho : W.ownsRow w.heap.size e s v n xs) (hne : e ≠ t) (o : Nat) (u : Value) : (W.setCell ⟨xb, o, none⟩ u).ownsRow w.heap.size e s v n xs :=
  own_keepsS ho ((Keeps.refl (fun k => k = xb) W).setCell (p := ⟨xb, o, none⟩) (fun _ => rfl) u) fun k hb e => own_not ho h.box hne (by rw [hb, e])
end
theorem wrap8_sx (y : Nat) (h : y < 256) : IntKind.i8.wrap (y : Int) = sx8 y := by
  unfold sx8
  simp only [IntKind.wrap, IntKind.signed, IntKind.bits]
  simp
  split <;> split <;> omega
theorem wrapI_sx (y : Nat) (h : y < 18446744073709551616) : IntKind.i64.wrap (y : Int) = sx64 y := by
  unfold sx64
  simp only [IntKind.wrap, IntKind.signed, IntKind.bits]
  simp
  split <;> split <;> omega
theorem wrapI_id (y : Nat) (h : y < 9223372036854775808) : IntKind.i64.wrap (y : Int) = y := by
  simp only [IntKind.wrap, IntKind.signed, IntKind.bits]
  simp
  omega
end Go.Proofs.YtcmbdnjcfneinaaGreatDoor
/-
  The reference's reader of an effect: the walk. Conditions: lengths within 2 ^ 20.
-/
namespace Go.Proofs.YtcmbdnjcfneinaaGreatDoor
open Go.RowKit
theorem info_i8D : (Tryz.prog.info? 80).map (fun i => (i.zero, i.size, i.bytes)) = some (some (.int .i8 0), 1, 1) := by kernel_rfl
theorem effV_mk (a bo : Int) (l : List Int) (t : List Oct) (A A2 : Option Addr) (c c2 : Nat) : effV ⟨a, l, bo, t⟩ A A2 c c2 = #[.int .i64 a, .slice A l.length c, .slice A2 t.length c2, .int .i64 bo] := rfl
set_option maxRecDepth 8000 in
set_option maxHeartbeats 4000000 in
theorem effectRd_ref {w : World} {rb g off cap i en : Nat} {b : List Oct} {F : Flt} (h : Rf w rb g off cap b i en F) :
    Calls Tryz.prog 149 #[.pointer (some ⟨rb, 0, none⟩)] w fun r w' => ∃ (e : Eff) (A1 A2 : Option Addr) (c1 c2 : Nat), r = .returned (.agg (effV e A1 A2 c1 c2)) ∧ OSm w' w.heap.size (.slice A1 e.slots.length c1) e.slots ∧ OBy w' w.heap.size (.slice A2 e.code.length c2) e.code ∧ EffFew e ∧
      (Step effP b en i F e fun j F' => Rf w' rb g off cap b j en F') ∧ Keeps (fun k => k = rb) w w' := by
  have hin := h.rq.box.inside
  have ka := (Keeps.refl (fun _ => False) w).alloc (.cells #[.int .i64 0, .slice none 0 0, .slice none 0 0, .int .i64 0] 43)
  have R0 := Lib.hid (Whole.made w 43 #[.int .i64 0, .slice none 0 0, .slice none 0 0, .int .i64 0])
  have D := Lib.hid (h.past ka)
  have K := Lib.hid (ka.mono (T := fun k => k = rb) (fun _ _ h => h.elim))
  have HIN := Lib.hid hin
  clear h ka
  go_enter Tryz.func149, Tryz.ntmps149
  go_wp2_with fail
  generalize w.alloc _ = w0 at *
  refine (number_ref 1 D.out (by decide)).mono ?_
  rintro r w1 ⟨yo, rfl, hyo, _, ⟨i1, F1, hg1, hi1, hr1⟩, k1⟩
  have hyo8 : yo < 256 := hyo
  have hwo := wrapI_id yo (by omega)
  have G1 := Lib.hid hg1
  have ka := (Keeps.refl (fun _ => False) w1).alloc (.cells #[.int .i64 (yo : Int), .slice none 0 0, .slice none 0 0, .int .i64 0] 43)
  have hw01 : w.heap.size < w0.heap.size := R0.out.inside
  have hsz1 := k1.size
  have Q : Hid (Rw w (w1.alloc (.cells #[.int .i64 (yo : Int), .slice none 0 0, .slice none 0 0, .int .i64 0] 43)) rb g off cap b i1 en F1 43 w.heap.size w1.heap.size #[.int .i64 0, .slice none 0 0, .slice none 0 0, .int .i64 0] #[.int .i64 (yo : Int), .slice none 0 0, .slice none 0 0, .int .i64 0]) := Lib.hid ⟨HIN.out, Nat.le_refl _, by omega, by omega, (R0.out.keeps k1 (fun e => by omega)).alloc _, Whole.made w1 _ _, hr1.past ka, (K.out.trans k1).alloc _⟩
  clear hg1 hr1 k1 ka D R0 K hyo hsz1 hw01
  go_wp2_with fail
  generalize w1.alloc _ = w2 at *
  refine (number_ref 1 Q.out.rd (by decide)).mono ?_
  rintro r w3 ⟨n, rfl, hn, _, ⟨i2, F2, hg2, hi2, hr2⟩, k2⟩
  have hn8 : n < 256 := hn
  have hwn := wrapI_id n (by omega)
  have G2 := Lib.hid hg2
  replace Q := Lib.hid (Q.out.call k2 hr2)
  generalize w1.heap.size = xb at *
  have OW : Hid (w3.ownsRow w.heap.size 80 1 (.slice none 0 0) 0 []) := Lib.hid (World.ownsRow_nil _ _ _ _)
  clear hg2 hr2 k2 hn hwo
  go_wp2_with fail
  clear hwn
  go_loopw [5] (fun vi wr => ∃ (l : List Int) (A : Option Addr) (c j : Nat) (G : Flt), l.length ≤ n ∧ vi = .int .i64 l.length ∧ Hid (Rw w wr rb g off cap b j en G 43 w.heap.size xb #[.int .i64 0, .slice none 0 0, .slice none 0 0, .int .i64 0] #[.int .i64 (yo : Int), .slice A l.length c, .slice none 0 0, .int .i64 0]) ∧ Hid (wr.ownsRow w.heap.size 80 1 (.slice A l.length c) l.length (l.map (Value.int .i8))) ∧ Hid (Goes (repP s8P l.length) (b.take en) i2 F2 j G l) ∧ Hid (i2 ≤ j) ∧ Hid (∀ x ∈ l, -128 ≤ x ∧ x ≤ 127)) (fun vi _ => n - (intOf vi).toNat)
  case atStart => exact ⟨[], none, 0, i2, F2, Nat.zero_le _, rfl, Q, OW, Lib.hid (Goes.ret _), Lib.hid (Nat.le_refl _), Lib.hid (fun _ h => by cases h)⟩
  case round =>
    clear Q OW
    obtain ⟨l, A, c, j, G, hl, rfl, Q, OW, GL, HJ, HS⟩ := hrel
    have hbx := Q.out.rd.rq.box
    unfold rfC at hbx
    obtain ⟨a0, a1, a2, a3⟩ := four hbx
    clear hbx
    cases G with
    | some f =>
      obtain ⟨hf0, hf1, hf2⟩ := Q.out.rd.rq.nz f rfl
      have hfi : ¬ ((f.1 : Int) = 0) := by omega
      have hfe : ((f.1 : Int) == 0) = false := by simp; exact hf0
      unfold rfI at a1
      unfold rfE at a3
      simp only [] at a1 a3
      replace GL : Hid (Goes (repP s8P n) (b.take en) i2 F2 j (some f) l) := Lib.hid (GL.out.more hl)
      by_cases hlt : l.length < n
      · go_wp2_with fail
        clear hlt hfi hfe hf0 hf1 hf2
        refine (number_ref 8 Q.out.rd (by decide)).mono ?_
        rintro r V1 ⟨yb, rfl, _, hyb, ⟨j3, F3, hg3, hj3, hr⟩, hk⟩
        have hwb := wrapI_sx yb hyb
        have G3 := Lib.hid hg3
        have Q1 := Lib.hid (Q.out.call hk hr)
        have O1 := Lib.hid (own_call Q.out OW.out hk)
        have f3 := Q1.out.box.free 3
        have c3 := Q1.out.box.cellAt 3
        clear hk hr hg3 Q OW a0 a1 a2 a3
        go_wp2_with fail
        have Q2 := Lib.hid (Q1.out.put 3 (.int .i64 (sx64 yb)))
        have O2 := Lib.hid (own_put Q1.out O1.out (by decide) 3 (.int .i64 (sx64 yb)))
        clear Q1 O1 f3 c3 hwb hyb
        generalize V1.setCell ⟨xb, 3, none⟩ (.int .i64 (sx64 yb)) = V2 at *
        refine (number_ref 2 Q2.out.rd (by decide)).mono ?_
        rintro r V3 ⟨yl, rfl, hyl, _, ⟨j4, F4, hg4, hj4, hr⟩, hk⟩
        have hyl8 : yl < 65536 := hyl
        have hwl := wrapI_id yl (by omega)
        have G4 := Lib.hid hg4
        have Q3 := Lib.hid (Q2.out.call hk hr)
        have O3 := Lib.hid (own_call Q2.out O2.out hk)
        clear hk hr hg4 Q2 O2 hyl
        go_wp2_with fail
        refine (take_ref yl Q3.out.rd (by omega)).mono ?_
        rintro r V4 ⟨t, At, ct, rfl, ht, htl, ⟨j5, F5, hg5, hj5, hr⟩, hk⟩
        have G5 := Lib.hid hg5
        have Q4 := Lib.hid (Q3.out.call hk hr)
        have O4 := Lib.hid (own_call Q3.out O3.out hk)
        have HT := Lib.hid (ht.more (Nat.le_of_lt Q4.out.rd.rq.box.inside))
        clear hk hr hg5 Q3 O3 ht hwl
        go_wp2_with fail
        refine (copyBytes_in t At ct V4 HT.out (by omega)).mono ?_
        rintro r V5 ⟨A2, c2, rfl, hob, hk⟩
        have Q5 := Lib.hid (Q4.out.past hk)
        have O5 := Lib.hid (own_keepsS O4.out hk (fun _ _ => id))
        have B5 := Lib.hid (hob.less Q4.out.keeps.size)
        clear hob hk Q4 O4 HT
        obtain ⟨x0, x1, x2, x3⟩ := four Q5.out.box
        obtain ⟨z0, z1, z2, z3⟩ := four Q5.out.res
        have xf := Q5.out.box.free 2
        have zf0 := Q5.out.res.free 0
        have zf1 := Q5.out.res.free 1
        have zf2 := Q5.out.res.free 2
        have zf3 := Q5.out.res.free 3
        have hne := Q5.out.ne
        have RF := Lib.hid (((((Q5.out.res.putFar (p := ⟨xb, 2, none⟩) hne (.slice A2 t.length c2)).put 0 (.int .i64 (yo : Int))).put 1 (.slice A l.length c)).put 2 (.slice A2 t.length c2)).put 3 (.int .i64 (sx64 yb)))
        have KF := Lib.hid ((((((Keeps.refl (fun k => k = xb ∨ k = w.heap.size) V5).setCell (p := ⟨xb, 2, none⟩) (fun _ => .inl rfl) (.slice A2 t.length c2)).setCell (p := ⟨w.heap.size, 0, none⟩) (fun _ => .inr rfl) (.int .i64 (yo : Int))).setCell (p := ⟨w.heap.size, 1, none⟩) (fun _ => .inr rfl) (.slice A l.length c)).setCell (p := ⟨w.heap.size, 2, none⟩) (fun _ => .inr rfl) (.slice A2 t.length c2)).setCell (p := ⟨w.heap.size, 3, none⟩) (fun _ => .inr rfl) (.int .i64 (sx64 yb)))
        go_wp2_with fail
        refine bodyPost_ret (results_cell rfl _ w.heap.size rfl (#[.int .i64 (yo : Int), .slice A l.length c, .slice A2 t.length c2, .int .i64 (sx64 yb)]) _ RF.out _ Tryz.underlying43 rfl (by kernel_rfl)) rfl ?_
        have hlo := Q5.out.lo
        have hxl := Q5.out.xblo
        refine ⟨⟨yo, l, sx64 yb, t⟩, A, A2, c, c2, by rw [effV_mk], own_keepsS O5.out KF.out (fun k hb e => ?_), own_keepsS B5.out KF.out (fun k hb e => ?_), ⟨by show l.length ≤ _; omega, by show t.length ≤ _; omega, HS.out⟩, ⟨j5, F5, ?_, by have := HJ.out; omega, Q5.out.rd.calm KF.out (fun k hk e => by omega)⟩, Q5.out.keeps.and KF.out (fun k hk e => by omega)⟩
        · rcases e with e | e
          · exact own_not O5.out Q5.out.box (by decide) (by rw [hb, e])
          · exact own_not O5.out Q5.out.res (by decide) (by rw [hb, e])
        · rcases e with e | e
          · exact own_not B5.out Q5.out.box (by decide) (by rw [hb, e])
          · exact own_not B5.out Q5.out.res (by decide) (by rw [hb, e])
        · have q4 : Goes (bytesP 2) (b.take en) j3 F3 j5 F5 t := G4.out.seq (by rw [Int.toNat_natCast]; exact G5.out)
          have q2 : Goes (listP 1 s8P) (b.take en) i1 F1 _ _ l := G2.out.seq (by rw [Int.toNat_natCast]; exact GL.out)
          exact G1.out.seq (q2.seq ((G3.out.map sx64).seq (q4.map fun co => (⟨yo, l, sx64 yb, co⟩ : Eff))))
      · go_wp2_with fail
        clear hlt hfi hfe hf0 hf1 hf2
        refine (number_ref 8 Q.out.rd (by decide)).mono ?_
        rintro r V1 ⟨yb, rfl, _, hyb, ⟨j3, F3, hg3, hj3, hr⟩, hk⟩
        have hwb := wrapI_sx yb hyb
        have G3 := Lib.hid hg3
        have Q1 := Lib.hid (Q.out.call hk hr)
        have O1 := Lib.hid (own_call Q.out OW.out hk)
        have f3 := Q1.out.box.free 3
        have c3 := Q1.out.box.cellAt 3
        clear hk hr hg3 Q OW a0 a1 a2 a3
        go_wp2_with fail
        have Q2 := Lib.hid (Q1.out.put 3 (.int .i64 (sx64 yb)))
        have O2 := Lib.hid (own_put Q1.out O1.out (by decide) 3 (.int .i64 (sx64 yb)))
        clear Q1 O1 f3 c3 hwb hyb
        generalize V1.setCell ⟨xb, 3, none⟩ (.int .i64 (sx64 yb)) = V2 at *
        refine (number_ref 2 Q2.out.rd (by decide)).mono ?_
        rintro r V3 ⟨yl, rfl, hyl, _, ⟨j4, F4, hg4, hj4, hr⟩, hk⟩
        have hyl8 : yl < 65536 := hyl
        have hwl := wrapI_id yl (by omega)
        have G4 := Lib.hid hg4
        have Q3 := Lib.hid (Q2.out.call hk hr)
        have O3 := Lib.hid (own_call Q2.out O2.out hk)
        clear hk hr hg4 Q2 O2 hyl
        go_wp2_with fail
        refine (take_ref yl Q3.out.rd (by omega)).mono ?_
        rintro r V4 ⟨t, At, ct, rfl, ht, htl, ⟨j5, F5, hg5, hj5, hr⟩, hk⟩
        have G5 := Lib.hid hg5
        have Q4 := Lib.hid (Q3.out.call hk hr)
        have O4 := Lib.hid (own_call Q3.out O3.out hk)
        have HT := Lib.hid (ht.more (Nat.le_of_lt Q4.out.rd.rq.box.inside))
        clear hk hr hg5 Q3 O3 ht hwl
        go_wp2_with fail
        refine (copyBytes_in t At ct V4 HT.out (by omega)).mono ?_
        rintro r V5 ⟨A2, c2, rfl, hob, hk⟩
        have Q5 := Lib.hid (Q4.out.past hk)
        have O5 := Lib.hid (own_keepsS O4.out hk (fun _ _ => id))
        have B5 := Lib.hid (hob.less Q4.out.keeps.size)
        clear hob hk Q4 O4 HT
        obtain ⟨x0, x1, x2, x3⟩ := four Q5.out.box
        obtain ⟨z0, z1, z2, z3⟩ := four Q5.out.res
        have xf := Q5.out.box.free 2
        have zf0 := Q5.out.res.free 0
        have zf1 := Q5.out.res.free 1
        have zf2 := Q5.out.res.free 2
        have zf3 := Q5.out.res.free 3
        have hne := Q5.out.ne
        have RF := Lib.hid (((((Q5.out.res.putFar (p := ⟨xb, 2, none⟩) hne (.slice A2 t.length c2)).put 0 (.int .i64 (yo : Int))).put 1 (.slice A l.length c)).put 2 (.slice A2 t.length c2)).put 3 (.int .i64 (sx64 yb)))
        have KF := Lib.hid ((((((Keeps.refl (fun k => k = xb ∨ k = w.heap.size) V5).setCell (p := ⟨xb, 2, none⟩) (fun _ => .inl rfl) (.slice A2 t.length c2)).setCell (p := ⟨w.heap.size, 0, none⟩) (fun _ => .inr rfl) (.int .i64 (yo : Int))).setCell (p := ⟨w.heap.size, 1, none⟩) (fun _ => .inr rfl) (.slice A l.length c)).setCell (p := ⟨w.heap.size, 2, none⟩) (fun _ => .inr rfl) (.slice A2 t.length c2)).setCell (p := ⟨w.heap.size, 3, none⟩) (fun _ => .inr rfl) (.int .i64 (sx64 yb)))
        go_wp2_with fail
        refine bodyPost_ret (results_cell rfl _ w.heap.size rfl (#[.int .i64 (yo : Int), .slice A l.length c, .slice A2 t.length c2, .int .i64 (sx64 yb)]) _ RF.out _ Tryz.underlying43 rfl (by kernel_rfl)) rfl ?_
        have hlo := Q5.out.lo
        have hxl := Q5.out.xblo
        refine ⟨⟨yo, l, sx64 yb, t⟩, A, A2, c, c2, by rw [effV_mk], own_keepsS O5.out KF.out (fun k hb e => ?_), own_keepsS B5.out KF.out (fun k hb e => ?_), ⟨by show l.length ≤ _; omega, by show t.length ≤ _; omega, HS.out⟩, ⟨j5, F5, ?_, by have := HJ.out; omega, Q5.out.rd.calm KF.out (fun k hk e => by omega)⟩, Q5.out.keeps.and KF.out (fun k hk e => by omega)⟩
        · rcases e with e | e
          · exact own_not O5.out Q5.out.box (by decide) (by rw [hb, e])
          · exact own_not O5.out Q5.out.res (by decide) (by rw [hb, e])
        · rcases e with e | e
          · exact own_not B5.out Q5.out.box (by decide) (by rw [hb, e])
          · exact own_not B5.out Q5.out.res (by decide) (by rw [hb, e])
        · have q4 : Goes (bytesP 2) (b.take en) j3 F3 j5 F5 t := G4.out.seq (by rw [Int.toNat_natCast]; exact G5.out)
          have q2 : Goes (listP 1 s8P) (b.take en) i1 F1 _ _ l := G2.out.seq (by rw [Int.toNat_natCast]; exact GL.out)
          exact G1.out.seq (q2.seq ((G3.out.map sx64).seq (q4.map fun co => (⟨yo, l, sx64 yb, co⟩ : Eff))))
    | none =>
      unfold rfI at a1
      unfold rfE at a3
      simp only [] at a1 a3
      by_cases hlt : l.length < n
      · have QD := Lib.hid (Q.out.past ((Keeps.refl (fun _ => False) wr).drew))
        have OD := Lib.hid (own_keepsS OW.out ((Keeps.refl (fun _ => False) wr).drew) (fun _ _ => id))
        have hT0 : Hid (wr.drew.cell? ⟨xb, 1, none⟩ = some (.slice A l.length c)) := Lib.hid (QD.out.box.cellAt 1)
        have HC := Lib.hid (number_ref 1 QD.out.rd (by decide))
        have HBASE : Hid (w.heap.size ≤ wr.drew.heap.size) := Lib.hid QD.out.keeps.size
        clear Q OW
        go_wp2_with fail
        refine wp_region_upTo 6 (fun _ => True) (fun W => W.cell? ⟨xb, 1, none⟩ = some (.slice A l.length c)) (by kernel_rfl) ?_
        refine upTo_take (i := 0) (v := ?v1) rfl (by kernel_rfl) (by kernel_rfl) (by kernel_rfl) (fun _ _ _ h => by first | exact h | exact absurd h.1 (fun e => by cases e)) (by decide) (Or.inl ⟨by rfl, ?hy1⟩) (trivial) (fun _ => hT0.out) ?rest1
        case hy1 =>
          intro w hSw
          clear hSw
          go_simp
          try with_reducible rfl
        go_simp
        refine upTo_load (i := 1) (v := ?v2) rfl (by kernel_rfl) (by kernel_rfl) (by kernel_rfl) (fun _ _ _ h => by first | exact h | exact absurd h.1 (fun e => by cases e)) (by decide) (by kernel_rfl) (by kernel_rfl) (Or.inl ⟨by rfl, ?hy2⟩) (trivial) (hT0.out) ?rest2
        case hy2 =>
          intro w hSw
          obtain qh := hSw
          go_simp
          try with_reducible rfl
        go_simp
        refine upTo_take (i := 2) (v := ?v3) rfl (by kernel_rfl) (by kernel_rfl) (by kernel_rfl) (fun _ _ _ h => by first | exact h | exact absurd h.1 (fun e => by cases e)) (by decide) (Or.inl ⟨by rfl, ?hy3⟩) (trivial) (fun _ => hT0.out) ?rest3
        case hy3 =>
          intro w hSw
          clear hSw
          go_simp
          try with_reducible rfl
        go_simp
        refine upTo_next (i := 3) (by kernel_rfl) rfl ?_
        intro K hK
        go_simp
        refine (HC.out).mono ?_
        rintro r V1 ⟨y, rfl, hy, _, ⟨j1, G1, hg1, hj1, hr⟩, hk⟩
        have hy8 : y < 256 := hy
        have hw8 := wrap8_sx y hy8
        have HG1 := Lib.hid hg1
        clear hy hg1
        have Q1 := Lib.hid (QD.out.call hk hr)
        have O1 := Lib.hid (own_call QD.out OD.out hk)
        have hT1 : Hid (V1.cell? ⟨xb, 1, none⟩ = some (.slice A l.length c)) := Lib.hid (Q1.out.box.cellAt 1)
        replace HBASE := Lib.hid (Nat.le_trans HBASE.out hk.size)
        clear hr hk HC hT0 QD OD
        refine hK.out _ _ (trivial) (fun _ => hT1.out) ?_
        clear hK K
        go_simp
        refine upTo_next (i := 4) (by kernel_rfl) rfl ?_
        intro K hK
        go_simp
        refine hK.out _ _ (trivial) (fun _ => hT1.out) ?_
        clear hK K
        go_simp
        have ka := (Keeps.refl (fun _ => False) V1).alloc (.cells #[.int .i8 (sx8 y)] 80)
        have Q2 := Lib.hid (Q1.out.past ka)
        have O2 := Lib.hid (own_keepsS O1.out ka (fun _ _ => id))
        have HL := Lib.hid (Lies.row (fr := (0, 0)) (xs := [.int .i8 (sx8 y)]) (Whole.made V1 80 #[.int .i8 (sx8 y)]) (Nat.lt_succ_self _))
        have HB2 := Lib.hid (Nat.le_trans HBASE.out ka.size)
        clear ka Q1 O1 HBASE
        refine upTo_next (i := 5) (by kernel_rfl) rfl ?_
        intro K hK
        go_simp
        refine hK.out _ _ (trivial) (fun _ => Q2.out.box.cellAt 1) ?_
        clear hK K
        go_simp
        refine upTo_next (i := 6) (by kernel_rfl) rfl ?_
        intro K hK
        refine stepIfT (by rfl) ?_
        refine wp_append_cells _ _ _ 41 rfl w.heap.size 80 (.int .i8 0) 1 1 Tryz.underlying41 info_i8D rfl (by decide) (.slice A l.length c) l.length (l.map (Value.int .i8)) rfl O2.out (V1.heap.size + 1) (some ⟨V1.heap.size, 0, none⟩) 1 1 [.int .i8 (sx8 y)] rfl HL.out rfl (fun u hu => by obtain rfl : u = _ := List.mem_singleton.1 hu; rfl) (by simp only [maxLen]; omega) (by omega) HB2.out ?_
        intro A2 c2 V3 own5 hg5 hor5 _ _
        have Q3 := Lib.hid (Q2.out.grow O2.out hg5 (by decide))
        have O3 := Lib.hid own5
        have Q4 := Lib.hid (Q3.out.put 1 (.slice A2 (l.length + 1) c2))
        have O4 := Lib.hid (own_put Q3.out O3.out (by decide) 1 (.slice A2 (l.length + 1) c2))
        have f5 := Q3.out.box.free 1
        have c5 := Q3.out.box.cellAt 1
        have GROWN := Lib.hid hg5
        have OLDROW := O2
        clear own5 hor5 hT1 HL HB2 O2
        refine hK.out _ _ (trivial) (fun h => absurd h (by decide)) ?_
        clear hK K
        go_simp
        refine upTo_take (i := 7) (v := ?v4) rfl (by kernel_rfl) (by kernel_rfl) (by kernel_rfl) (fun _ _ _ h => by first | exact h | exact absurd h.1 (fun e => by cases e)) (by decide) (Or.inl ⟨by rfl, ?hy4⟩) (trivial) (fun h => absurd h (by decide)) ?rest4
        case hy4 =>
          intro w hSw
          clear hSw
          go_simp
          try with_reducible rfl
        go_simp
        refine upTo_next (i := 8) (by kernel_rfl) rfl ?_
        intro K hK
        go_simp
        refine hK.out _ _ (trivial) (fun h => absurd h (by decide)) ?_
        clear hK K
        go_simp
        refine upTo_done (by kernel_rfl) ?_ _
        have hlen : (l ++ [sx8 y]).length = l.length + 1 := by simp
        have hs8 : -128 ≤ sx8 (y : Int) ∧ sx8 (y : Int) ≤ 127 := by unfold sx8; split <;> omega
        have HS' : Hid (∀ x ∈ l ++ [sx8 (y : Int)], -128 ≤ x ∧ x ≤ 127) := Lib.hid fun x hx => by
          rcases List.mem_append.1 hx with hx | hx
          · exact HS.out x hx
          · rw [List.mem_singleton.1 hx]; exact hs8
        have QN : Hid (Rw w _ rb g off cap b j1 en G1 43 w.heap.size xb #[.int .i64 0, .slice none 0 0, .slice none 0 0, .int .i64 0] #[.int .i64 (yo : Int), .slice A2 (l ++ [sx8 (y : Int)]).length c2, .slice none 0 0, .int .i64 0]) := Lib.hid (by rw [hlen]; exact Q4.out)
        have ON : Hid (World.ownsRow _ w.heap.size 80 1 (.slice A2 (l ++ [sx8 (y : Int)]).length c2) (l ++ [sx8 (y : Int)]).length ((l ++ [sx8 (y : Int)]).map (Value.int .i8))) := Lib.hid (by rw [hlen, List.map_append]; exact O4.out)
        have GN : Hid (Goes (repP s8P (l ++ [sx8 (y : Int)]).length) (b.take en) i2 F2 j1 G1 (l ++ [sx8 (y : Int)])) := Lib.hid (by rw [hlen]; exact GL.out.snoc (HG1.out.map sx8))
        have HJ' : Hid (i2 ≤ j1) := Lib.hid (by have := HJ.out; omega)
        clear Q3 O3 Q4 O4 GL HG1 hw8 hs8 HS HJ f5 c5 GROWN OLDROW Q2
        go_wp2_with fail
        exact ⟨⟨l ++ [sx8 (y : Int)], A2, c2, j1, G1, by omega, by rw [hlen]; go_num, QN, ON, GN, HJ', HS'⟩, by simp [intOf]; omega⟩
      · obtain hle : l.length = n := by omega
        replace GL : Hid (Goes (repP s8P n) (b.take en) i2 F2 j none l) := Lib.hid (by rw [← hle]; exact GL.out)
        clear hle
        go_wp2_with fail
        clear hlt
        refine (number_ref 8 Q.out.rd (by decide)).mono ?_
        rintro r V1 ⟨yb, rfl, _, hyb, ⟨j3, F3, hg3, hj3, hr⟩, hk⟩
        have hwb := wrapI_sx yb hyb
        have G3 := Lib.hid hg3
        have Q1 := Lib.hid (Q.out.call hk hr)
        have O1 := Lib.hid (own_call Q.out OW.out hk)
        have f3 := Q1.out.box.free 3
        have c3 := Q1.out.box.cellAt 3
        clear hk hr hg3 Q OW a0 a1 a2 a3
        go_wp2_with fail
        have Q2 := Lib.hid (Q1.out.put 3 (.int .i64 (sx64 yb)))
        have O2 := Lib.hid (own_put Q1.out O1.out (by decide) 3 (.int .i64 (sx64 yb)))
        clear Q1 O1 f3 c3 hwb hyb
        generalize V1.setCell ⟨xb, 3, none⟩ (.int .i64 (sx64 yb)) = V2 at *
        refine (number_ref 2 Q2.out.rd (by decide)).mono ?_
        rintro r V3 ⟨yl, rfl, hyl, _, ⟨j4, F4, hg4, hj4, hr⟩, hk⟩
        have hyl8 : yl < 65536 := hyl
        have hwl := wrapI_id yl (by omega)
        have G4 := Lib.hid hg4
        have Q3 := Lib.hid (Q2.out.call hk hr)
        have O3 := Lib.hid (own_call Q2.out O2.out hk)
        clear hk hr hg4 Q2 O2 hyl
        go_wp2_with fail
        refine (take_ref yl Q3.out.rd (by omega)).mono ?_
        rintro r V4 ⟨t, At, ct, rfl, ht, htl, ⟨j5, F5, hg5, hj5, hr⟩, hk⟩
        have G5 := Lib.hid hg5
        have Q4 := Lib.hid (Q3.out.call hk hr)
        have O4 := Lib.hid (own_call Q3.out O3.out hk)
        have HT := Lib.hid (ht.more (Nat.le_of_lt Q4.out.rd.rq.box.inside))
        clear hk hr hg5 Q3 O3 ht hwl
        go_wp2_with fail
        refine (copyBytes_in t At ct V4 HT.out (by omega)).mono ?_
        rintro r V5 ⟨A2, c2, rfl, hob, hk⟩
        have Q5 := Lib.hid (Q4.out.past hk)
        have O5 := Lib.hid (own_keepsS O4.out hk (fun _ _ => id))
        have B5 := Lib.hid (hob.less Q4.out.keeps.size)
        clear hob hk Q4 O4 HT
        obtain ⟨x0, x1, x2, x3⟩ := four Q5.out.box
        obtain ⟨z0, z1, z2, z3⟩ := four Q5.out.res
        have xf := Q5.out.box.free 2
        have zf0 := Q5.out.res.free 0
        have zf1 := Q5.out.res.free 1
        have zf2 := Q5.out.res.free 2
        have zf3 := Q5.out.res.free 3
        have hne := Q5.out.ne
        have RF := Lib.hid (((((Q5.out.res.putFar (p := ⟨xb, 2, none⟩) hne (.slice A2 t.length c2)).put 0 (.int .i64 (yo : Int))).put 1 (.slice A l.length c)).put 2 (.slice A2 t.length c2)).put 3 (.int .i64 (sx64 yb)))
        have KF := Lib.hid ((((((Keeps.refl (fun k => k = xb ∨ k = w.heap.size) V5).setCell (p := ⟨xb, 2, none⟩) (fun _ => .inl rfl) (.slice A2 t.length c2)).setCell (p := ⟨w.heap.size, 0, none⟩) (fun _ => .inr rfl) (.int .i64 (yo : Int))).setCell (p := ⟨w.heap.size, 1, none⟩) (fun _ => .inr rfl) (.slice A l.length c)).setCell (p := ⟨w.heap.size, 2, none⟩) (fun _ => .inr rfl) (.slice A2 t.length c2)).setCell (p := ⟨w.heap.size, 3, none⟩) (fun _ => .inr rfl) (.int .i64 (sx64 yb)))
        go_wp2_with fail
        refine bodyPost_ret (results_cell rfl _ w.heap.size rfl (#[.int .i64 (yo : Int), .slice A l.length c, .slice A2 t.length c2, .int .i64 (sx64 yb)]) _ RF.out _ Tryz.underlying43 rfl (by kernel_rfl)) rfl ?_
        have hlo := Q5.out.lo
        have hxl := Q5.out.xblo
        refine ⟨⟨yo, l, sx64 yb, t⟩, A, A2, c, c2, by rw [effV_mk], own_keepsS O5.out KF.out (fun k hb e => ?_), own_keepsS B5.out KF.out (fun k hb e => ?_), ⟨by show l.length ≤ _; omega, by show t.length ≤ _; omega, HS.out⟩, ⟨j5, F5, ?_, by have := HJ.out; omega, Q5.out.rd.calm KF.out (fun k hk e => by omega)⟩, Q5.out.keeps.and KF.out (fun k hk e => by omega)⟩
        · rcases e with e | e
          · exact own_not O5.out Q5.out.box (by decide) (by rw [hb, e])
          · exact own_not O5.out Q5.out.res (by decide) (by rw [hb, e])
        · rcases e with e | e
          · exact own_not B5.out Q5.out.box (by decide) (by rw [hb, e])
          · exact own_not B5.out Q5.out.res (by decide) (by rw [hb, e])
        · have q4 : Goes (bytesP 2) (b.take en) j3 F3 j5 F5 t := G4.out.seq (by rw [Int.toNat_natCast]; exact G5.out)
          have q2 : Goes (listP 1 s8P) (b.take en) i1 F1 _ _ l := G2.out.seq (by rw [Int.toNat_natCast]; exact GL.out)
          exact G1.out.seq (q2.seq ((G3.out.map sx64).seq (q4.map fun co => (⟨yo, l, sx64 yb, co⟩ : Eff))))
end Go.Proofs.YtcmbdnjcfneinaaGreatDoor
