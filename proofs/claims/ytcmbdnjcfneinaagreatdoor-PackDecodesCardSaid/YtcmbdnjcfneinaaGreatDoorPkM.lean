/-
  Packs in memory; is a number between two, an effect looked at: the walks. Conditions: lengths within 10 ^ 9.
-/
import Derived.Test.YtcmbdnjcfneinaaGreatDoorPMa
import Derived.Test.YtcmbdnjcfneinaaGreatDoorWdM
import Derived.Test.YtcmbdnjcfneinaaGreatDoorBytes
import Derived.BigQuiet
namespace Go.Proofs.YtcmbdnjcfneinaaGreatDoor
open Go.RowKit
theorem ranged_any (n lo hi : Int) (w : World) : Calls Tryz.prog 89 #[.int .i64 n, .int .i64 lo, .int .i64 hi] w fun e w' => e = .returned (.bool (decide (lo ≤ n) && decide (n ≤ hi))) ∧ w = w' := by
  go_enter Tryz.func89, Tryz.ntmps89
  by_cases h : lo ≤ n
  · go_wp2_with fail
    go_ret
    refine ⟨?_, rfl⟩
    simp [h]
  · go_wp2_with fail
    go_ret
    refine ⟨?_, rfl⟩
    simp
    omega
theorem ranged_is {n lo hi : Int} {b : Bool} (h : (decide (lo ≤ n) && decide (n ≤ hi)) = b) (w : World) : Calls Tryz.prog 89 #[.int .i64 n, .int .i64 lo, .int .i64 hi] w fun e w' => e = .returned (.bool b) ∧ w = w' := h ▸ ranged_any n lo hi w
/-- The cells of an effect. -/
def effV (e : Eff) (As Ac : Option Addr) (cs cc : Nat) : Array Value := #[.int .i64 e.on, .slice As e.slots.length cs, .slice Ac e.code.length cc, .int .i64 e.bound]
theorem four {w : World} {b : Nat} {t : TypeId} {v0 v1 v2 v3 : Value} (h : Whole w b t #[v0, v1, v2, v3]) :
    w.cell? ⟨b, 0, none⟩ = some v0 ∧ w.cell? ⟨b, 1, none⟩ = some v1 ∧ w.cell? ⟨b, 2, none⟩ = some v2 ∧ w.cell? ⟨b, 3, none⟩ = some v3 := ⟨h.cellAt 0, h.cellAt 1, h.cellAt 2, h.cellAt 3⟩
def slotOk (x : Int) : Bool := decide (1 ≤ x) && decide (x ≤ 6)
theorem take_all_next (l : List Int) (p : Int → Bool) (i : Nat) (x : Int) (h : l[i]? = some x) : (l.take (i + 1)).all p = ((l.take i).all p && p x) := by
  rw [List.take_add_one, h]; simp
theorem effOk_is (e : Eff) : effOk e = ((decide (0 ≤ e.on) && decide (e.on ≤ 4)) && decide (e.slots.length ≤ 32) && (decide (0 ≤ e.bound) && decide (e.bound ≤ 4611686018427387904)) && decide (e.code.length ≤ 65535) && e.slots.all slotOk) := by
  unfold effOk slotOk
  simp only [Bool.and_assoc]
set_option maxHeartbeats 1000000 in
theorem checkEffect_any (e : Eff) (As Ac : Option Addr) (cs cc : Nat) (w : World) (hl : Lies w w.heap.size As (e.slots.map (Value.int .i8))) (hm : e.slots.length ≤ 1000000000) (hc : e.code.length ≤ 1000000000) (hr : ∀ x ∈ e.slots, -128 ≤ x ∧ x ≤ 127) :
    Calls Tryz.prog 90 #[.agg (effV e As Ac cs cc)] w fun r w' => r = .returned (.int .i64 (effC e)) ∧ Keeps (fun _ => False) w w' := by
  have HM : Hid (Whole (w.alloc (.cells (effV e As Ac cs cc) 43)) w.heap.size 43 (effV e As Ac cs cc)) := Lib.hid (Whole.made w _ _)
  have HK : Hid (Keeps (fun _ => False) w (w.alloc (.cells (effV e As Ac cs cc) 43))) := Lib.hid ((Keeps.refl _ w).alloc _)
  have HL := Lib.hid hl
  have HR := Lib.hid hr
  have HF := Lib.hid (effOk_is e)
  clear hl hr
  unfold effV at *
  obtain ⟨b1, hb1⟩ : ∃ b, (decide (0 ≤ e.on) && decide (e.on ≤ 4)) = b := ⟨_, rfl⟩
  obtain ⟨b3, hb3⟩ : ∃ b, (decide (0 ≤ e.bound) && decide (e.bound ≤ 4611686018427387904)) = b := ⟨_, rfl⟩
  have R1 := fun w => Lib.hid (ranged_is hb1 w)
  have R3 := fun w => Lib.hid (ranged_is hb3 w)
  rw [hb1, hb3] at HF
  clear hb1 hb3
  go_enter Tryz.func90, Tryz.ntmps90
  go_wp2_with fail
  generalize w.alloc _ = w0 at *
  obtain ⟨a0, a1, a2, a3⟩ := four HM.out
  go_wp2_with fail
  refine (R1 _).out.mono ?_
  rintro r w1 ⟨rfl, rfl⟩
  cases b1 with
  | false =>
    go_wp2_with fail
    clear a0 a1 a2 a3 R1 R3
    have HG : Hid (effOk e = (false && e.slots.all slotOk)) := Lib.hid (by rw [HF.out]; simp  <;> omega)
    clear HF
    go_loopw [3, 29] (fun vo vi wr => ∃ (i : Nat), i ≤ e.slots.length ∧ vi = .int .i64 i ∧ vo = .bool (false && (e.slots.take i).all slotOk) ∧ w0 = wr) (fun _ vi _ => e.slots.length - (intOf vi).toNat)
    case atStart => exact ⟨0, by omega, rfl, by simp <;> omega, rfl⟩
    case round =>
      obtain ⟨i, hi, rfl, rfl, rfl⟩ := hrel
      by_cases hlt : i < e.slots.length
      · obtain ⟨g, off, rfl, hg, hc0⟩ := HL.out i (.int .i8 e.slots[i]) (by simp [hlt])
        have hc := (HK.out.cell (b := g) (o := off + i) hg id).trans hc0
        have hx := HR.out e.slots[i] (List.getElem_mem hlt)
        have HN := Lib.hid (take_all_next e.slots slotOk i _ (List.getElem?_eq_getElem hlt))
        clear hc0
        generalize e.slots[i] = x at *
        obtain ⟨b, hb⟩ : ∃ b, (false && (e.slots.take i).all slotOk) = b := ⟨_, rfl⟩
        obtain ⟨c, hcx⟩ : ∃ c, (decide (1 ≤ x) && decide (x ≤ 6)) = c := ⟨_, rfl⟩
        have R := fun w => Lib.hid (ranged_is hcx w)
        have HV : Hid ((false && (e.slots.take (i + 1)).all slotOk) = (b && c)) := Lib.hid (by
          rw [HN.out, ← Bool.and_assoc, hb]
          show (b && (decide (1 ≤ x) && decide (x ≤ 6))) = _
          rw [hcx])
        rw [hb]
        clear hb hcx HN
        cases b with
        | false =>
          go_wp2_with fail
          go_roundw
          case rel => exact ⟨i + 1, by omega, by go_num, by rw [HV.out]; rfl, by trivial⟩
          case measure => simp [intOf]; omega
        | true =>
          go_wp2_with fail
          refine (R _).out.mono ?_
          rintro r w1 ⟨rfl, rfl⟩
          go_wp2_with fail
          go_roundw
          case rel => exact ⟨i + 1, by omega, by go_num, by rw [HV.out]; simp, by trivial⟩
          case measure => simp [intOf]; omega
      · obtain rfl : i = e.slots.length := by omega
        rw [List.take_length, ← HG.out]
        obtain ⟨b, hb⟩ : ∃ b, effOk e = b := ⟨_, rfl⟩
        have HE : Hid (effC e = if b then 0 else 56) := Lib.hid (by unfold effC; rw [hb])
        rw [hb]
        clear hb HG
        cases b with
        | false =>
          go_wp2_with fail
          go_ret
          exact ⟨by rw [HE.out]; rfl, HK.out⟩
        | true =>
          go_wp2_with fail
          go_ret
          exact ⟨by rw [HE.out]; rfl, HK.out⟩
  | true =>
    by_cases h2 : e.slots.length ≤ 32
    · go_wp2_with fail
      refine (R3 _).out.mono ?_
      rintro r w1 ⟨rfl, rfl⟩
      cases b3 with
      | false =>
        go_wp2_with fail
        clear a0 a1 a2 a3 R1 R3
        have HG : Hid (effOk e = (false && e.slots.all slotOk)) := Lib.hid (by rw [HF.out]; simp  <;> omega)
        clear HF
        go_loopw [3, 29] (fun vo vi wr => ∃ (i : Nat), i ≤ e.slots.length ∧ vi = .int .i64 i ∧ vo = .bool (false && (e.slots.take i).all slotOk) ∧ w0 = wr) (fun _ vi _ => e.slots.length - (intOf vi).toNat)
        case atStart => exact ⟨0, by omega, rfl, by simp <;> omega, rfl⟩
        case round =>
          obtain ⟨i, hi, rfl, rfl, rfl⟩ := hrel
          by_cases hlt : i < e.slots.length
          · obtain ⟨g, off, rfl, hg, hc0⟩ := HL.out i (.int .i8 e.slots[i]) (by simp [hlt])
            have hc := (HK.out.cell (b := g) (o := off + i) hg id).trans hc0
            have hx := HR.out e.slots[i] (List.getElem_mem hlt)
            have HN := Lib.hid (take_all_next e.slots slotOk i _ (List.getElem?_eq_getElem hlt))
            clear hc0
            generalize e.slots[i] = x at *
            obtain ⟨b, hb⟩ : ∃ b, (false && (e.slots.take i).all slotOk) = b := ⟨_, rfl⟩
            obtain ⟨c, hcx⟩ : ∃ c, (decide (1 ≤ x) && decide (x ≤ 6)) = c := ⟨_, rfl⟩
            have R := fun w => Lib.hid (ranged_is hcx w)
            have HV : Hid ((false && (e.slots.take (i + 1)).all slotOk) = (b && c)) := Lib.hid (by
              rw [HN.out, ← Bool.and_assoc, hb]
              show (b && (decide (1 ≤ x) && decide (x ≤ 6))) = _
              rw [hcx])
            rw [hb]
            clear hb hcx HN
            cases b with
            | false =>
              go_wp2_with fail
              go_roundw
              case rel => exact ⟨i + 1, by omega, by go_num, by rw [HV.out]; rfl, by trivial⟩
              case measure => simp [intOf]; omega
            | true =>
              go_wp2_with fail
              refine (R _).out.mono ?_
              rintro r w1 ⟨rfl, rfl⟩
              go_wp2_with fail
              go_roundw
              case rel => exact ⟨i + 1, by omega, by go_num, by rw [HV.out]; simp, by trivial⟩
              case measure => simp [intOf]; omega
          · obtain rfl : i = e.slots.length := by omega
            rw [List.take_length, ← HG.out]
            obtain ⟨b, hb⟩ : ∃ b, effOk e = b := ⟨_, rfl⟩
            have HE : Hid (effC e = if b then 0 else 56) := Lib.hid (by unfold effC; rw [hb])
            rw [hb]
            clear hb HG
            cases b with
            | false =>
              go_wp2_with fail
              go_ret
              exact ⟨by rw [HE.out]; rfl, HK.out⟩
            | true =>
              go_wp2_with fail
              go_ret
              exact ⟨by rw [HE.out]; rfl, HK.out⟩
      | true =>
        by_cases h4 : e.code.length ≤ 65535
        · go_wp2_with fail
          clear a0 a1 a2 a3 R1 R3
          have HG : Hid (effOk e = (true && e.slots.all slotOk)) := Lib.hid (by rw [HF.out]; simp [h2, h4] <;> omega)
          clear HF
          go_loopw [3, 29] (fun vo vi wr => ∃ (i : Nat), i ≤ e.slots.length ∧ vi = .int .i64 i ∧ vo = .bool (true && (e.slots.take i).all slotOk) ∧ w0 = wr) (fun _ vi _ => e.slots.length - (intOf vi).toNat)
          case atStart => exact ⟨0, by omega, rfl, by simp <;> omega, rfl⟩
          case round =>
            obtain ⟨i, hi, rfl, rfl, rfl⟩ := hrel
            by_cases hlt : i < e.slots.length
            · obtain ⟨g, off, rfl, hg, hc0⟩ := HL.out i (.int .i8 e.slots[i]) (by simp [hlt])
              have hc := (HK.out.cell (b := g) (o := off + i) hg id).trans hc0
              have hx := HR.out e.slots[i] (List.getElem_mem hlt)
              have HN := Lib.hid (take_all_next e.slots slotOk i _ (List.getElem?_eq_getElem hlt))
              clear hc0
              generalize e.slots[i] = x at *
              obtain ⟨b, hb⟩ : ∃ b, (true && (e.slots.take i).all slotOk) = b := ⟨_, rfl⟩
              obtain ⟨c, hcx⟩ : ∃ c, (decide (1 ≤ x) && decide (x ≤ 6)) = c := ⟨_, rfl⟩
              have R := fun w => Lib.hid (ranged_is hcx w)
              have HV : Hid ((true && (e.slots.take (i + 1)).all slotOk) = (b && c)) := Lib.hid (by
                rw [HN.out, ← Bool.and_assoc, hb]
                show (b && (decide (1 ≤ x) && decide (x ≤ 6))) = _
                rw [hcx])
              rw [hb]
              clear hb hcx HN
              cases b with
              | false =>
                go_wp2_with fail
                go_roundw
                case rel => exact ⟨i + 1, by omega, by go_num, by rw [HV.out]; rfl, by trivial⟩
                case measure => simp [intOf]; omega
              | true =>
                go_wp2_with fail
                refine (R _).out.mono ?_
                rintro r w1 ⟨rfl, rfl⟩
                go_wp2_with fail
                go_roundw
                case rel => exact ⟨i + 1, by omega, by go_num, by rw [HV.out]; simp, by trivial⟩
                case measure => simp [intOf]; omega
            · obtain rfl : i = e.slots.length := by omega
              rw [List.take_length, ← HG.out]
              obtain ⟨b, hb⟩ : ∃ b, effOk e = b := ⟨_, rfl⟩
              have HE : Hid (effC e = if b then 0 else 56) := Lib.hid (by unfold effC; rw [hb])
              rw [hb]
              clear hb HG
              cases b with
              | false =>
                go_wp2_with fail
                go_ret
                exact ⟨by rw [HE.out]; rfl, HK.out⟩
              | true =>
                go_wp2_with fail
                go_ret
                exact ⟨by rw [HE.out]; rfl, HK.out⟩
        · go_wp2_with fail
          clear a0 a1 a2 a3 R1 R3
          have HG : Hid (effOk e = (false && e.slots.all slotOk)) := Lib.hid (by rw [HF.out]; simp [h2, h4] <;> omega)
          clear HF
          go_loopw [3, 29] (fun vo vi wr => ∃ (i : Nat), i ≤ e.slots.length ∧ vi = .int .i64 i ∧ vo = .bool (false && (e.slots.take i).all slotOk) ∧ w0 = wr) (fun _ vi _ => e.slots.length - (intOf vi).toNat)
          case atStart => exact ⟨0, by omega, rfl, by simp <;> omega, rfl⟩
          case round =>
            obtain ⟨i, hi, rfl, rfl, rfl⟩ := hrel
            by_cases hlt : i < e.slots.length
            · obtain ⟨g, off, rfl, hg, hc0⟩ := HL.out i (.int .i8 e.slots[i]) (by simp [hlt])
              have hc := (HK.out.cell (b := g) (o := off + i) hg id).trans hc0
              have hx := HR.out e.slots[i] (List.getElem_mem hlt)
              have HN := Lib.hid (take_all_next e.slots slotOk i _ (List.getElem?_eq_getElem hlt))
              clear hc0
              generalize e.slots[i] = x at *
              obtain ⟨b, hb⟩ : ∃ b, (false && (e.slots.take i).all slotOk) = b := ⟨_, rfl⟩
              obtain ⟨c, hcx⟩ : ∃ c, (decide (1 ≤ x) && decide (x ≤ 6)) = c := ⟨_, rfl⟩
              have R := fun w => Lib.hid (ranged_is hcx w)
              have HV : Hid ((false && (e.slots.take (i + 1)).all slotOk) = (b && c)) := Lib.hid (by
                rw [HN.out, ← Bool.and_assoc, hb]
                show (b && (decide (1 ≤ x) && decide (x ≤ 6))) = _
                rw [hcx])
              rw [hb]
              clear hb hcx HN
              cases b with
              | false =>
                go_wp2_with fail
                go_roundw
                case rel => exact ⟨i + 1, by omega, by go_num, by rw [HV.out]; rfl, by trivial⟩
                case measure => simp [intOf]; omega
              | true =>
                go_wp2_with fail
                refine (R _).out.mono ?_
                rintro r w1 ⟨rfl, rfl⟩
                go_wp2_with fail
                go_roundw
                case rel => exact ⟨i + 1, by omega, by go_num, by rw [HV.out]; simp, by trivial⟩
                case measure => simp [intOf]; omega
            · obtain rfl : i = e.slots.length := by omega
              rw [List.take_length, ← HG.out]
              obtain ⟨b, hb⟩ : ∃ b, effOk e = b := ⟨_, rfl⟩
              have HE : Hid (effC e = if b then 0 else 56) := Lib.hid (by unfold effC; rw [hb])
              rw [hb]
              clear hb HG
              cases b with
              | false =>
                go_wp2_with fail
                go_ret
                exact ⟨by rw [HE.out]; rfl, HK.out⟩
              | true =>
                go_wp2_with fail
                go_ret
                exact ⟨by rw [HE.out]; rfl, HK.out⟩
    · go_wp2_with fail
      clear a0 a1 a2 a3 R1 R3
      have HG : Hid (effOk e = (false && e.slots.all slotOk)) := Lib.hid (by rw [HF.out]; simp [h2] <;> omega)
      clear HF
      go_loopw [3, 29] (fun vo vi wr => ∃ (i : Nat), i ≤ e.slots.length ∧ vi = .int .i64 i ∧ vo = .bool (false && (e.slots.take i).all slotOk) ∧ w0 = wr) (fun _ vi _ => e.slots.length - (intOf vi).toNat)
      case atStart => exact ⟨0, by omega, rfl, by simp <;> omega, rfl⟩
      case round =>
        obtain ⟨i, hi, rfl, rfl, rfl⟩ := hrel
        by_cases hlt : i < e.slots.length
        · obtain ⟨g, off, rfl, hg, hc0⟩ := HL.out i (.int .i8 e.slots[i]) (by simp [hlt])
          have hc := (HK.out.cell (b := g) (o := off + i) hg id).trans hc0
          have hx := HR.out e.slots[i] (List.getElem_mem hlt)
          have HN := Lib.hid (take_all_next e.slots slotOk i _ (List.getElem?_eq_getElem hlt))
          clear hc0
          generalize e.slots[i] = x at *
          obtain ⟨b, hb⟩ : ∃ b, (false && (e.slots.take i).all slotOk) = b := ⟨_, rfl⟩
          obtain ⟨c, hcx⟩ : ∃ c, (decide (1 ≤ x) && decide (x ≤ 6)) = c := ⟨_, rfl⟩
          have R := fun w => Lib.hid (ranged_is hcx w)
          have HV : Hid ((false && (e.slots.take (i + 1)).all slotOk) = (b && c)) := Lib.hid (by
            rw [HN.out, ← Bool.and_assoc, hb]
            show (b && (decide (1 ≤ x) && decide (x ≤ 6))) = _
            rw [hcx])
          rw [hb]
          clear hb hcx HN
          cases b with
          | false =>
            go_wp2_with fail
            go_roundw
            case rel => exact ⟨i + 1, by omega, by go_num, by rw [HV.out]; rfl, by trivial⟩
            case measure => simp [intOf]; omega
          | true =>
            go_wp2_with fail
            refine (R _).out.mono ?_
            rintro r w1 ⟨rfl, rfl⟩
            go_wp2_with fail
            go_roundw
            case rel => exact ⟨i + 1, by omega, by go_num, by rw [HV.out]; simp, by trivial⟩
            case measure => simp [intOf]; omega
        · obtain rfl : i = e.slots.length := by omega
          rw [List.take_length, ← HG.out]
          obtain ⟨b, hb⟩ : ∃ b, effOk e = b := ⟨_, rfl⟩
          have HE : Hid (effC e = if b then 0 else 56) := Lib.hid (by unfold effC; rw [hb])
          rw [hb]
          clear hb HG
          cases b with
          | false =>
            go_wp2_with fail
            go_ret
            exact ⟨by rw [HE.out]; rfl, HK.out⟩
          | true =>
            go_wp2_with fail
            go_ret
            exact ⟨by rw [HE.out]; rfl, HK.out⟩
end Go.Proofs.YtcmbdnjcfneinaaGreatDoor
/-
  Kinds and effects in memory, a kind looked at: the walks. Conditions: lengths within 10 ^ 9.
-/
namespace Go.Proofs.YtcmbdnjcfneinaaGreatDoor
open Go.RowKit
/-- Effects, where a slice says. -/
def EfLies (w : World) (B : Nat) (A : Option Addr) (l : List Eff) : Prop := ∀ i e, l[i]? = some e → ∃ g off As cs Ac cc, A = some ⟨g, off, none⟩ ∧ g < B ∧ w.cell? ⟨g, off + i * 4, none⟩ = some (.int .i64 e.on) ∧ w.cell? ⟨g, off + i * 4 + 1, none⟩ = some (.slice As e.slots.length cs) ∧ w.cell? ⟨g, off + i * 4 + 2, none⟩ = some (.slice Ac e.code.length cc) ∧ w.cell? ⟨g, off + i * 4 + 3, none⟩ = some (.int .i64 e.bound) ∧ Lies w B As (e.slots.map (Value.int .i8)) ∧ Lies w B Ac (bytesV e.code)
/-- Kinds, where a slice says. -/
def KdLies (w : World) (B : Nat) (A : Option Addr) (l : List Knd) : Prop := ∀ i k, l[i]? = some k → ∃ g off At ct Ae ce, A = some ⟨g, off, none⟩ ∧ g < B ∧ w.cell? ⟨g, off + i * 6, none⟩ = some (.int .i64 k.name) ∧ w.cell? ⟨g, off + i * 6 + 1, none⟩ = some (.int .i64 k.cost) ∧ w.cell? ⟨g, off + i * 6 + 2, none⟩ = some (.int .i64 k.power) ∧ w.cell? ⟨g, off + i * 6 + 3, none⟩ = some (.int .i64 k.health) ∧ w.cell? ⟨g, off + i * 6 + 4, none⟩ = some (.slice At k.tags.length ct) ∧ w.cell? ⟨g, off + i * 6 + 5, none⟩ = some (.slice Ae k.effs.length ce) ∧ Lies w B At (k.tags.map (Value.int .i64)) ∧ EfLies w B Ae k.effs
section
variable {w w' : World} {B : Nat} {A : Option Addr}
theorem EfLies.keeps {l : List Eff} {S : Nat → Prop} (h : EfLies w B A l) (hk : Keeps S w w') (hS : ∀ b, b < B → ¬ S b) (hB : B ≤ w.heap.size := by omega) : EfLies w' B A l := fun i e hi => by
  obtain ⟨g, off, As, cs, Ac, cc, e0, hg, c0, c1, c2, c3, hs, hc⟩ := h i e hi
  have hc' := fun o => hk.cell (b := g) (o := o) (by omega) (hS g hg)
  exact ⟨g, off, As, cs, Ac, cc, e0, hg, (hc' _).trans c0, (hc' _).trans c1, (hc' _).trans c2, (hc' _).trans c3, hs.keeps hk hS hB, hc.keeps hk hS hB⟩
theorem EfLies.more {l : List Eff} {B' : Nat} (h : EfLies w B A l) (hB : B ≤ B') : EfLies w B' A l := fun i e hi => by
  obtain ⟨g, off, As, cs, Ac, cc, e0, hg, c0, c1, c2, c3, hs, hc⟩ := h i e hi
  exact ⟨g, off, As, cs, Ac, cc, e0, by omega, c0, c1, c2, c3, hs.more hB, hc.more hB⟩
theorem EfLies.past {l : List Eff} (h : EfLies w w.heap.size A l) (hk : Keeps (fun _ => False) w w') : EfLies w' w'.heap.size A l := (h.keeps hk (fun _ _ => id) (Nat.le_refl _)).more hk.size
theorem KdLies.keeps {l : List Knd} {S : Nat → Prop} (h : KdLies w B A l) (hk : Keeps S w w') (hS : ∀ b, b < B → ¬ S b) (hB : B ≤ w.heap.size := by omega) : KdLies w' B A l := fun i e hi => by
  obtain ⟨g, off, As, cs, Ac, cc, e0, hg, c0, c1, c2, c3, c4, c5, hs, hc⟩ := h i e hi
  have hc' := fun o => hk.cell (b := g) (o := o) (by omega) (hS g hg)
  exact ⟨g, off, As, cs, Ac, cc, e0, hg, (hc' _).trans c0, (hc' _).trans c1, (hc' _).trans c2, (hc' _).trans c3, (hc' _).trans c4, (hc' _).trans c5, hs.keeps hk hS hB, hc.keeps hk hS hB⟩
theorem KdLies.more {l : List Knd} {B' : Nat} (h : KdLies w B A l) (hB : B ≤ B') : KdLies w B' A l := fun i e hi => by
  obtain ⟨g, off, As, cs, Ac, cc, e0, hg, c0, c1, c2, c3, c4, c5, hs, hc⟩ := h i e hi
  exact ⟨g, off, As, cs, Ac, cc, e0, by omega, c0, c1, c2, c3, c4, c5, hs.more hB, hc.more hB⟩
theorem KdLies.past {l : List Knd} (h : KdLies w w.heap.size A l) (hk : Keeps (fun _ => False) w w') : KdLies w' w'.heap.size A l := (h.keeps hk (fun _ _ => id) (Nat.le_refl _)).more hk.size
end
theorem Lies.pastK {w w' : World} {A : Option Addr} {xs : List Value} (h : Lies w w.heap.size A xs) (hk : Keeps (fun _ => False) w w') : Lies w' w'.heap.size A xs := (h.keeps hk (fun _ _ => id) (Nat.le_refl _)).more hk.size
/-- Lengths that a walk bears, numbers of their width. -/
structure EffFew (e : Eff) : Prop where
  slots : e.slots.length ≤ 1000000000
  code : e.code.length ≤ 1000000000
  small : ∀ x ∈ e.slots, -128 ≤ x ∧ x ≤ 127
structure KndFew (k : Knd) : Prop where
  tags : k.tags.length ≤ 1000000000
  effs : k.effs.length ≤ 1000000000
  each : ∀ e ∈ k.effs, EffFew e
def kndV (k : Knd) (At Ae : Option Addr) (ct ce : Nat) : Array Value := #[.int .i64 k.name, .int .i64 k.cost, .int .i64 k.power, .int .i64 k.health, .slice At k.tags.length ct, .slice Ae k.effs.length ce]
theorem six {w : World} {b : Nat} {t : TypeId} {v0 v1 v2 v3 v4 v5 : Value} (h : Whole w b t #[v0, v1, v2, v3, v4, v5]) :
    w.cell? ⟨b, 0, none⟩ = some v0 ∧ w.cell? ⟨b, 1, none⟩ = some v1 ∧ w.cell? ⟨b, 2, none⟩ = some v2 ∧ w.cell? ⟨b, 3, none⟩ = some v3 ∧ w.cell? ⟨b, 4, none⟩ = some v4 ∧ w.cell? ⟨b, 5, none⟩ = some v5 := ⟨h.cellAt 0, h.cellAt 1, h.cellAt 2, h.cellAt 3, h.cellAt 4, h.cellAt 5⟩
/-! ### The answers, one by one -/
section
variable {n : Nat} {k : Knd}
theorem kndC_1 (h : (decide (0 ≤ k.name) && decide (k.name ≤ (n : Int) - 1)) = false) : kndC n k = 42 := by
  unfold kndC
  rw [if_pos]
  simp only [Bool.and_eq_false_iff, decide_eq_false_iff_not] at h
  omega
theorem name_ok (h : (decide (0 ≤ k.name) && decide (k.name ≤ (n : Int) - 1)) = true) : ¬ (k.name < 0 ∨ (n : Int) ≤ k.name) := by
  simp only [Bool.and_eq_true, decide_eq_true_eq] at h
  omega
theorem kndC_2 (h : ¬ (k.name < 0 ∨ (n : Int) ≤ k.name)) (h2 : (statOk k.cost && statOk k.power && statOk k.health) = false) : kndC n k = 56 := by
  unfold kndC
  rw [if_neg h, h2]
  rfl
theorem kndC_3 (h : ¬ (k.name < 0 ∨ (n : Int) ≤ k.name)) (h2 : (statOk k.cost && statOk k.power && statOk k.health) = true) (h3 : 16 < k.tags.length) : kndC n k = 56 := by
  unfold kndC
  rw [if_neg h, h2, if_neg (by simp), if_pos h3]
theorem kndC_4 {c : Nat} (h : ¬ (k.name < 0 ∨ (n : Int) ≤ k.name)) (h2 : (statOk k.cost && statOk k.power && statOk k.health) = true) (h3 : ¬ 16 < k.tags.length) (h4 : tagsGo n none k.tags = c) (hc : c ≠ 0) : kndC n k = c := by
  unfold kndC
  rw [if_neg h, h2, if_neg (by simp), if_neg h3, h4, if_pos hc]
theorem kndC_5 (h : ¬ (k.name < 0 ∨ (n : Int) ≤ k.name)) (h2 : (statOk k.cost && statOk k.power && statOk k.health) = true) (h3 : ¬ 16 < k.tags.length) (h4 : tagsGo n none k.tags = 0) (h5 : 8 < k.effs.length) : kndC n k = 56 := by
  unfold kndC
  rw [if_neg h, h2, if_neg (by simp), if_neg h3, h4, if_neg (by simp), if_pos h5]
theorem kndC_6 (h : ¬ (k.name < 0 ∨ (n : Int) ≤ k.name)) (h2 : (statOk k.cost && statOk k.power && statOk k.health) = true) (h3 : ¬ 16 < k.tags.length) (h4 : tagsGo n none k.tags = 0) (h5 : ¬ 8 < k.effs.length) : kndC n k = firstN (k.effs.map effC) := by
  unfold kndC
  rw [if_neg h, h2, if_neg (by simp), if_neg h3, h4, if_neg (by simp), if_neg h5]
end
/-- The one ahead. -/
def prevO {α : Type} (l : List α) (i : Nat) : Option α := if i = 0 then none else l[i - 1]?
theorem tags_42 {n : Nat} {q : Option Int} {t : Int} {l : List Int} (h : (decide (0 ≤ t) && decide (t ≤ (n : Int) - 1)) = false) : tagsGo n q (t :: l) = 42 := by
  unfold tagsGo
  rw [if_pos]
  simp only [Bool.and_eq_false_iff, decide_eq_false_iff_not] at h
  omega
theorem tags_57 {n : Nat} {p t : Int} {l : List Int} (h : (decide (0 ≤ t) && decide (t ≤ (n : Int) - 1)) = true) (h2 : t ≤ p) : tagsGo n (some p) (t :: l) = 57 := by
  simp only [Bool.and_eq_true, decide_eq_true_eq] at h
  unfold tagsGo
  rw [if_neg (by omega), if_pos (by simpa using h2)]
theorem tags_on {n : Nat} {p t : Int} {l : List Int} (h : (decide (0 ≤ t) && decide (t ≤ (n : Int) - 1)) = true) (h2 : ¬ t ≤ p) : tagsGo n (some p) (t :: l) = tagsGo n (some t) l := by
  simp only [Bool.and_eq_true, decide_eq_true_eq] at h
  conv => lhs; unfold tagsGo
  rw [if_neg (by omega), if_neg (by simpa using h2)]
theorem tags_first {n : Nat} {t : Int} {l : List Int} (h : (decide (0 ≤ t) && decide (t ≤ (n : Int) - 1)) = true) : tagsGo n none (t :: l) = tagsGo n (some t) l := by
  simp only [Bool.and_eq_true, decide_eq_true_eq] at h
  conv => lhs; unfold tagsGo
  rw [if_neg (by omega), if_neg (by simp)]
theorem drop_next {α : Type} {l : List α} {i : Nat} (h : i < l.length) : l.drop i = l[i] :: l.drop (i + 1) := List.drop_eq_getElem_cons h
theorem effC_or (e : Eff) : effC e = 0 ∨ effC e = 56 := by unfold effC; split <;> simp
set_option maxRecDepth 4000 in
set_option maxHeartbeats 1000000 in
theorem checkKind_any (k : Knd) (n : Nat) (At Ae : Option Addr) (ct ce : Nat) (w : World) (hl : Lies w w.heap.size At (k.tags.map (Value.int .i64))) (he : EfLies w w.heap.size Ae k.effs) (hm : KndFew k) (hn : n ≤ 1000000000) :
    Calls Tryz.prog 28 #[.agg (kndV k At Ae ct ce), .int .i64 n] w fun r w' => r = .returned (.int .i64 (kndC n k)) ∧ Keeps (fun _ => False) w w' := by
  have HM : Hid (Whole (w.alloc (.cells (kndV k At Ae ct ce) 40)) w.heap.size 40 (kndV k At Ae ct ce)) := Lib.hid (Whole.made w _ _)
  have HK : Hid (Keeps (fun _ => False) w (w.alloc (.cells (kndV k At Ae ct ce) 40))) := Lib.hid ((Keeps.refl _ w).alloc _)
  have HL := Lib.hid hl
  have HE := Lib.hid he
  have HF := Lib.hid hm
  have hmt := hm.tags
  have hme := hm.effs
  clear hl he hm
  unfold kndV at *
  obtain ⟨b1, hb1⟩ : ∃ b, (decide (0 ≤ k.name) && decide (k.name ≤ (n : Int) - 1)) = b := ⟨_, rfl⟩
  have R1 := fun w => Lib.hid (ranged_is hb1 w)
  have HB1 := Lib.hid hb1
  clear hb1
  have hix : ∀ (a b c : Value) (w : World), (Instr.index 131 (.agg #[a, b, c]) (.int .i64 0)).run Tryz.prog w = .ok a w ∧ (Instr.index 131 (.agg #[a, b, c]) (.int .i64 1)).run Tryz.prog w = .ok b w ∧ (Instr.index 131 (.agg #[a, b, c]) (.int .i64 2)).run Tryz.prog w = .ok c w := fun a b c w => ⟨rfl, rfl, rfl⟩
  have hix0 := fun a b c w => (hix a b c w).1
  have hix1 := fun a b c w => (hix a b c w).2.1
  have hix2 := fun a b c w => (hix a b c w).2.2
  clear hix
  go_enter Tryz.func28, Tryz.ntmps28
  go_wp2_with fail
  generalize w.alloc _ = w0 at *
  obtain ⟨a0, a1, a2, a3, a4, a5⟩ := six HM.out
  go_wp2_with fail
  refine (R1 _).out.mono ?_
  rintro r w1 ⟨rfl, rfl⟩
  cases b1 with
  | false =>
    go_wp2_with fail
    go_ret
    exact ⟨by rw [kndC_1 HB1.out]; rfl, HK.out⟩
  | true =>
    have H1 := Lib.hid (name_ok HB1.out)
    clear HB1 R1
    go_wp2_with fail
    obtain ⟨st, hst⟩ : ∃ st : Nat → Int, st 0 = k.cost ∧ st 1 = k.power ∧ st 2 = k.health := ⟨fun j => if j = 0 then k.cost else if j = 1 then k.power else k.health, rfl, rfl, rfl⟩
    have HST := Lib.hid hst
    clear hst
    go_loopw [25] (fun vi wr => ∃ (i : Nat), i ≤ 3 ∧ vi = .int .i64 i ∧ Hid (∀ j, j < i → statOk (st j) = true) ∧ w0 = wr) (fun vi _ => 3 - (intOf vi).toNat)
    case atStart => exact ⟨0, by omega, rfl, Lib.hid (fun j hj => absurd hj (Nat.not_lt_zero _)), rfl⟩
    case round =>
      obtain ⟨i, hi, rfl, HS, rfl⟩ := hrel
      by_cases hlt : i < 3
      · have h012 : i = 0 ∨ i = 1 ∨ i = 2 := by omega
        rcases h012 with rfl | rfl | rfl
        · have e : st 0 = k.cost := HST.out.1
          obtain ⟨b, hb⟩ : ∃ b, (decide (0 ≤ k.cost) && decide (k.cost ≤ 1000000000)) = b := ⟨_, rfl⟩
          have R := fun w => Lib.hid (ranged_is hb w)
          have HB : Hid (statOk (st 0) = b) := Lib.hid (by rw [e]; exact hb)
          clear hb e
          go_wp2_with fail
          refine (R _).out.mono ?_
          rintro r w1 ⟨rfl, rfl⟩
          cases b with
          | false =>
            have HC := Lib.hid (kndC_2 H1.out (by have := HB.out; rw [HST.out.1] at this; rw [this]; simp))
            go_wp2_with fail
            go_ret
            exact ⟨by rw [HC.out]; rfl, HK.out⟩
          | true =>
            have HS' : Hid (∀ j, j < 1 → statOk (st j) = true) := Lib.hid (fun j hj => by
              rcases Nat.lt_or_ge j 0 with h | h
              · exact HS.out j h
              · obtain rfl : j = 0 := by omega
                exact HB.out)
            clear HS HB
            go_wp2_with fail
            go_roundw
            case rel => exact ⟨1, by omega, by go_num, HS', by trivial⟩
            case measure => simp [intOf]
        · have e : st 1 = k.power := HST.out.2.1
          obtain ⟨b, hb⟩ : ∃ b, (decide (0 ≤ k.power) && decide (k.power ≤ 1000000000)) = b := ⟨_, rfl⟩
          have R := fun w => Lib.hid (ranged_is hb w)
          have HB : Hid (statOk (st 1) = b) := Lib.hid (by rw [e]; exact hb)
          clear hb e
          go_wp2_with fail
          refine (R _).out.mono ?_
          rintro r w1 ⟨rfl, rfl⟩
          cases b with
          | false =>
            have HC := Lib.hid (kndC_2 H1.out (by have := HB.out; rw [HST.out.2.1] at this; rw [this]; simp))
            go_wp2_with fail
            go_ret
            exact ⟨by rw [HC.out]; rfl, HK.out⟩
          | true =>
            have HS' : Hid (∀ j, j < 2 → statOk (st j) = true) := Lib.hid (fun j hj => by
              rcases Nat.lt_or_ge j 1 with h | h
              · exact HS.out j h
              · obtain rfl : j = 1 := by omega
                exact HB.out)
            clear HS HB
            go_wp2_with fail
            go_roundw
            case rel => exact ⟨2, by omega, by go_num, HS', by trivial⟩
            case measure => simp [intOf]
        · have e : st 2 = k.health := HST.out.2.2
          obtain ⟨b, hb⟩ : ∃ b, (decide (0 ≤ k.health) && decide (k.health ≤ 1000000000)) = b := ⟨_, rfl⟩
          have R := fun w => Lib.hid (ranged_is hb w)
          have HB : Hid (statOk (st 2) = b) := Lib.hid (by rw [e]; exact hb)
          clear hb e
          go_wp2_with fail
          refine (R _).out.mono ?_
          rintro r w1 ⟨rfl, rfl⟩
          cases b with
          | false =>
            have HC := Lib.hid (kndC_2 H1.out (by have := HB.out; rw [HST.out.2.2] at this; rw [this]; simp))
            go_wp2_with fail
            go_ret
            exact ⟨by rw [HC.out]; rfl, HK.out⟩
          | true =>
            have HS' : Hid (∀ j, j < 3 → statOk (st j) = true) := Lib.hid (fun j hj => by
              rcases Nat.lt_or_ge j 2 with h | h
              · exact HS.out j h
              · obtain rfl : j = 2 := by omega
                exact HB.out)
            clear HS HB
            go_wp2_with fail
            go_roundw
            case rel => exact ⟨3, by omega, by go_num, HS', by trivial⟩
            case measure => simp [intOf]
      · have hi3 : 3 ≤ i := by omega
        have H2 : Hid ((statOk k.cost && statOk k.power && statOk k.health) = true) := Lib.hid (by
          have e0 := HS.out 0 (by omega)
          have e1 := HS.out 1 (by omega)
          have e2 := HS.out 2 (by omega)
          rw [HST.out.1] at e0
          rw [HST.out.2.1] at e1
          rw [HST.out.2.2] at e2
          rw [e0, e1, e2]; rfl)
        clear HS HST hix0 hix1 hix2
        by_cases h3 : 16 < k.tags.length
        · have HC := Lib.hid (kndC_3 H1.out H2.out h3)
          go_wp2_with fail
          go_ret
          exact ⟨by rw [HC.out]; rfl, HK.out⟩
        · have H3 := Lib.hid h3
          go_wp2_with fail
          go_loopw [39] (fun vi wr => ∃ (i : Nat), i ≤ k.tags.length ∧ vi = .int .i64 i ∧ Hid (tagsGo n none k.tags = tagsGo n (prevO k.tags i) (k.tags.drop i)) ∧ w0 = wr) (fun vi _ => k.tags.length - (intOf vi).toNat)
          case atStart => exact ⟨0, by omega, rfl, Lib.hid rfl, rfl⟩
          case round =>
            obtain ⟨i, hi, rfl, HT, rfl⟩ := hrel
            by_cases hlt : i < k.tags.length
            · obtain ⟨g, off, hgA, hg, hc0⟩ := HL.out i (.int .i64 k.tags[i]) (by simp [hlt])
              have hc := (HK.out.cell (b := g) (o := off + i) hg id).trans hc0
              have HD := Lib.hid (drop_next hlt)
              have HX := Lib.hid (List.getElem?_eq_getElem hlt)
              subst hgA
              clear hc0
              generalize k.tags[i] = x at *
              obtain ⟨b, hb⟩ : ∃ b, (decide (0 ≤ x) && decide (x ≤ (n : Int) - 1)) = b := ⟨_, rfl⟩
              have R := fun w => Lib.hid (ranged_is hb w)
              have HB := Lib.hid hb
              clear hb
              go_wp2_with fail
              refine (R _).out.mono ?_
              rintro r w1 ⟨rfl, rfl⟩
              cases b with
              | false =>
                have HC := Lib.hid (kndC_4 H1.out H2.out H3.out (c := 42) (by rw [HT.out, HD.out]; exact tags_42 HB.out) (by decide))
                go_wp2_with fail
                go_ret
                exact ⟨by rw [HC.out]; rfl, HK.out⟩
              | true =>
                clear R
                by_cases h0 : i = 0
                · have HT' : Hid (tagsGo n none k.tags = tagsGo n (prevO k.tags (i + 1)) (k.tags.drop (i + 1))) := Lib.hid (by
                    rw [HT.out, HD.out]
                    unfold prevO
                    rw [if_pos h0, if_neg (by omega), Nat.add_sub_cancel, HX.out]
                    exact tags_first HB.out)
                  clear HT HD HX HB
                  subst h0
                  go_wp2_with fail
                  go_roundw
                  case rel => exact ⟨1, by omega, by go_num, HT', by trivial⟩
                  case measure => simp [intOf]; omega
                · have hlp : i - 1 < k.tags.length := by omega
                  obtain ⟨g', off', hgA', hg', hc0'⟩ := HL.out (i - 1) (.int .i64 k.tags[i - 1]) (by simp [hlp])
                  injection hgA' with hgA'
                  injection hgA' with e1 e2 _
                  subst e1 e2
                  have hcp := (HK.out.cell (b := g) (o := off + (i - 1)) hg id).trans hc0'
                  have HXp := Lib.hid (List.getElem?_eq_getElem hlp)
                  clear hc0' hg'
                  generalize k.tags[i - 1] = y at *
                  by_cases hxy : x ≤ y
                  · have HC := Lib.hid (kndC_4 H1.out H2.out H3.out (c := 57) (by
                      rw [HT.out, HD.out]
                      unfold prevO
                      rw [if_neg h0, HXp.out]
                      exact tags_57 HB.out hxy) (by decide))
                    go_wp2_with fail
                    go_ret
                    exact ⟨by rw [HC.out]; rfl, HK.out⟩
                  · have HT' : Hid (tagsGo n none k.tags = tagsGo n (prevO k.tags (i + 1)) (k.tags.drop (i + 1))) := Lib.hid (by
                      rw [HT.out, HD.out]
                      unfold prevO
                      rw [if_neg h0, HXp.out, if_neg (by omega), Nat.add_sub_cancel, HX.out]
                      exact tags_on HB.out hxy)
                    clear HT HD HX HB
                    go_wp2_with fail
                    go_roundw
                    case rel => exact ⟨i + 1, by omega, by go_num, HT', by trivial⟩
                    case measure => simp [intOf]; omega
            · obtain rfl : i = k.tags.length := by omega
              have H4 : Hid (tagsGo n none k.tags = 0) := Lib.hid (by rw [HT.out, List.drop_length]; rfl)
              clear HT
              by_cases h5 : 8 < k.effs.length
              · have HC := Lib.hid (kndC_5 H1.out H2.out H3.out H4.out h5)
                go_wp2_with fail
                go_ret
                exact ⟨by rw [HC.out]; rfl, HK.out⟩
              · have HC := Lib.hid (kndC_6 H1.out H2.out H3.out H4.out h5)
                clear H1 H2 H3 H4
                go_wp2_with fail
                clear a0 a1 a2 a3 a4 a5
                go_loopw [69] (fun vi wr => ∃ (i : Nat), i ≤ k.effs.length ∧ vi = .int .i64 i ∧ Hid (firstN (k.effs.map effC) = firstN ((k.effs.drop i).map effC)) ∧ Hid (Keeps (fun _ => False) w wr)) (fun vi _ => k.effs.length - (intOf vi).toNat)
                case atStart => exact ⟨0, by omega, rfl, Lib.hid rfl, HK⟩
                case round =>
                  clear HK HM
                  obtain ⟨i, hi, rfl, HT, HK⟩ := hrel
                  by_cases hlt : i < k.effs.length
                  · obtain ⟨g, off, As, cs, Ac, cc, hgA, hg, c0, c1, c2, c3, hs, _⟩ := HE.out i k.effs[i] (List.getElem?_eq_getElem hlt)
                    have hcell := fun o => HK.out.cell (b := g) (o := o) hg id
                    have d0 := (hcell _).trans c0
                    have d1 := (hcell _).trans c1
                    have d2 := (hcell _).trans c2
                    have d3 := (hcell _).trans c3
                    have HD := Lib.hid (drop_next hlt)
                    have hef := HF.out.each _ (List.getElem_mem hlt)
                    clear c0 c1 c2 c3 hcell
                    subst hgA
                    generalize k.effs[i] = x at *
                    have CE := Lib.hid (fun W (hW : Keeps (fun _ => False) w W) => checkEffect_any x As Ac cs cc W ((hs.keeps hW (fun _ _ => id) (Nat.le_refl _)).more hW.size) hef.slots hef.code hef.small)
                    unfold effV at CE
                    have hxs := hef.slots
                    have hxc := hef.code
                    clear hs hef
                    go_wp2_with fail
                    refine (CE.out _ (HK.out.trans ((Keeps.refl _ _).alloc _))).mono ?_
                    rintro r w2 ⟨rfl, hk2⟩
                    have HK2 := Lib.hid ((HK.out.trans ((Keeps.refl _ wr).alloc (.cells #[.int .i64 x.on, .slice As x.slots.length cs, .slice Ac x.code.length cc, .int .i64 x.bound] 43))).trans hk2)
                    clear CE hk2 HK d0 d1 d2 d3
                    rcases effC_or x with h0 | h0
                    · have HT' : Hid (firstN (k.effs.map effC) = firstN ((k.effs.drop (i + 1)).map effC)) := Lib.hid (by
                        rw [HT.out, HD.out, List.map_cons, h0]; rfl)
                      clear HT HD
                      rw [h0]
                      clear h0
                      go_wp2_with fail
                      go_roundw
                      case rel => exact ⟨i + 1, by omega, by go_num, HT', HK2⟩
                      case measure => simp [intOf]; omega
                    · have HC' : Hid (kndC n k = 56) := Lib.hid (by rw [HC.out, HT.out, HD.out, List.map_cons, h0]; rfl)
                      clear HT HD HC
                      rw [h0]
                      clear h0
                      go_wp2_with fail
                      go_ret
                      exact ⟨by rw [HC'.out]; rfl, HK2.out⟩
                  · obtain rfl : i = k.effs.length := by omega
                    have HC' : Hid (kndC n k = 0) := Lib.hid (by rw [HC.out, HT.out, List.drop_length]; rfl)
                    go_wp2_with fail
                    go_ret
                    exact ⟨by rw [HC'.out]; rfl, HK.out⟩
end Go.Proofs.YtcmbdnjcfneinaaGreatDoor
/-
  Texts as values, the pools of a pack looked at: the walk. Conditions: lengths within 10 ^ 9.
-/
namespace Go.Proofs.YtcmbdnjcfneinaaGreatDoor
open Go.RowKit
/-- A text as the program holds it. -/
def strB (l : List Oct) : ByteArray := ⟨(l.map UInt8.ofBitVec).toArray⟩
theorem strB_size (l : List Oct) : (strB l).size = l.length := by show (l.map UInt8.ofBitVec).toArray.size = _; simp
theorem strB_toList (l : List Oct) : (strB l).toList = l.map UInt8.ofBitVec := by rw [ByteArray.toList_eq]; rfl
theorem u8_inj {a b : Oct} : UInt8.ofBitVec a = UInt8.ofBitVec b ↔ a = b := ⟨fun h => by injection h, fun h => by rw [h]⟩
theorem u8_lt {a b : Oct} : UInt8.ofBitVec a < UInt8.ofBitVec b ↔ a.toNat < b.toNat := Iff.rfl
theorem strB_inj {x y : List Oct} : strB x = strB y ↔ x = y := ⟨fun h => by
  have h := congrArg ByteArray.toList h
  rw [strB_toList, strB_toList] at h
  exact List.map_inj_right (fun a b h => u8_inj.1 h) |>.1 h, fun h => by rw [h]⟩
theorem less_bel : ∀ x y : List Oct, Op.bytesLess (x.map UInt8.ofBitVec) (y.map UInt8.ofBitVec) = bel x y
  | [], [] => by simp [Op.bytesLess, bel]
  | [], _ :: _ => by simp [Op.bytesLess, bel]
  | _ :: _, [] => by simp [Op.bytesLess, bel]
  | a :: x, b :: y => by
    simp only [List.map_cons, Op.bytesLess, bel]
    rw [less_bel x y]
    by_cases h : a = b
    · subst h
      have : ¬ (UInt8.ofBitVec a < UInt8.ofBitVec a) := by rw [u8_lt]; omega
      simp [this]
    · have h2 : ¬ UInt8.ofBitVec a = UInt8.ofBitVec b := fun e => h (u8_inj.1 e)
      simp only [h, if_false]
      simp [u8_lt, h2]
theorem bel_asym : ∀ x y : List Oct, (bel x y || decide (x = y)) = !bel y x
  | [], [] => by simp [bel]
  | [], _ :: _ => by simp [bel]
  | _ :: _, [] => by simp [bel]
  | a :: x, b :: y => by
    have ih := bel_asym x y
    unfold bel
    by_cases h : a = b
    · subst h
      simp only [if_true, List.cons.injEq, true_and]
      exact ih
    · have h1 : a.toNat ≠ b.toNat := fun e => h (BitVec.eq_of_toNat_eq e)
      have h2 : ¬ b = a := fun e => h e.symm
      simp only [h, h2, if_false, List.cons.injEq, false_and, decide_false, Bool.or_false]
      by_cases h3 : a.toNat < b.toNat
      · have h4 : ¬ b.toNat < a.toNat := by omega
        simp [h3, h4]
      · have h4 : b.toNat < a.toNat := by omega
        simp [h3, h4]
/-- The texts' values. -/
def textsV (l : List (List Oct)) : List Value := l.map fun t => .string (strB t)
/-- A pack, where its slices say. -/
structure PkIn (w : World) (B : Nat) (p : Pk) (Ai At Ak : Option Addr) : Prop where
  ints : Lies w B Ai (p.ints.map (Value.int .i64))
  texts : Lies w B At (textsV p.texts)
  kinds : KdLies w B Ak p.kinds
theorem PkIn.keeps {w w' : World} {B : Nat} {p : Pk} {Ai At Ak : Option Addr} {S : Nat → Prop} (h : PkIn w B p Ai At Ak) (hk : Keeps S w w') (hS : ∀ b, b < B → ¬ S b) (hB : B ≤ w.heap.size := by omega) : PkIn w' B p Ai At Ak := ⟨h.ints.keeps hk hS hB, h.texts.keeps hk hS hB, h.kinds.keeps hk hS hB⟩
theorem PkIn.past {w w' : World} {p : Pk} {Ai At Ak : Option Addr} (h : PkIn w w.heap.size p Ai At Ak) (hk : Keeps (fun _ => False) w w') : PkIn w' w'.heap.size p Ai At Ak := ⟨h.ints.pastK hk, h.texts.pastK hk, h.kinds.past hk⟩
structure PkFew (p : Pk) : Prop where
  ints : p.ints.length ≤ 1000000000
  texts : p.texts.length ≤ 1000000000
  text : ∀ t ∈ p.texts, t.length ≤ 1000000000
  kinds : p.kinds.length ≤ 1000000000
  each : ∀ k ∈ p.kinds, KndFew k
  ints64 : Ints64 p
def pkC (p : Pk) (Ai At Ak : Option Addr) (ci ct ck : Nat) : Array Value := #[.int .i64 p.cards, .slice Ai p.ints.length ci, .slice At p.texts.length ct, .slice Ak p.kinds.length ck]
/-! ### The answers, one by one -/
section
variable {p : Pk}
theorem pools_1 (h : (decide (1 ≤ p.cards) && decide (p.cards ≤ 256)) = false) : poolsC p = 56 := by
  unfold poolsC
  rw [if_pos]
  simp only [Bool.and_eq_false_iff, decide_eq_false_iff_not] at h
  omega
theorem pools_2 (h : 4096 < p.ints.length) : poolsC p = 56 := by
  unfold poolsC
  rw [if_pos (by omega)]
theorem pools_ok (h : (decide (1 ≤ p.cards) && decide (p.cards ≤ 256)) = true) (h2 : ¬ 4096 < p.ints.length) : poolsC p = if !ascI p.ints then 57 else textsC p.texts := by
  simp only [Bool.and_eq_true, decide_eq_true_eq] at h
  unfold poolsC
  rw [if_neg (by omega)]
end
theorem asc_one : ∀ (l : List Int), l.length ≤ 1 → ascI l = true
  | [], _ => rfl
  | [_], _ => rfl
  | _ :: _ :: _, h => by simp at h
theorem asc_drop {l : List Int} {i : Nat} (h0 : 1 ≤ i) (h : i < l.length) : ascI (l.drop (i - 1)) = (decide (l[i - 1] < l[i]) && ascI (l.drop i)) := by
  have h1 : l.drop (i - 1) = l[i - 1] :: l.drop (i - 1 + 1) := List.drop_eq_getElem_cons (by omega)
  rw [show i - 1 + 1 = i by omega, List.drop_eq_getElem_cons h] at h1
  rw [h1, List.drop_eq_getElem_cons h]
  rfl
theorem tx_56 {q : Option (List Oct)} {t : List Oct} {l : List (List Oct)} (h : 64 < t.length) : textsGo q (t :: l) = 56 := by
  unfold textsGo
  rw [if_pos h]
theorem tx_57 {p t : List Oct} {l : List (List Oct)} (h : ¬ 64 < t.length) (h2 : bel p t = false) : textsGo (some p) (t :: l) = 57 := by
  unfold textsGo
  rw [if_neg h, if_pos (by simp [h2])]
theorem tx_on {p t : List Oct} {l : List (List Oct)} (h : ¬ 64 < t.length) (h2 : bel p t = true) : textsGo (some p) (t :: l) = textsGo (some t) l := by
  conv => lhs; unfold textsGo
  rw [if_neg h, if_neg (by simp [h2])]
theorem tx_first {t : List Oct} {l : List (List Oct)} (h : ¬ 64 < t.length) : textsGo none (t :: l) = textsGo (some t) l := by
  conv => lhs; unfold textsGo
  rw [if_neg h, if_neg (by simp)]
theorem less_or (t p : List Oct) : (Op.bytesLess (strB t).toList (strB p).toList || (strB t).toList == (strB p).toList) = !bel p t := by
  rw [strB_toList, strB_toList, less_bel, ← bel_asym t p]
  congr 1
  rw [Bool.eq_iff_iff, beq_iff_eq, decide_eq_true_iff]
  exact ⟨fun h => (List.map_inj_right (fun a b h => u8_inj.1 h)).1 h, fun h => by rw [h]⟩
set_option maxRecDepth 4000 in
set_option maxHeartbeats 1000000 in
theorem checkPools_any (p : Pk) (Ai At Ak : Option Addr) (ci ct ck : Nat) (w : World) (hx : PkIn w w.heap.size p Ai At Ak) (hm : PkFew p) :
    Calls Tryz.prog 27 #[.agg (pkC p Ai At Ak ci ct ck)] w fun r w' => r = .returned (.int .i64 (poolsC p)) ∧ Keeps (fun _ => False) w w' := by
  have HM : Hid (Whole (w.alloc (.cells (pkC p Ai At Ak ci ct ck) 26)) w.heap.size 26 (pkC p Ai At Ak ci ct ck)) := Lib.hid (Whole.made w _ _)
  have HK : Hid (Keeps (fun _ => False) w (w.alloc (.cells (pkC p Ai At Ak ci ct ck) 26))) := Lib.hid ((Keeps.refl _ w).alloc _)
  have HX := Lib.hid hx
  have HF := Lib.hid hm
  have hmi := hm.ints
  have hmt := hm.texts
  clear hx hm
  unfold pkC at *
  obtain ⟨b1, hb1⟩ : ∃ b, (decide (1 ≤ p.cards) && decide (p.cards ≤ 256)) = b := ⟨_, rfl⟩
  have R1 := fun w => Lib.hid (ranged_is hb1 w)
  have HB1 := Lib.hid hb1
  clear hb1
  go_enter Tryz.func27, Tryz.ntmps27
  go_wp2_with fail
  generalize w.alloc _ = w0 at *
  obtain ⟨a0, a1, a2, a3⟩ := four HM.out
  go_wp2_with fail
  refine (R1 _).out.mono ?_
  rintro r w1 ⟨rfl, rfl⟩
  cases b1 with
  | false =>
    have HC := Lib.hid (pools_1 HB1.out)
    go_wp2_with fail
    go_ret
    exact ⟨by rw [HC.out]; rfl, HK.out⟩
  | true =>
    by_cases h2 : 4096 < p.ints.length
    · have HC := Lib.hid (pools_2 h2)
      go_wp2_with fail
      go_ret
      exact ⟨by rw [HC.out]; rfl, HK.out⟩
    · have HC := Lib.hid (pools_ok HB1.out h2)
      clear HB1 R1
      go_wp2_with fail
      clear a0 a1 a2 a3
      go_loopw [3] (fun vi wr => ∃ (i m : Nat), 1 ≤ i ∧ (i ≤ p.ints.length ∨ i = 1) ∧ vi = .int .i64 i ∧ Hid (ascI p.ints = ascI (p.ints.drop (i - 1))) ∧ wr = w0.drewN m) (fun vi _ => p.ints.length - (intOf vi).toNat)
      case atStart => exact ⟨1, 0, by omega, by omega, rfl, Lib.hid rfl, rfl⟩
      case round =>
        obtain ⟨i, m, h1, hi, rfl, HA, rfl⟩ := hrel
        obtain ⟨a0, a1, a2, a3⟩ := four HM.out
        by_cases hlt : i < p.ints.length
        · obtain ⟨g, off, hgA, hg, hc0⟩ := HX.out.ints i (.int .i64 p.ints[i]) (by simp [hlt])
          have hc := (HK.out.cell (b := g) (o := off + i) hg id).trans hc0
          have hlp : i - 1 < p.ints.length := by omega
          obtain ⟨g', off', hgA', hg', hcp0⟩ := HX.out.ints (i - 1) (.int .i64 p.ints[i - 1]) (by simp [hlp])
          rw [hgA] at hgA'
          injection hgA' with hgA'
          injection hgA' with e1 e2 _
          subst e1 e2
          have hcp := (HK.out.cell (b := g) (o := off + (i - 1)) hg id).trans hcp0
          have HD := Lib.hid (asc_drop h1 hlt)
          subst hgA
          clear hc0 hcp0 hg'
          generalize p.ints[i] = x at *
          generalize p.ints[i - 1] = y at *
          by_cases hxy : x ≤ y
          · have HC' : Hid (poolsC p = 57) := Lib.hid (by
              rw [HC.out, HA.out, HD.out, decide_eq_false (by omega)]; rfl)
            go_wp2_with fail
            go_quiet (fail)
            go_wp2_with fail
            go_ret
            exact ⟨by rw [HC'.out]; rfl, (HK.out.drewN _).drewN _⟩
          · have HA' : Hid (ascI p.ints = ascI (p.ints.drop (i + 1 - 1))) := Lib.hid (by
              rw [HA.out, HD.out, decide_eq_true (by omega), Nat.add_sub_cancel]; rfl)
            go_wp2_with fail
            go_quiet (fail)
            go_wp2_with fail
            go_roundw
            case rel => exact ⟨i + 1, _, by omega, by omega, by go_num, HA', rfl⟩
            case measure => simp [intOf]; omega
        · have HC' : Hid (poolsC p = textsC p.texts) := Lib.hid (by
            rw [HC.out, HA.out, asc_one _ (by rw [List.length_drop]; omega)]; rfl)
          clear HC HA
          have HM2 : Hid (Whole (w0.drewN m) w.heap.size 26 #[.int .i64 p.cards, .slice Ai p.ints.length ci, .slice At p.texts.length ct, .slice Ak p.kinds.length ck]) := Lib.hid HM.out
          have HK2 := Lib.hid (HK.out.drewN m)
          by_cases h4 : 4096 < p.texts.length
          · have HC : Hid (poolsC p = 56) := Lib.hid (by rw [HC'.out]; unfold textsC; rw [if_pos h4])
            go_wp2_with fail
            go_ret
            exact ⟨by rw [HC.out]; rfl, HK2.out⟩
          · have HC : Hid (poolsC p = textsGo none p.texts) := Lib.hid (by rw [HC'.out]; unfold textsC; rw [if_neg h4])
            clear HC'
            go_wp2_with fail
            clear a0 a1 a2 a3 HM HK
            generalize w0.drewN m = v at *
            go_loopw [42] (fun vi wr => ∃ (j : Nat), j ≤ p.texts.length ∧ vi = .int .i64 j ∧ Hid (textsGo none p.texts = textsGo (prevO p.texts j) (p.texts.drop j)) ∧ v = wr) (fun vi _ => p.texts.length - (intOf vi).toNat)
            case atStart => exact ⟨0, by omega, rfl, Lib.hid rfl, rfl⟩
            case round =>
              obtain ⟨j, hj, rfl, HT, rfl⟩ := hrel
              obtain ⟨a0, a1, a2, a3⟩ := four HM2.out
              by_cases hltj : j < p.texts.length
              · obtain ⟨g, off, hgA, hg, hc0⟩ := HX.out.texts j (.string (strB p.texts[j])) (by simp [textsV, hltj])
                have hc := (HK2.out.cell (b := g) (o := off + j) hg id).trans hc0
                have HD := Lib.hid (drop_next hltj)
                have HY := Lib.hid (List.getElem?_eq_getElem hltj)
                have hfew := HF.out.text _ (List.getElem_mem hltj)
                subst hgA
                clear hc0
                generalize p.texts[j] = x at *
                have hsz := strB_size x
                have HSX := Lib.hid hsz
                rw [← hsz] at hfew
                clear hsz
                by_cases h64 : 64 < (strB x).size
                · have HC' : Hid (poolsC p = 56) := Lib.hid (by rw [HC.out, HT.out, HD.out]; exact tx_56 (by rw [← HSX.out]; exact h64))
                  go_wp2_with fail
                  go_ret
                  exact ⟨by rw [HC'.out]; rfl, HK2.out⟩
                · have H64 : Hid (¬ 64 < x.length) := Lib.hid (by rw [← HSX.out]; exact h64)
                  by_cases h0 : j = 0
                  · have HT' : Hid (textsGo none p.texts = textsGo (prevO p.texts (j + 1)) (p.texts.drop (j + 1))) := Lib.hid (by
                      rw [HT.out, HD.out]
                      unfold prevO
                      rw [if_pos h0, if_neg (by omega), Nat.add_sub_cancel, HY.out]
                      exact tx_first H64.out)
                    clear HT HD HY
                    subst h0
                    rw [Nat.add_zero] at hc
                    go_wp2_with fail
                    go_roundw
                    case rel => exact ⟨1, by omega, by go_num, HT', by trivial⟩
                    case measure => simp [intOf]; omega
                  · have hlp : j - 1 < p.texts.length := by omega
                    obtain ⟨g', off', hgA', hg', hc0'⟩ := HX.out.texts (j - 1) (.string (strB p.texts[j - 1])) (by simp [textsV, hlp])
                    injection hgA' with hgA'
                    injection hgA' with e1 e2 _
                    subst e1 e2
                    have hcp := (HK2.out.cell (b := g) (o := off + (j - 1)) hg id).trans hc0'
                    have HYp := Lib.hid (List.getElem?_eq_getElem hlp)
                    clear hc0' hg'
                    generalize p.texts[j - 1] = y at *
                    obtain ⟨b, hb⟩ : ∃ b, bel y x = b := ⟨_, rfl⟩
                    have hcmp := less_or x y
                    rw [hb] at hcmp
                    have HB := Lib.hid hb
                    clear hb
                    cases b with
                    | false =>
                      have HC' : Hid (poolsC p = 57) := Lib.hid (by
                        rw [HC.out, HT.out, HD.out]
                        unfold prevO
                        rw [if_neg h0, HYp.out]
                        exact tx_57 H64.out HB.out)
                      go_wp2_with fail
                      go_ret
                      exact ⟨by rw [HC'.out]; rfl, HK2.out⟩
                    | true =>
                      have HT' : Hid (textsGo none p.texts = textsGo (prevO p.texts (j + 1)) (p.texts.drop (j + 1))) := Lib.hid (by
                        rw [HT.out, HD.out]
                        unfold prevO
                        rw [if_neg h0, HYp.out, if_neg (by omega), Nat.add_sub_cancel, HY.out]
                        exact tx_on H64.out HB.out)
                      clear HT HD HY
                      go_wp2_with fail
                      go_roundw
                      case rel => exact ⟨j + 1, by omega, by go_num, HT', by trivial⟩
                      case measure => simp [intOf]; omega
              · obtain rfl : j = p.texts.length := by omega
                have HC' : Hid (poolsC p = 0) := Lib.hid (by rw [HC.out, HT.out, List.drop_length]; rfl)
                go_wp2_with fail
                go_ret
                exact ⟨by rw [HC'.out]; rfl, HK2.out⟩
end Go.Proofs.YtcmbdnjcfneinaaGreatDoor
/-
  Check of a pack: the walk. Conditions: lengths within 10 ^ 9, a size within 10 ^ 12.
-/
namespace Go.Proofs.YtcmbdnjcfneinaaGreatDoor
open Go.RowKit
section
variable {p : Pk}
theorem chk_1 {c : Nat} (h : poolsC p = c) (hc : c ≠ 0) : chk p = c := by
  unfold chk
  rw [h, if_pos hc]
theorem chk_2 (h : poolsC p = 0) (h2 : 256 < p.kinds.length) : chk p = 56 := by
  unfold chk
  rw [h, if_neg (by simp), if_pos h2]
theorem chk_3 {c : Nat} (h : poolsC p = 0) (h2 : ¬ 256 < p.kinds.length) (h3 : firstN (p.kinds.map (kndC p.texts.length)) = c) (hc : c ≠ 0) : chk p = c := by
  unfold chk
  rw [h, if_neg (by simp), if_neg h2, h3, if_pos hc]
theorem chk_4 (h : poolsC p = 0) (h2 : ¬ 256 < p.kinds.length) (h3 : firstN (p.kinds.map (kndC p.texts.length)) = 0) : chk p = if 1048576 < sizeP p then 20 else 0 := by
  unfold chk
  rw [h, if_neg (by simp), if_neg h2, h3, if_neg (by simp)]
end
theorem firstN_cons {c : Nat} {l : List Nat} (h : c ≠ 0) : firstN (c :: l) = c := by
  cases c with
  | zero => exact absurd rfl h
  | succ n => rfl
theorem sum_next {α : Type} (l : List α) (f : α → Nat) (i : Nat) (x : α) (h : l[i]? = some x) : ((l.take (i + 1)).map f).sum = ((l.take i).map f).sum + f x := by
  rw [List.take_add_one, h]; simp
theorem sum_take_le {α : Type} (l : List α) (f : α → Nat) (i : Nat) : ((l.take i).map f).sum ≤ (l.map f).sum := by
  conv => rhs; rw [← List.take_append_drop i l]
  rw [List.map_append, List.sum_append]
  omega
theorem sum_at_le {α : Type} (l : List α) (f : α → Nat) (i : Nat) (x : α) (h : l[i]? = some x) : ((l.take i).map f).sum + f x ≤ (l.map f).sum := by
  rw [← sum_next l f i x h]
  exact sum_take_le l f (i + 1)
set_option maxRecDepth 4000 in
set_option maxHeartbeats 2000000 in
theorem check_any (p : Pk) (Ai At Ak : Option Addr) (ci ct ck : Nat) (w : World) (hx : PkIn w w.heap.size p Ai At Ak) (hm : PkFew p) (hz : sizeP p ≤ 1000000000000) :
    Calls Tryz.prog 8 #[.agg (pkC p Ai At Ak ci ct ck)] w fun r w' => r = .returned (.int .i64 (chk p)) ∧ Keeps (fun _ => False) w w' := by
  have HM : Hid (Whole (w.alloc (.cells (pkC p Ai At Ak ci ct ck) 26)) w.heap.size 26 (pkC p Ai At Ak ci ct ck)) := Lib.hid (Whole.made w _ _)
  have HK : Hid (Keeps (fun _ => False) w (w.alloc (.cells (pkC p Ai At Ak ci ct ck) 26))) := Lib.hid ((Keeps.refl _ w).alloc _)
  have HX := Lib.hid hx
  have HF := Lib.hid hm
  have hmi := hm.ints
  have hmt := hm.texts
  have hmk := hm.kinds
  have HZ := Lib.hid hz
  have HCP := Lib.hid (fun W (h : PkIn W W.heap.size p Ai At Ak) => checkPools_any p Ai At Ak ci ct ck W h hm)
  clear hx hm hz
  unfold pkC at *
  go_enter Tryz.func8, Tryz.ntmps8
  go_wp2_with fail
  generalize w.alloc _ = w0 at *
  obtain ⟨a0, a1, a2, a3⟩ := four HM.out
  go_wp2_with fail
  refine (HCP.out w0 (HX.out.past HK.out)).mono ?_
  rintro r w1 ⟨rfl, hk1⟩
  have HK1 := Lib.hid (HK.out.trans hk1)
  have HM1 := Lib.hid (HM.out.keeps hk1 id)
  clear HK HM HCP hk1 a0 a1 a2 a3
  obtain ⟨a0, a1, a2, a3⟩ := four HM1.out
  by_cases hp : poolsC p = 0
  · have H1 := Lib.hid hp
    rw [hp]
    clear hp
    by_cases h2 : 256 < p.kinds.length
    · have HC := Lib.hid (chk_2 H1.out h2)
      go_wp2_with fail
      go_ret
      exact ⟨by rw [HC.out]; rfl, HK1.out⟩
    · have H2 := Lib.hid h2
      go_wp2_with fail
      clear a0 a1 a2 a3
      go_loopw [4, 29] (fun vs vi wr => ∃ (i n : Nat), i ≤ p.texts.length ∧ vi = .int .i64 i ∧ vs = .int .i64 n ∧ n ≤ 1000000000000 ∧ Hid (n = 37 + 8 * p.ints.length + ((p.texts.take i).map fun t => 1 + t.length).sum) ∧ w1 = wr) (fun _ vi _ => p.texts.length - (intOf vi).toNat)
      case atStart => exact ⟨0, 37 + 8 * p.ints.length, by omega, rfl, by go_num, by omega, Lib.hid (by simp), rfl⟩
      case round =>
        obtain ⟨i, n, hi, rfl, rfl, hn, HN, rfl⟩ := hrel
        obtain ⟨a0, a1, a2, a3⟩ := four HM1.out
        by_cases hlt : i < p.texts.length
        · obtain ⟨g, off, hgA, hg, hc0⟩ := HX.out.texts i (.string (strB p.texts[i])) (by simp [textsV, hlt])
          have hc := (HK1.out.cell (b := g) (o := off + i) hg id).trans hc0
          have HY := Lib.hid (List.getElem?_eq_getElem hlt)
          subst hgA
          clear hc0
          generalize p.texts[i] = x at *
          have HSX := Lib.hid (strB_size x)
          have hb : n + (1 + (strB x).size) ≤ 1000000000000 := by
            have e1 : ((p.texts.take i).map fun t => 1 + t.length).sum + (1 + x.length) ≤ _ := sum_at_le p.texts (fun t => 1 + t.length) i x HY.out
            have e2 := HZ.out
            have e3 := HN.out
            unfold sizeP at e2
            rw [HSX.out]
            omega
          have HN' : Hid (n + (1 + (strB x).size) = 37 + 8 * p.ints.length + ((p.texts.take (i + 1)).map fun t => 1 + t.length).sum) := Lib.hid (by
            rw [sum_next p.texts _ i x HY.out, HSX.out, HN.out]; omega)
          clear HN HY HSX
          go_wp2_with fail
          go_roundw
          case rel => exact ⟨i + 1, n + (1 + (strB x).size), by omega, by go_num, by go_num, by omega, HN', by trivial⟩
          case measure => simp [intOf]; omega
        · obtain rfl : i = p.texts.length := by omega
          have HN1 : Hid (n = 37 + 8 * p.ints.length + (p.texts.map fun t => 1 + t.length).sum) := Lib.hid (by have := HN.out; rw [List.take_length] at this; exact this)
          clear HN
          go_wp2_with fail
          clear a0 a1 a2 a3
          go_loopw [4, 42] (fun vs vi wr => ∃ (j n2 : Nat), j ≤ p.kinds.length ∧ vi = .int .i64 j ∧ vs = .int .i64 n2 ∧ n2 ≤ 1000000000000 ∧ Hid (n2 = n + ((p.kinds.take j).map kndSize).sum) ∧ Hid (firstN (p.kinds.map (kndC p.texts.length)) = firstN ((p.kinds.drop j).map (kndC p.texts.length))) ∧ Hid (Keeps (fun _ => False) w wr) ∧ Hid (Whole wr w.heap.size 26 #[.int .i64 p.cards, .slice Ai p.ints.length ci, .slice At p.texts.length ct, .slice Ak p.kinds.length ck])) (fun _ vi _ => p.kinds.length - (intOf vi).toNat)
          case atStart => exact ⟨0, n, by omega, rfl, rfl, hn, Lib.hid (by simp), Lib.hid rfl, HK1, HM1⟩
          case round =>
            clear HK1 HM1
            obtain ⟨j, n2, hj, rfl, rfl, hn2, HN2, HT, HK1, HM1⟩ := hrel
            obtain ⟨a0, a1, a2, a3⟩ := four HM1.out
            by_cases hltj : j < p.kinds.length
            · obtain ⟨g, off, Bt, ct', Be, ce', hgA, hg, c0, c1, c2, c3, c4, c5, ht0, he0⟩ := HX.out.kinds j p.kinds[j] (List.getElem?_eq_getElem hltj)
              have hcell := fun o => HK1.out.cell (b := g) (o := o) hg id
              have d0 := (hcell _).trans c0
              have d1 := (hcell _).trans c1
              have d2 := (hcell _).trans c2
              have d3 := (hcell _).trans c3
              have d4 := (hcell _).trans c4
              have d5 := (hcell _).trans c5
              clear c0 c1 c2 c3 c4 c5 hcell
              have HD := Lib.hid (drop_next hltj)
              have HY := Lib.hid (List.getElem?_eq_getElem hltj)
              have hkf := HF.out.each _ (List.getElem_mem hltj)
              subst hgA
              generalize p.kinds[j] = x at *
              have HT0 := Lib.hid ht0
              have HE0 := Lib.hid he0
              have HKF := Lib.hid hkf
              have CK := Lib.hid (fun W (hW : Keeps (fun _ => False) w W) => checkKind_any x p.texts.length Bt Be ct' ce' W ((ht0.keeps hW (fun _ _ => id) (Nat.le_refl _)).more hW.size) ((he0.keeps hW (fun _ _ => id) (Nat.le_refl _)).more hW.size) hkf hmt)
              unfold kndV at CK
              have hxt := hkf.tags
              have hxe := hkf.effs
              clear ht0 he0 hkf
              have hA0 := fun o => (World.cell?_alloc_lt wr o ⟨w.heap.size, 0, none⟩ HM1.out.inside).trans a0
              have hA2 := fun o => (World.cell?_alloc_lt wr o ⟨w.heap.size, 2, none⟩ HM1.out.inside).trans a2
              go_wp2_with fail
              refine (CK.out _ (HK1.out.trans ((Keeps.refl _ _).alloc _))).mono ?_
              rintro r w2 ⟨rfl, hk2⟩
              have ka := ((Keeps.refl (fun _ => False) wr).alloc (.cells #[.int .i64 x.name, .int .i64 x.cost, .int .i64 x.power, .int .i64 x.health, .slice Bt x.tags.length ct', .slice Be x.effs.length ce'] 40)).trans hk2
              have HK2 := Lib.hid (HK1.out.trans ka)
              have HM2 := Lib.hid (HM1.out.keeps ka id)
              have HB := Lib.hid ((Whole.made wr 40 #[.int .i64 x.name, .int .i64 x.cost, .int .i64 x.power, .int .i64 x.health, .slice Bt x.tags.length ct', .slice Be x.effs.length ce']).keeps hk2 id)
              clear ka hk2 HK1 HM1 hA0 hA2 CK a0 a1 a2 a3 d0 d1 d2 d3 d4 d5
              generalize wr.heap.size = kb at *
              obtain ⟨e0, e1, e2, e3, e4, e5⟩ := six HB.out
              by_cases hk0 : kndC p.texts.length x = 0
              · have HT' : Hid (firstN (p.kinds.map (kndC p.texts.length)) = firstN ((p.kinds.drop (j + 1)).map (kndC p.texts.length))) := Lib.hid (by
                  rw [HT.out, HD.out, List.map_cons, hk0]; rfl)
                rw [hk0]
                clear hk0 HT HD
                have hb : n2 + kndSize x ≤ 1000000000000 := by
                  have e1 := sum_at_le p.kinds kndSize j x HY.out
                  have e2 := HZ.out
                  have e3 := HN1.out
                  have e4 := HN2.out
                  unfold sizeP at e2
                  omega
                have HN2' : Hid (n2 + kndSize x = n + ((p.kinds.take (j + 1)).map kndSize).sum) := Lib.hid (by
                  rw [sum_next p.kinds kndSize j x HY.out, HN2.out]; omega)
                clear HN2 HY
                have hs16 : 16 + 2 * x.tags.length + (x.effs.map effSize).sum = kndSize x := rfl
                have HS := Lib.hid hs16
                have hb16 : n2 + (16 + 2 * x.tags.length) ≤ 1000000000000 := by omega
                have HBB := Lib.hid hb
                clear hs16 hb
                go_wp2_with fail
                clear e0 e1 e2 e3 e4 e5 HB
                go_loopw [4, 64] (fun vs vi wr => ∃ (q n3 : Nat), q ≤ x.effs.length ∧ vi = .int .i64 q ∧ vs = .int .i64 n3 ∧ n3 ≤ 1000000000000 ∧ Hid (n3 = n2 + (16 + 2 * x.tags.length) + ((x.effs.take q).map effSize).sum) ∧ Hid (Keeps (fun _ => False) w wr) ∧ Hid (Whole wr w.heap.size 26 #[.int .i64 p.cards, .slice Ai p.ints.length ci, .slice At p.texts.length ct, .slice (some ⟨g, off, none⟩) p.kinds.length ck])) (fun _ vi _ => x.effs.length - (intOf vi).toNat)
                case atStart => exact ⟨0, n2 + (16 + 2 * x.tags.length), by omega, rfl, by go_num, hb16, Lib.hid (by simp), HK2, HM2⟩
                case round =>
                  clear HK2 HM2 hb16
                  obtain ⟨q, n3, hq, rfl, rfl, hn3, HN3, HK2, HM2⟩ := hrel
                  by_cases hltq : q < x.effs.length
                  · obtain ⟨g2, off2, As, cs, Ac, cc, hgA2, hg2, c0, c1, c2, c3, _, _⟩ := HE0.out q x.effs[q] (List.getElem?_eq_getElem hltq)
                    have hcell := fun o => HK2.out.cell (b := g2) (o := o) hg2 id
                    have d0 := (hcell _).trans c0
                    have d1 := (hcell _).trans c1
                    have d2 := (hcell _).trans c2
                    have d3 := (hcell _).trans c3
                    clear c0 c1 c2 c3 hcell
                    have HY := Lib.hid (List.getElem?_eq_getElem hltq)
                    have hef := HKF.out.each _ (List.getElem_mem hltq)
                    have hes := hef.slots
                    have hec := hef.code
                    clear hef
                    subst hgA2
                    generalize x.effs[q] = z at *
                    have hbz : n3 + (12 + z.slots.length + z.code.length) ≤ 1000000000000 := by
                      have e1 := sum_at_le x.effs effSize q z HY.out
                      have e2 := HBB.out
                      have e3 := HN3.out
                      have e4 := HS.out
                      unfold effSize at e1
                      unfold effSize at e3
                      unfold effSize at e4
                      omega
                    have HN3' : Hid (n3 + (12 + z.slots.length + z.code.length) = n2 + (16 + 2 * x.tags.length) + ((x.effs.take (q + 1)).map effSize).sum) := Lib.hid (by
                      rw [sum_next x.effs effSize q z HY.out, HN3.out]
                      show _ = _ + (_ + (12 + z.slots.length + z.code.length))
                      omega)
                    have kz := (Keeps.refl (fun _ => False) wr).alloc (.cells #[.int .i64 z.on, .slice As z.slots.length cs, .slice Ac z.code.length cc, .int .i64 z.bound] 43)
                    have HK3 := Lib.hid (HK2.out.trans kz)
                    have HM3 := Lib.hid (HM2.out.keeps kz id)
                    clear HK2 HM2 kz HN3 HY
                    go_wp2_with fail
                    go_roundw
                    case rel => exact ⟨q + 1, n3 + (12 + z.slots.length + z.code.length), by omega, by go_num, by go_num, hbz, HN3', HK3, HM3⟩
                    case measure => simp [intOf]; omega
                  · obtain rfl : q = x.effs.length := by omega
                    have HN4 : Hid (n3 = n + ((p.kinds.take (j + 1)).map kndSize).sum) := Lib.hid (by
                      have e1 := HN3.out
                      rw [List.take_length] at e1
                      have e2 := HN2'.out
                      have e3 := HS.out
                      omega)
                    clear HN3 HN2'
                    go_wp2_with fail
                    go_roundw
                    case rel => exact ⟨j + 1, n3, by omega, by go_num, by go_num, hn3, HN4, HT', HK2, HM2⟩
                    case measure => simp [intOf]; omega
              · obtain ⟨c, hc⟩ : ∃ c, kndC p.texts.length x = c := ⟨_, rfl⟩
                rw [hc] at hk0
                have HC : Hid (chk p = c) := Lib.hid (chk_3 H1.out H2.out (by rw [HT.out, HD.out, List.map_cons, hc]; exact firstN_cons hk0) hk0)
                rw [hc]
                have hne : (c : Int) ≠ 0 := by omega
                have hbn : ((c : Int) != 0) = true := by simp [hk0]
                clear hk0 hc
                go_wp2_with fail
                go_ret
                exact ⟨by rw [HC.out]; rfl, HK2.out⟩
            · obtain rfl : j = p.kinds.length := by omega
              have HS : Hid (n2 = sizeP p) := Lib.hid (by
                have e1 := HN2.out
                rw [List.take_length] at e1
                have e2 := HN1.out
                unfold sizeP
                omega)
              have HC := Lib.hid (chk_4 H1.out H2.out (by rw [HT.out, List.drop_length]; rfl))
              by_cases h20 : 1048576 < n2
              · have HC' : Hid (chk p = 20) := Lib.hid (by rw [HC.out, ← HS.out, if_pos h20])
                go_wp2_with fail
                go_ret
                exact ⟨by rw [HC'.out]; rfl, HK1.out⟩
              · have HC' : Hid (chk p = 0) := Lib.hid (by rw [HC.out, ← HS.out, if_neg h20])
                go_wp2_with fail
                go_ret
                exact ⟨by rw [HC'.out]; rfl, HK1.out⟩
  · obtain ⟨c, hc⟩ : ∃ c, poolsC p = c := ⟨_, rfl⟩
    rw [hc] at hp
    have HC := Lib.hid (chk_1 hc hp)
    rw [hc]
    have hne : (c : Int) ≠ 0 := by omega
    have hbn : ((c : Int) != 0) = true := by simp [hp]
    clear hp hc
    go_wp2_with fail
    go_ret
    exact ⟨by rw [HC.out]; rfl, HK1.out⟩
end Go.Proofs.YtcmbdnjcfneinaaGreatDoor
