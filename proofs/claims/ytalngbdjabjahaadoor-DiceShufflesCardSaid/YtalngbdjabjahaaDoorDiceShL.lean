/-
  The law DiceShuffles: the walk. Conditions: the answers lie in memory that was there.
-/
import Derived.Test.YtalngbdjabjahaaDoorDiceSh
namespace Go.Proofs.YtalngbdjabjahaaDoor
open Go.RowKit
theorem slRows_two {e : TypeId} {w : World} {b1 b2 n c1 c2 : Nat} {A1 A2 : Option Addr} {xs ys : List Value} (h1 : w.ownsRow b1 e 1 (.slice A1 n c1) n xs) (h2 : w.ownsRow b2 e 1 (.slice A2 n c2) n ys) (hd : ∀ b, (Value.slice A1 n c1).ownBlock = some b → (Value.slice A2 n c2).ownBlock = some b → False) :
    SlRows e 1 [⟨A1, n, c1⟩, ⟨A2, n, c2⟩] w := by
  refine ⟨fun k r hr => ?_, fun j k r q b hr hq hrb hqb => ?_⟩
  · match k, hr with
    | 0, hr => injection hr with hr; subst hr; exact ⟨xs, own_base h1 fun _ _ => Nat.zero_le _⟩
    | 1, hr => injection hr with hr; subst hr; exact ⟨ys, own_base h2 fun _ _ => Nat.zero_le _⟩
    | k + 2, hr => simp at hr
  · match j, k, hr, hq with
    | 0, 0, _, _ => rfl
    | 1, 1, _, _ => rfl
    | 0, 1, hr, hq => injection hr with hr; injection hq with hq; subst hr; subst hq; exact (hd b hrb hqb).elim
    | 1, 0, hr, hq => injection hr with hr; injection hq with hq; subst hr; subst hq; exact (hd b hqb hrb).elim
    | j + 2, _, hr, _ => simp at hr
    | 0, k + 2, _, hq => simp at hq
    | 1, k + 2, _, hq => simp at hq
theorem blks_two {n c1 c2 B : Nat} {A1 A2 : Option Addr} (h1 : ∀ b, (Value.slice A1 n c1).ownBlock = some b → B ≤ b) (h2 : ∀ b, (Value.slice A2 n c2).ownBlock = some b → B ≤ b) : ∀ b, blks [⟨A1, n, c1⟩, ⟨A2, n, c2⟩] b → B ≤ b := fun b ⟨k, r, hr, hb⟩ => by
  match k, hr with
  | 0, hr => injection hr with hr; subst hr; exact h1 b hb
  | 1, hr => injection hr with hr; subst hr; exact h2 b hb
  | k + 2, hr => simp at hr
set_option maxHeartbeats 4000000 in
set_option maxRecDepth 100000 in
theorem diceShuffles_any (n : Int) (A : Option Addr) (cap : Nat) (L : List (Int × Bool)) (w : World) (hL : AnsLies w (fun g => g < w.heap.size) A L) :
    Calls Tryd.prog 3 #[.int .i64 n, .slice A L.length cap] w fun e w' => e = .returned (.bool true) ∧ Below w.heap.size w w' := by
  have hbd := shOf_bd L n
  have HBD := Lib.hid hbd; clear hbd
  have hw1 : Whole ((w.alloc (.cells #[.slice A L.length cap, .slice none 0 0] 26)).alloc (.cells #[.slice A L.length cap, .slice none 0 0] 26)) w.heap.size 26 #[.slice A L.length cap, .slice none 0 0] := (Whole.made w _ _).alloc _
  have hw2 : Whole ((w.alloc (.cells #[.slice A L.length cap, .slice none 0 0] 26)).alloc (.cells #[.slice A L.length cap, .slice none 0 0] 26)) (w.heap.size + 1) 26 #[.slice A L.length cap, .slice none 0 0] := by
    have := Whole.made (w.alloc (.cells #[.slice A L.length cap, .slice none 0 0] 26)) 26 #[.slice A L.length cap, .slice none 0 0]
    rw [World.size_alloc] at this
    exact this
  have hb0 : Below w.heap.size w ((w.alloc (.cells #[.slice A L.length cap, .slice none 0 0] 26)).alloc (.cells #[.slice A L.length cap, .slice none 0 0] 26)) := ((Below.refl _ w).alloc (Nat.le_refl _) _).alloc (by simp) _
  have hl0 : AnsLies ((w.alloc (.cells #[.slice A L.length cap, .slice none 0 0] 26)).alloc (.cells #[.slice A L.length cap, .slice none 0 0] 26)) (fun g => g < w.heap.size) A L := hL.keeps (S := fun _ => False) (((Keeps.refl _ w).alloc _).alloc _) (fun _ _ h => h)
  have hs0 : ((w.alloc (.cells #[.slice A L.length cap, .slice none 0 0] 26)).alloc (.cells #[.slice A L.length cap, .slice none 0 0] 26)).heap.size = w.heap.size + 2 := by simp
  have HW1 := Lib.hid hw1; have HW2 := Lib.hid hw2; have HB0 := Lib.hid hb0; have HL0 := Lib.hid hl0; have HS0 := Lib.hid hs0
  clear hw1 hw2 hb0 hl0 hs0 hL
  go_enter Tryd.func3, Tryd.ntmps3
  go_wp2_with fail
  generalize (w.alloc (.cells #[.slice A L.length cap, .slice none 0 0] 26)).alloc (.cells #[.slice A L.length cap, .slice none 0 0] 26) = w1 at *
  refine (ask_uni w.heap.size cap n (fun g => g < w.heap.size) A L w1 (fun g hg => ⟨Nat.ne_of_lt hg, by have := HS0.out; omega⟩) HW1.out HL0.out).mono ?_
  rintro e w2 ⟨A1, c1, rfl, hO1, ⟨Aa, ca, hca, hLa⟩, hK1⟩
  have HO1 := Lib.hid hO1; have HLa := Lib.hid hLa; have HCa := Lib.hid hca; have HK1 := Lib.hid hK1
  have HW2' := Lib.hid (HW2.out.keeps hK1 (by have := HS0.out; omega))
  have HL1 := Lib.hid (HL0.out.keeps hK1 (fun g hg => by have := HS0.out; omega))
  have hs2 : w.heap.size + 2 ≤ w2.heap.size := by have := HS0.out; have := hK1.size; omega
  clear hO1 hLa hca hK1 HW2 HL0
  go_wp2_with fail
  refine (ask_uni (w.heap.size + 1) cap n (fun g => g < w.heap.size) A L w2 (fun g hg => ⟨by omega, by omega⟩) HW2'.out HL1.out).mono ?_
  rintro e w3 ⟨A2, c2, rfl, hO2, ⟨Ab, cb, hcb, hLb⟩, hK2⟩
  have hs1 := HS0.out
  have HDis : Hid (∀ b, (Value.slice A1 (uniL (shOf L n)).length c1).ownBlock = some b → (Value.slice A2 (uniL (shOf L n)).length c2).ownBlock = some b → False) := Lib.hid fun b h1 h2 => by
    have h3 := (hO2.lt b h2).1
    have h4 := (HO1.out.lt b h1).2
    omega
  have HL2 := Lib.hid (HL1.out.keeps hK2 (fun g hg => by omega))
  have HO1' := Lib.hid (own_keepsS HO1.out hK2 (fun b hb h => by have := HO1.out.lt b hb; omega))
  have HCa' : Hid (w3.cell? ⟨w.heap.size, 1, none⟩ = some (.slice Aa (shOf L n).2.length ca)) := Lib.hid ((hK2.cell (by omega) (by omega)).trans HCa.out)
  have HLa' := Lib.hid (HLa.out.keeps hK2 (fun b h => h.2) (fun b h => by omega))
  have HB2 := Lib.hid ((HB0.out.trans (HK1.out.below (B := w.heap.size) (by omega) (fun k h => by omega))).trans (hK2.below (B := w.heap.size) (by omega) (fun k h => by omega)))
  have HO2 := Lib.hid hO2; have HLb := Lib.hid hLb; have HCb := Lib.hid hcb
  have hs3 := hK2.size
  clear hO2 hLb hcb hK2 HK1 HO1 HCa HLa HL1 HW2' HW1 HB0
  go_wp2_with fail
  refine (doc_uni n (fun g => g < w.heap.size) A cap L w3 (fun g hg => by omega) HL2.out).mono ?_
  rintro e w4 ⟨A3, c3, As, cs, rfl, hL3, hLs, hB4⟩
  have hk4 : Keeps (fun _ => False) w3 w4 := keepsAll hB4
  have HO1 := Lib.hid (own_keepsS HO1'.out hk4 (fun _ _ h => h))
  have HO2' := Lib.hid (own_keepsS HO2.out hk4 (fun _ _ h => h))
  have ca4 : w4.cell? ⟨w.heap.size, 1, none⟩ = some (.slice Aa (shOf L n).2.length ca) := (hk4.cell (by omega) (fun h => h)).trans HCa'.out
  have cb4 : w4.cell? ⟨w.heap.size + 1, 1, none⟩ = some (.slice Ab (shOf L n).2.length cb) := (hk4.cell (by omega) (fun h => h)).trans HCb.out
  have HLa := Lib.hid (HLa'.out.keeps hk4 (fun b h => by omega) (fun _ _ h => h))
  have HLb' := Lib.hid (HLb.out.keeps hk4 (fun b h => h.2) (fun _ _ h => h))
  have HB4 := Lib.hid (HB2.out.trans (hB4.mono (by omega)))
  have HL3 := Lib.hid hL3; have HLs := Lib.hid hLs
  have hs4 := hk4.size
  clear hL3 hLs hk4 hB4 HO1' HO2 HCa' HCb HLa' HLb HB2 HL2
  obtain ⟨b1, b2⟩ := HBD.out
  clear HBD
  generalize uniL (shOf L n) = x at *
  generalize uniB (shOf L n) = ok at *
  generalize (shOf L n).2 = s at *
  have hok : (ok != ok) = false := by simp
  go_wp2_with fail
  refine (eqInts_any x x A1 A3 w4.heap.size w4.heap.size c1 c3 w4 (own_lies HO1.out) HL3.out (by omega)).mono ?_
  rintro e w5 ⟨rfl, q1, rfl⟩
  go_wp2_with fail
  refine (eqInts_any x x A2 A3 w4.heap.size w4.heap.size c2 c3 (w4.drewN q1) ((own_lies HO2'.out).drewN _) (HL3.out.drewN _) (by omega)).mono ?_
  rintro e w5 ⟨rfl, q2, rfl⟩
  rw [World.drewN_drewN]
  go_wp2_with fail
  go_loopw [14] (fun v wr => ∃ i d : Nat, i ≤ s.length ∧ v = .int .i64 i ∧ wr = w4.drewN d) (fun v _ => s.length - (intOf v).toNat)
  case atStart => exact ⟨0, _, by omega, rfl, rfl⟩
  case round =>
    obtain ⟨i, d, hi, rfl, rfl⟩ := hrel
    by_cases hlt : i < s.length
    · obtain ⟨ga, rfl, _, ka⟩ := HLa.out i _ (map_get s i hlt)
      obtain ⟨gb, rfl, _, kb⟩ := HLb'.out i _ (map_get s i hlt)
      obtain ⟨gs, os, rfl, _, ks⟩ := HLs.out i _ (map_get s i hlt)
      generalize s[i] = y at *
      have hy : ((y : Int) != y) = false := by simp
      go_wp2_with fail
      go_quiet (fail)
      go_wp2_with fail
      go_roundw
      case rel => exact ⟨i + 1, _, by omega, by go_num, rfl⟩
      case measure => simp [intOf]; omega
    · obtain rfl : i = s.length := by omega
      clear ca4 cb4
      go_wp2_with fail
      have hsz : (w4.drewN d).heap.size = w4.heap.size := rfl
      have HWp : Hid (Whole ((w4.drewN d).alloc (.cells bagNone 57)) w4.heap.size 57 bagNone) := Lib.hid (Whole.made (w4.drewN d) _ _)
      have HBp : Hid (Below w.heap.size w ((w4.drewN d).alloc (.cells bagNone 57))) := Lib.hid ((belowN HB4.out d).alloc (by have := HB4.out.size; exact this) _)
      have HRp : Hid (SlRows 3 1 [⟨A1, x.length, c1⟩, ⟨A2, x.length, c2⟩] w4) := Lib.hid (slRows_two HO1.out HO2'.out HDis.out)
      have HKp : Hid (Keeps (fun b => b = w4.heap.size ∨ w4.heap.size + 1 ≤ b) w4 ((w4.drewN d).alloc (.cells bagNone 57))) := Lib.hid (((Keeps.refl _ w4).drewN d).alloc _)
      have hsp : ((w4.drewN d).alloc (.cells bagNone 57)).heap.size = w4.heap.size + 1 := by simp
      have hlow : Hid (∀ b, blks [⟨A1, x.length, c1⟩, ⟨A2, x.length, c2⟩] b → w.heap.size ≤ b) := Lib.hid (blks_two (fun b h => by have := (HO1.out.lt b h).1; omega) (fun b h => by have := (HO2'.out.lt b h).1; omega))
      clear HO1 HO2' HDis HL3 HLs HLa HLb' HB4 hsz
      change Calls Tryd.prog 9 _ ((w4.drewN d).alloc (.cells bagNone 57)) _
      generalize (w4.drewN d).alloc (.cells bagNone 57) = w5 at *
      generalize hp : w4.heap.size = p at *
      have HPp := Lib.hid hp; clear hp
      refine (addInts_any p (p + 1) 0 x.length c1 0 none A1 bagNone [] w5 HWp.out (bagNone_at 1 (by decide)) (World.ownsRow_nil _ _ _ _) (Nat.lt_succ_self _) (Nat.le_of_eq hsp.symm) (by decide)).mono ?_
      rintro e w6 ⟨rfl, A5, c5, hW5, hO5, hK5⟩
      have HW5 := Lib.hid hW5; have HO5 := Lib.hid hO5; have HK5 := Lib.hid (HKp.out.trans hK5)
      have HB5 := Lib.hid (HBp.out.trans (hK5.below (B := w.heap.size) (by have := HBp.out.size; omega) (fun k h => by omega)))
      have hs6 := hK5.size
      clear hW5 hO5 hK5 HWp HKp HBp
      go_wp2_with fail
      refine (addInts_any p (p + 1) 1 x.length c2 c5 A5 A2 (bagNone.setIfInBounds 1 (.slice A5 1 c5)) [.slice A1 x.length c1] w6 HW5.out rfl HO5.out (Nat.lt_succ_self _) (by omega) (by decide)).mono ?_
      rintro e w7 ⟨rfl, A6, c6, hW6, hO6, hK6⟩
      have hW7 : Whole w7 p 57 (bagNone.setIfInBounds 1 (.slice A6 2 c6)) := hW6
      obtain ⟨gO, hF, hR⟩ := bag_rows (rows := [⟨A1, x.length, c1⟩, ⟨A2, x.length, c2⟩]) HRp.out HPp.out (HK5.out.trans hK6) hW7 rfl hO6 (Nat.zero_lt_succ _)
      have HC := Lib.hid (apartInts_all p gO c6 _ _ w7 hW7 hF hR (by simp) (fun k r hr => by
        match k, hr with
        | 0, hr => injection hr with hr; subst hr; show x.length ≤ _; omega
        | 1, hr => injection hr with hr; subst hr; show x.length ≤ _; omega
        | k + 2, hr => simp at hr))
      have HB7 := Lib.hid (HB5.out.trans (hK6.below (B := w.heap.size) (by have := HB5.out.size; omega) (fun k h => by omega)))
      clear hW6 hW7 hO6 hK6 hF hR HW5 HO5 HB5 HK5
      go_wp2_with fail
      refine HC.out.mono ?_
      rintro e w8 ⟨rfl, hK8⟩
      have HB8 := Lib.hid (HB7.out.trans (hK8.below (B := w.heap.size) HB7.out.size (fun k h => hlow.out k h)))
      clear hK8 HC HB7
      go_wp2_with fail
      refine (lives_any _).mono ?_
      rintro e w9 ⟨rfl, hb⟩
      have HB9 := Lib.hid (belowThen' HB8.out hb)
      clear hb HB8
      go_wp2_with fail
      go_ret
      exact ⟨rfl, HB9.out⟩
end Go.Proofs.YtalngbdjabjahaaDoor
