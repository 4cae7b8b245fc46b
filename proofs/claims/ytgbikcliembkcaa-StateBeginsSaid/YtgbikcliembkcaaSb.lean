/-
  The law StateBegins: the walk. Conditions: lengths within 10 ^ 15.
-/
import Derived.Test.YtgbikcliembkcaaBeginP
import Derived.Test.YtgbikcliembkcaaCpS
import Derived.Test.YtgbikcliembkcaaSmS
import Derived.Test.YtgbikcliembkcaaWk
namespace Go.Proofs.Ytgbikcliembkcaa
open Go.RowKit
theorem info_deck : (Try.prog.info? 23).map (fun i => (i.zero, i.size, i.bytes)) = some (some (.slice none 0 0), 1, 24) := by kernel_rfl
theorem three {w : World} {g : Nat} {t : TypeId} {a b c : Value} (H : Whole w g t #[a, b, c]) : w.cell? ⟨g, 0, none⟩ = some a ∧ w.cell? ⟨g, 1, none⟩ = some b ∧ w.cell? ⟨g, 2, none⟩ = some c ∧ w.frozen? ⟨g, 0, none⟩ = false ∧ w.frozen? ⟨g, 1, none⟩ = false ∧ w.frozen? ⟨g, 2, none⟩ = false := ⟨H.cellAt 0, H.cellAt 1, H.cellAt 2, H.free 0, H.free 1, H.free 2⟩
/-- A deal that came in, in its box. -/
structure DealAt (w wr : World) (decks : List (List Cd)) (A : Option Addr) (cap : Nat) (life energy : Int) : Prop where
  keeps : Keeps (fun _ => False) w wr
  box : Whole wr w.heap.size 48 #[.slice A decks.length cap, .int .i32 life, .int .i32 energy]
  src : DecksLie wr w.heap.size A decks
theorem DealAt.calm {w wr w' : World} {decks : List (List Cd)} {A : Option Addr} {cap : Nat} {life energy : Int} (h : DealAt w wr decks A cap life energy) (hk : Keeps (fun _ => False) wr w') : DealAt w w' decks A cap life energy :=
  ⟨h.keeps.trans hk, h.box.keeps hk id, h.src.keeps hk (fun _ _ => id) h.keeps.size⟩
/-- And the answer of New in its box. -/
structure BegAt (w wr : World) (decks : List (List Cd)) (A : Option Addr) (cap : Nat) (life energy : Int) (Ap Ac Az : Option Addr) (cp cc cz gs n : Nat) : Prop where
  deal : DealAt w wr decks A cap life energy
  sbox : Whole wr gs 27 #[.slice Ap decks.length cp, .slice Ac n cc, .slice Az (4 * decks.length) cz, .int .i32 1, .int .i64 0, .int .i8 0, .int .i64 0]
  lies : StIn wr wr.heap.size (newS decks life energy) Ap Ac Az
theorem BegAt.calm {w wr w' : World} {decks : List (List Cd)} {A : Option Addr} {cap : Nat} {life energy : Int} {Ap Ac Az : Option Addr} {cp cc cz gs n : Nat} (h : BegAt w wr decks A cap life energy Ap Ac Az cp cc cz gs n) (hk : Keeps (fun _ => False) wr w') : BegAt w w' decks A cap life energy Ap Ac Az cp cc cz gs n :=
  ⟨h.deal.calm hk, h.sbox.keeps hk id, h.lies.past hk⟩
/-- Lengths that a machine bears. -/
structure DealBig (decks : List (List Cd)) : Prop where
  size : decks.length ≤ 1000000000000000
  rows : ∀ d ∈ decks, d.length ≤ 1000000000000000
theorem flat_sum (decks : List (List Cd)) : (decks.map List.length).sum = decks.flatten.length := by rw [List.length_flatten]
theorem new_small {decks : List (List Cd)} {life energy : Int} (h : newOk decks life energy = true) : StSmall (newS decks life energy) := by
  have hm := begins_may h
  have hh := (head_iff _).1 hm.head
  refine ⟨by omega, by omega, by omega, fun r hr => ?_⟩
  obtain ⟨z, hz⟩ := List.mem_iff_getElem?.1 hr
  have := hm.full
  have h2 : r.length ≤ (newS decks life energy).zones.flatten.length := by
    conv => rhs; rw [split_at hz]
    simp only [List.flatten_append, List.flatten_cons, List.length_append]; omega
  omega
set_option maxRecDepth 100000 in
set_option maxHeartbeats 4000000 in
theorem stateBegins_any (decks : List (List Cd)) (life energy : Int) (A : Option Addr) (cap : Nat) (w : World) (hx : DecksLie w w.heap.size A decks) (hb : DealBig decks) :
    Calls Try.prog 6 #[.agg #[.slice A decks.length cap, .int .i32 life, .int .i32 energy]] w fun e w' => e = .returned (.bool true) ∧ Keeps (fun _ => False) w w' := by
  have D0 : Hid (DealAt w (w.alloc (.cells #[.slice A decks.length cap, .int .i32 life, .int .i32 energy] 48)) decks A cap life energy) := Lib.hid ⟨(Keeps.refl _ w).alloc _, Whole.made w _ _, hx.keeps ((Keeps.refl (fun _ => False) w).alloc _) (fun _ _ => id) (Nat.le_refl _)⟩
  have hdl := hb.size
  have HR := Lib.hid hb.rows
  have HSL := Lib.hid (sumTo_le (decks.map List.length) (fun x h => by obtain ⟨d, hd, rfl⟩ := List.mem_map.1 h; exact hb.rows d hd) 0 (by omega))
  clear hx hb
  go_enter Try.func6, Try.ntmps6
  go_wp2_with fail
  generalize w.alloc (.cells #[.slice A decks.length cap, .int .i32 life, .int .i32 energy] 48) = w0 at *
  go_loopw [3, 4] (fun vn vi wr => ∃ (i n : Nat), i ≤ decks.length ∧ vi = .int .i64 i ∧ vn = .int .i64 n ∧ n ≤ 2000000000000000 ∧ Hid (sumTo n ((decks.drop i).map List.length) = sumTo 0 (decks.map List.length)) ∧ Hid (DealAt w wr decks A cap life energy)) (fun _ vi _ => decks.length - (intOf vi).toNat)
  case atStart => exact ⟨0, 0, by omega, rfl, rfl, by omega, Lib.hid rfl, D0⟩
  case round =>
    clear D0
    obtain ⟨i, n, hi, rfl, rfl, hn, HN, DD⟩ := hrel
    obtain ⟨p0, p1, p2, g0, g1, g2⟩ := three DD.out.box
    by_cases hlt : i < decks.length
    · have hd : (decks.drop i).map List.length = decks[i].length :: (decks.drop (i + 1)).map List.length := by rw [List.drop_eq_getElem_cons hlt]; rfl
      have hri := HR.out decks[i] (List.getElem_mem hlt)
      obtain ⟨g, off, Ai, ci, hA, hg, hc, _⟩ := DD.out.src i decks[i] (List.getElem?_eq_getElem hlt)
      subst hA
      by_cases hb : n ≤ 16777216
      · have HS : Hid (sumTo (n + decks[i].length) ((decks.drop (i + 1)).map List.length) = sumTo 0 (decks.map List.length)) := Lib.hid (by have := HN.out; rw [hd, sumTo, if_pos hb] at this; exact this)
        clear hd HN
        generalize decks[i] = x at *
        have hb' : ¬ ((16777216 : Int) < (n : Int)) := by omega
        have hl : (decide ((16777216 : Int) < (n : Int))) = false := decide_eq_false hb'
        go_wp2_with (first | (go_at_call 19; refine (long_any n _).mono ?_; rintro e w' ⟨rfl, rfl⟩; rw [hl]))
        exact ⟨⟨i + 1, n + x.length, by omega, by first | rfl | go_num, by first | rfl | go_num, by omega, HS, DD⟩, by simp [intOf]; omega⟩
      · have HS : Hid (n = sumTo 0 (decks.map List.length)) := Lib.hid (by have := HN.out; rw [hd, sumTo, if_neg hb] at this; exact this)
        clear hd HN
        have hl : (decide ((16777216 : Int) < (n : Int))) = true := decide_eq_true (by omega)
        have hl2 : (decide ((16777216 : Int) < ((n + decks.length : Nat) : Int))) = true := decide_eq_true (by omega)
        have HL2 := fun w => long_any (n + decks.length) w
        rw [hl2] at HL2
        go_wp2_with (first | (go_at_call 19; refine (long_any n _).mono ?_; rintro e w' ⟨rfl, rfl⟩; rw [hl]) | (go_at_call 19; refine (HL2 _).mono ?_; rintro e w' ⟨rfl, rfl⟩))
        go_ret
        exact ⟨rfl, DD.out.keeps⟩
    · obtain rfl : i = decks.length := by omega
      have hsm : n = sumTo 0 (decks.map List.length) := by have := HN.out; rw [List.drop_length] at this; simpa [sumTo] using this
      have HL2 := fun w => long_any (n + decks.length) w
      clear HN hlt
      by_cases hq : (16777216 : Int) < ((n + decks.length : Nat) : Int)
      · rw [decide_eq_true hq] at HL2
        clear hsm
        go_wp2_with (first | (go_at_call 19; refine (HL2 _).mono ?_; rintro e w' ⟨rfl, rfl⟩))
        go_ret
        exact ⟨rfl, DD.out.keeps⟩
      rw [decide_eq_false hq] at HL2
      have hnf : n = decks.flatten.length := by
        rw [hsm, sumTo_small _ 0 (by omega), flat_sum]; omega
      have hfl : n ≤ 16777216 := by omega
      have hdl2 : decks.length ≤ 16777216 := by omega
      have HNF := Lib.hid hnf
      clear hsm hq hnf
      go_wp2_with (first | (go_at_call 19; refine (HL2 _).mono ?_; rintro e w' ⟨rfl, rfl⟩))
      clear HL2 p0 p1 p2 g0 g1 g2
      have hro : ∀ d ∈ decks, d.length ≤ 1000000000 := fun d hd => by
        obtain ⟨z, hz⟩ := List.mem_iff_getElem?.1 hd
        have : d.length ≤ decks.flatten.length := by
          conv => rhs; rw [split_at hz]
          simp only [List.flatten_append, List.flatten_cons, List.length_append]; omega
        have := HNF.out
        omega
      have HRO := Lib.hid hro
      clear hro
      go_loopw [5, 6] (fun vc vi wr => ∃ (i : Nat) (cells : List Value) (A' : Option Addr) (c' : Nat), i ≤ decks.length ∧ vi = .int .i64 i ∧ vc = .slice A' i c' ∧ Hid (DecksOwn wr (w.heap.size + 1) (.slice A' i c') (decks.take i) cells) ∧ Hid (DealAt w wr decks A cap life energy)) (fun _ vi _ => decks.length - (intOf vi).toNat)
      case atStart => exact ⟨0, [], none, 0, by omega, rfl, rfl, Lib.hid (DecksOwn.nil _ _), DD⟩
      case round =>
        clear DD
        obtain ⟨i, cells, A', c', hi, rfl, rfl, HO, DD⟩ := hrel
        obtain ⟨p0, p1, p2, g0, g1, g2⟩ := three DD.out.box
        by_cases hlt : i < decks.length
        · have hxi : decks[i]? = some decks[i] := List.getElem?_eq_getElem hlt
          obtain ⟨g, off, Ai, ci, hA, hg, hc, hl2⟩ := DD.out.src i decks[i] hxi
          subst hA
          have hri := HRO.out decks[i] (List.getElem_mem hlt)
          have HS := Lib.hid DD.out.keeps.size
          generalize decks[i] = x at *
          have HXI := Lib.hid hxi
          have HB1 : Hid (w.heap.size + 1 ≤ wr.heap.size) := Lib.hid (Nat.succ_le_of_lt DD.out.box.inside)
          clear hxi
          go_wp2_with fail
          clear p0 p1 p2 g0 g1 g2 hc
          refine (copyCards_any x Ai ci wr (hl2.more HS.out) hri).mono ?_
          rintro e w1 ⟨A1, c1, rfl, ho1, hk1⟩
          have HA : Hid (DecksOwn (w1.alloc (.cells #[.slice A1 x.length c1] 23)) (w.heap.size + 1) (.slice A' i c') (decks.take i) cells) := Lib.hid ((HO.out.keeps hk1 (fun _ _ => id)).keeps ((Keeps.refl (fun _ => False) _).alloc _) (fun _ _ => id))
          have hlen : (decks.take i).length = i := by rw [List.length_take]; omega
          have HA0 : Hid ((w1.alloc (.cells #[.slice A1 x.length c1] 23)).ownsRow (w.heap.size + 1) 23 1 (.slice A' i c') i cells) := Lib.hid (by have := HA.out.own; rwa [hlen] at this)
          have HN : Hid (Lies (w1.alloc (.cells #[.slice A1 x.length c1] 23)) (w1.heap.size + 1) (some ⟨w1.heap.size, 0, none⟩) [.slice A1 x.length c1]) := Lib.hid (Lies.row (fr := (0, 0)) (Whole.made w1 23 #[.slice A1 x.length c1]) (Nat.lt_succ_self _))
          have DD1 := Lib.hid ((DD.out.calm hk1).calm ((Keeps.refl (fun _ => False) w1).alloc (.cells #[.slice A1 x.length c1] 23)))
          have HB : Hid (w.heap.size + 1 ≤ (w1.alloc (.cells #[.slice A1 x.length c1] 23)).heap.size) := Lib.hid (Nat.succ_le_of_lt DD1.out.box.inside)
          have ho2 : (w1.alloc (.cells #[.slice A1 x.length c1] 23)).ownsRow (w.heap.size + 1) 35 6 (.slice A1 x.length c1) x.length (flat Cd.cells x) := (ho1.mono HB1.out).alloc _
          have HO2 := Lib.hid ho2
          clear ho2 ho1 hk1 HO DD hl2
          go_wp2_with (first
            | (at_builtin
               refine wpList_append_cells _ rfl _ _ 46 rfl (w.heap.size + 1) 23 (.slice none 0 0) 1 24 Try.underlying46 info_deck rfl (by decide) (.slice A' i c') i cells rfl HA0.out _ (some ⟨w1.heap.size, 0, none⟩) 1 1 [.slice A1 x.length c1] rfl HN.out rfl (fun u hu => by obtain rfl : u = _ := List.mem_singleton.1 hu; rfl) (by simp only [maxLen]; omega) (by omega) HB.out ?_
               intro A2 c2 w2 hown hg2 _ _ _))
          have hp := HA.out.push HO2.out hg2 (A2 := A2) (c2 := c2) (by rw [hlen]; exact hown)
          have ht : decks.take i ++ [x] = decks.take (i + 1) := by rw [List.take_add_one, HXI.out]; rfl
          rw [ht, show (decks.take (i + 1)).length = i + 1 by rw [List.length_take]; omega] at hp
          have kg : Keeps (fun b => w.heap.size + 1 ≤ b) (w1.alloc (.cells #[.slice A1 x.length c1] 23)) w2 := (Keeps.refl _ _).grown hg2 (fun k hk _ => (HA0.out.lt k hk).1)
          exact ⟨⟨i + 1, _, A2, c2, by omega, by first | rfl | go_num, rfl, Lib.hid hp, Lib.hid ⟨DD1.out.keeps.and kg (fun k hk h => by omega), DD1.out.box.keeps kg (by omega), DD1.out.src.keeps kg (fun b hb h => by omega) DD1.out.keeps.size⟩⟩, by simp [intOf]; omega⟩
        · obtain rfl : i = decks.length := by omega
          have HO' := HO.out
          rw [List.take_length] at HO'
          have HD := Lib.hid HO'.lie
          clear HO HO' hlt
          go_wp2_with fail
          clear p0 p1 p2 g0 g1 g2
          refine (new_any decks life energy A' wr.heap.size c' wr HD.out (Nat.le_refl _) (by omega) HRO.out).mono ?_
          rintro e w1 hT
          obtain ⟨hT1, hT2, k1⟩ := hT
          have D1 := Lib.hid (DD.out.calm k1)
          clear DD HD k1
          cases hok : newOk decks life energy
          · obtain rfl := hT1 hok
            clear hT1 hT2
            have hz : stV stZero none none none 0 0 0 = .agg #[.slice none 0 0, .slice none 0 0, .slice none 0 0, .int .i32 0, .int .i64 0, .int .i8 0, .int .i64 0] := rfl
            rw [hz]
            have hzl : ∀ W : World, StIn W W.heap.size stZero none none none := fun W => ⟨FLies.nil, FLies.nil, RowsLie.nil⟩
            have HEQ := fun W => eqState_any stZero stZero none none none none none none W.heap.size 0 0 0 0 0 0 W (hzl W) (hzl W) (Nat.le_refl _) ⟨by decide, by decide, by decide, fun r hr => by cases hr⟩
            rw [hz, decide_eq_true (rfl : stZero = stZero)] at HEQ
            go_wp2_with fail
            refine (HEQ _).mono ?_
            rintro e w2 ⟨rfl, k2⟩
            have K2 := Lib.hid ((D1.out.keeps.alloc _).trans k2)
            clear HEQ hzl D1 k2
            go_wp2_with fail
            refine (works_any w2).mono ?_
            rintro e w3 ⟨rfl, k3⟩
            have K3 := Lib.hid (K2.out.trans k3)
            clear K2 k3
            go_wp2_with fail
            go_ret
            exact ⟨rfl, K3.out⟩
          · obtain ⟨Ap, Ac, Az, cp, cc, cz, scells, rfl, hC⟩ := hT2 hok
            clear hT1 hT2
            have hm := begins_may hok
            have hcn : (newCards 0 decks).length = n := by rw [newCards_length, HNF.out]
            have hst : ∀ Ap Ac Az cp cc cz, stV (newS decks life energy) Ap Ac Az cp cc cz = .agg #[.slice Ap decks.length cp, .slice Ac n cc, .slice Az (4 * decks.length) cz, .int .i32 1, .int .i64 0, .int .i8 0, .int .i64 0] := fun Ap Ac Az cp cc cz => by rw [stV_new, hcn]
            have SM := Lib.hid (new_small hok)
            have HCP := fun (W : World) (Ap Ac Az : Option Addr) (cp cc cz : Nat) (h : StIn W W.heap.size (newS decks life energy) Ap Ac Az) => copyState_any (newS decks life energy) Ap Ac Az W.heap.size cp cc cz W h (Nat.le_refl _) SM.out
            have HCK := fun (W : World) (Ap Ac Az : Option Addr) (cp cc cz : Nat) (h : StIn W W.heap.size (newS decks life energy) Ap Ac Az) => check_any (newS decks life energy) Ap Ac Az W.heap.size cp cc cz W h (Nat.le_refl _) SM.out
            have HWH := fun (c : Int) (W : World) (Ap Ac Az : Option Addr) (cp cc cz : Nat) (h : StIn W W.heap.size (newS decks life energy) Ap Ac Az) => where_any (newS decks life energy) c Ap Ac Az W.heap.size cp cc cz W h (Nat.le_refl _) SM.out
            have HSC := fun (W : World) (Ap Ac Az : Option Addr) (cp cc cz : Nat) (h : StIn W W.heap.size (newS decks life energy) Ap Ac Az) => stCopy_any (newS decks life energy) Ap Ac Az cp cc cz W h SM.out
            have HSM := fun (W : World) (Ap Ac Az Ap' Ac' Az' : Option Addr) (cp cc cz cp' cc' cz' : Nat) (h : StIn W W.heap.size (newS decks life energy) Ap Ac Az) (h' : StIn W W.heap.size (newS decks life energy) Ap' Ac' Az') => same_any (newS decks life energy) (newS decks life energy) Ap Ac Az Ap' Ac' Az' W.heap.size cp cc cz cp' cc' cz' W h h' (Nat.le_refl _) SM.out
            simp only [hst, check_ok hm, decide_eq_true] at HCP HCK HWH HSC HSM
            rw [hst]
            have E0 : Hid (BegAt w (w1.alloc (.cells #[.slice Ap decks.length cp, .slice Ac n cc, .slice Az (4 * decks.length) cz, .int .i32 1, .int .i64 0, .int .i8 0, .int .i64 0] 27)) decks A cap life energy Ap Ac Az cp cc cz w1.heap.size n) := Lib.hid ⟨D1.out.calm ((Keeps.refl _ w1).alloc _), Whole.made w1 _ _, hC.lies.past ((Keeps.refl (fun _ => False) w1).alloc _)⟩
            have HBW := Lib.hid (begins_where hok)
            rw [hcn] at HBW
            clear D1 hC hst
            go_wp2_with fail
            generalize w1.alloc (.cells #[.slice Ap decks.length cp, .slice Ac n cc, .slice Az (4 * decks.length) cz, .int .i32 1, .int .i64 0, .int .i8 0, .int .i64 0] 27) = v0 at *
            generalize w1.heap.size = gs at *
            refine (HCP v0 _ _ _ _ _ _ E0.out.lies).mono ?_
            rintro e w2 ⟨Aq, Ad, Ay, cq, cd, cy, qcells, rfl, hQ, k2⟩
            have Q2 := Lib.hid hQ.lies
            have E2 := Lib.hid (E0.out.calm k2)
            clear E0 hQ k2
            go_wp2_with fail
            refine (HCK w2 _ _ _ _ _ _ Q2.out).mono ?_
            rintro e w3 ⟨rfl, k3⟩
            have E3 := Lib.hid (E2.out.calm k3)
            clear E2 Q2 k3
            obtain ⟨a0, a1, a2, a3, a4, a5, a6, f0, f1, f2, f3, f4, f5, f6⟩ := seven E3.out.sbox
            obtain ⟨p0, p1, p2, g0, g1, g2⟩ := three E3.out.deal.box
            go_wp2_with fail
            clear a0 a1 a2 a3 a4 a5 a6 f0 f1 f2 f3 f4 f5 f6 p0 p1 p2 g0 g1 g2
            go_loopw [11] (fun vi wr => ∃ i : Nat, i ≤ n ∧ vi = .int .i64 i ∧ Hid (BegAt w wr decks A cap life energy Ap Ac Az cp cc cz gs n)) (fun vi _ => n - (intOf vi).toNat)
            case atStart => exact ⟨0, by omega, rfl, E3⟩
            case round =>
              clear E3
              obtain ⟨i, hi, rfl, EE⟩ := hrel
              obtain ⟨a0, a1, a2, a3, a4, a5, a6, f0, f1, f2, f3, f4, f5, f6⟩ := seven EE.out.sbox
              by_cases hlt : i < n
              · obtain ⟨c, z, j, hci, hw, hz, hc0, hc4⟩ := HBW.out i hlt
                have HZ := Lib.hid hz
                have HCI := Lib.hid hci
                have HW := HWH (i : Int)
                rw [hw, show whereV (some (z, j)) = .tuple #[.int .i64 (z : Int), .int .i64 (j : Int), .bool true] from rfl] at HW
                clear hw hz hci
                go_wp2_with fail
                clear a0 a1 a2 a3 a4 a5 a6 f0 f1 f2 f3 f4 f5 f6
                refine (HCP wr _ _ _ _ _ _ EE.out.lies).mono ?_
                rintro e w4 ⟨Aq, Ad, Ay, cq, cd, cy, qcells, rfl, hQ, k4⟩
                have Q4 := Lib.hid hQ.lies
                have E4 := Lib.hid (EE.out.calm k4)
                clear EE hQ k4
                go_wp2_with fail
                refine (HW w4 _ _ _ _ _ _ Q4.out).mono ?_
                rintro e w5 ⟨rfl, k5⟩
                have E5 := Lib.hid (E4.out.calm k5)
                clear E4 Q4 k5 HW
                obtain ⟨a0, a1, a2, a3, a4, a5, a6, f0, f1, f2, f3, f4, f5, f6⟩ := seven E5.out.sbox
                obtain ⟨g, off, hA, _, l0, l1, l2, l3, l4, l5⟩ := CdLies.cells E5.out.lies.cards i c HCI.out
                subst hA
                have q1 : ((z : Int) != 4 * c.owner) = false := by rw [HZ.out]; simp
                go_wp2_with fail
                exact ⟨⟨i + 1, by omega, by first | rfl | go_num, E5⟩, by simp [intOf]; omega⟩
              · obtain rfl : i = n := by omega
                go_wp2_with fail
                clear a0 a1 a2 a3 a4 a5 a6 f0 f1 f2 f3 f4 f5 f6
                refine (HCP wr _ _ _ _ _ _ EE.out.lies).mono ?_
                rintro e w4 ⟨Aq, Ad, Ay, cq, cd, cy, qcells, rfl, hQ, k4⟩
                have Q4 := Lib.hid hQ.lies
                have E4 := Lib.hid (EE.out.calm k4)
                clear EE hQ k4 HWH HBW
                go_wp2_with fail
                refine (HSC w4 _ _ _ _ _ _ Q4.out).mono ?_
                rintro e w5 ⟨Br, Bd, Be, br, bd, be, bcells, rfl, hB, k5⟩
                have ka : Keeps (fun _ => False) w5 (w5.alloc (.cells #[.slice Br decks.length br, .slice Bd i bd, .slice Be (4 * decks.length) be, .int .i32 1, .int .i64 0, .int .i8 0, .int .i64 0] 27)) := (Keeps.refl _ w5).alloc _
                have E5 := Lib.hid ((E4.out.calm k5).calm ka)
                have X5 := Lib.hid (Whole.made w5 27 #[.slice Br decks.length br, .slice Bd i bd, .slice Be (4 * decks.length) be, .int .i32 1, .int .i64 0, .int .i8 0, .int .i64 0])
                have Y5 := Lib.hid (hB.lies.past ka)
                clear E4 Q4 k5 hB ka HSC
                go_wp2_with fail
                generalize w5.alloc (.cells #[.slice Br decks.length br, .slice Bd i bd, .slice Be (4 * decks.length) be, .int .i32 1, .int .i64 0, .int .i8 0, .int .i64 0] 27) = v5 at *
                generalize w5.heap.size = gc at *
                refine (HCP v5 _ _ _ _ _ _ Y5.out).mono ?_
                rintro e w6 ⟨Cq, Cd', Ce, cq', cd', ce', ccells, rfl, hC, k6⟩
                have Q6 := Lib.hid hC.lies
                have E6 := Lib.hid (E5.out.calm k6)
                have X6 := Lib.hid (X5.out.keeps k6 id)
                have Y6 := Lib.hid (Y5.out.past k6)
                clear E5 X5 Y5 hC k6 HCP
                go_wp2_with fail
                refine (HCK w6 _ _ _ _ _ _ Q6.out).mono ?_
                rintro e w7 ⟨rfl, k7⟩
                have E7 := Lib.hid (E6.out.calm k7)
                have X7 := Lib.hid (X6.out.keeps k7 id)
                have Y7 := Lib.hid (Y6.out.past k7)
                clear E6 X6 Y6 Q6 k7 HCK
                obtain ⟨a0, a1, a2, a3, a4, a5, a6, f0, f1, f2, f3, f4, f5, f6⟩ := seven E7.out.sbox
                obtain ⟨b0, b1, b2, b3, b4, b5, b6, e0, e1, e2, e3, e4, e5, e6⟩ := seven X7.out
                go_wp2_with fail
                clear a0 a1 a2 a3 a4 a5 a6 f0 f1 f2 f3 f4 f5 f6 b0 b1 b2 b3 b4 b5 b6 e0 e1 e2 e3 e4 e5 e6
                refine (HSM w7 _ _ _ _ _ _ _ _ _ _ _ _ Y7.out E7.out.lies).mono ?_
                rintro e w8 ⟨rfl, k8⟩
                have K8 := Lib.hid (E7.out.deal.keeps.trans k8)
                clear E7 X7 Y7 k8 HSM
                go_wp2_with fail
                refine (works_any w8).mono ?_
                rintro e w9 ⟨rfl, k9⟩
                have K9 := Lib.hid (K8.out.trans k9)
                clear K8 k9
                go_wp2_with fail
                go_ret
                exact ⟨rfl, K9.out⟩
end Go.Proofs.Ytgbikcliembkcaa
