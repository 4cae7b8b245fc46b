/-
  The walk of the law SumsFinds: it returns true for all b, t. Conditions: none.
-/
import Derived.Test.YtcdolkifahlakaaFoundA
namespace Go.Proofs.Ytcdolkifahlakaa
open Go.RowKit Crc

theorem belowE {w w1 w2 : World} {g : Nat} (e : w.heap.size = g) (h : Below g w w1) (h' : Below w1.heap.size w1 w2) : Below g w w2 := h.trans (h'.mono (e ▸ h.size))
/-- The whole text, turned, is not what its beginning lays. -/
theorem laid_other {b y : List Byte} {p : Nat} (hyl : y.length = (laidL b).length) (hw : ∀ m, dbit (laidL b) y m = true → p ≤ m ∧ m < p + 32) (hne : laidL b ≠ y) : laidL (y.take b.length) ≠ y := by
  intro e
  apply hne
  refine told_apart _ _ (~~~ 0#32) p hyl.symm hw ?_
  rw [run_laid, ← e, run_laid]
theorem crc_told {b y : List Byte} {p : Nat} (hyl : y.length = b.length) (hw : ∀ m, dbit b y m = true → p ≤ m ∧ m < p + 32) (h : crc y = crc b) : y = b := by
  refine (told_apart _ _ (~~~ 0#32) p hyl.symm hw ?_).symm
  unfold crc goOn at h
  have := congrArg (fun x => ~~~ x) h
  simp only [BitVec.not_not] at this
  exact this.symm
theorem wn_inj {x y : W} (h : wn x = wn y) : x = y := BitVec.eq_of_toNat_eq (by unfold wn at h; omega)

set_option maxHeartbeats 2000000 in
set_option maxRecDepth 20000 in
theorem sumsFinds_any (b : List Byte) (z : Int) (T : W) (A : Option Addr) (cap : Nat) (w : World) (hl : Lies w w.heap.size A (bytesV b)) (hm : b.length ≤ 140737488351232) :
    Calls Try.prog 6 #[.slice A b.length cap, .agg #[.int .i64 z, .int .u32 (wn T)]] w fun e w' => e = .returned (.bool true) ∧ Below w.heap.size w w' := by
  by_cases hlong : 16777216 < b.length + 4
  · go_enter Try.func6, Try.ntmps6
    go_wp2
    go_ret
    exact ⟨rfl, (Below.refl _ _).alloc (Nat.le_refl _) _⟩
  have hcl : wn (crc (laidL b)) = 558161692 := by rw [crc_laid]; rfl
  have hxl := laidL_length b
  have HX : Hid ((laidL b).length = b.length + 4) := Lib.hid hxl
  have hx0 : 0 < (laidL b).length := by omega
  have hx1 : (laidL b).length ≤ 16777220 := by omega
  clear hxl
  go_enter Try.func6, Try.ntmps6
  go_wp2_with (go_at_call 9; go_in)
  have hT0 : Whole (w.alloc (.cells #[.int .i64 z, .int .u32 (wn T)] 38)) w.heap.size 38 #[.int .i64 z, .int .u32 (wn T)] := Whole.made _ _ _
  have hB0 : Below w.heap.size w (w.alloc (.cells #[.int .i64 z, .int .u32 (wn T)] 38)) := (Below.refl _ _).alloc (Nat.le_refl _) _
  have hS : (Try.prog.info? 38).map (·.size) = some (#[Value.int .i64 z, .int .u32 (wn T)]).size := by kernel_rfl
  have hB0s := hB0.size
  generalize w.alloc (.cells #[.int .i64 z, .int .u32 (wn T)] 38) = w0 at *
  have hgT : Hid (w.heap.size ≤ w.heap.size) := Lib.hid (Nat.le_refl _)
  refine (laid_any b A _ cap w0 (hl.below hB0) hB0s (by omega)).mono ?_
  rintro e w1 ⟨A1, cap1, rfl, hown1, hc1, hb1⟩
  have hB1 := belowThen' hB0 hb1
  have hT1 := hT0.past hb1
  have hx1' := own_lies hown1
  clear hown1 hb1 hT0 hB0 hB0s
  generalize hgTe : w.heap.size = gT at *
  clear hgT
  go_wp2_with fail
  refine (copyBytes_any (laidL b) A1 _ cap1 w1 hx1' (by omega)).mono ?_
  rintro e w2 ⟨A2, cap2, rfl, hown2, _, hb2⟩
  have hl2 := own_lies hown2
  have hx2 := hx1'.past hb2
  have hT2 := hT1.past hb2
  have hB2 := belowE hgTe hB1 hb2
  clear hown2 hb2 hx1' hB1 hT1
  go_wp2_with fail
  refine (crc_any (laidL b) A2 _ cap2 w2 hl2 (Nat.le_refl _) (by omega)).mono ?_
  rintro e w3 ⟨rfl, hb3⟩
  have hx3 := hx2.past hb3
  have hB3 := belowE hgTe hB2 hb3
  have hT3 := hT2.past hb3
  clear hl2 hb3 hx2 hB2 hT2
  replace hS := Lib.hid hS
  go_wp2_with (first
    | refine wpList_load_whole rfl 38 _ rfl gT rfl 38 #[.int .i64 z, .int .u32 (wn T)] _ hT3 Try.underlying38 rfl hS.out ?_)
  refine (turn_any (laidL b) z T hx0 A1 _ cap1 w3 hx3 (Nat.le_refl _) hx1).mono ?_
  rintro e w4 ⟨A4, cap4, p, K, rfl, hown4, hpK, hK, hb4⟩
  have hy4 := own_lies hown4
  have hx4 := hx3.past hb4
  have hB4 := belowE hgTe hB3 hb4
  have hT4 := hT3.past hb4
  have hyl : (turnTo (laidL b) p T K).length = (laidL b).length := turnTo_length _ _ _ _
  have hwin : ∀ m, dbit (laidL b) (turnTo (laidL b) p T K) m = true → p ≤ m ∧ m < p + 32 := fun m h => by
    have := turnTo_window (laidL b) p T K hpK m h
    omega
  have hbw := burst_window (laidL b) (turnTo (laidL b) p T K) p hyl.symm hwin
  have hoth : Hid (laidL b ≠ turnTo (laidL b) p T K → laidL ((turnTo (laidL b) p T K).take b.length) ≠ turnTo (laidL b) p T K) := Lib.hid (laid_other hyl hwin)
  obtain ⟨gy, csy, rfl, -, -, -, hcapy, -⟩ := own_whole hown4 (by omega)
  clear hown4 hb4 hx3 hB3 hT3 hwin hpK
  generalize turnTo (laidL b) p T K = y at *
  have hyb : y.length ≤ 16777220 := by omega
  have hyb4 : b.length + 4 ≤ y.length := by have := HX.out; omega
  clear hyl
  obtain ⟨hbn0, hbn1, hbn2⟩ := hbw
  have HB2 := Lib.hid hbn2
  clear hbn2
  go_wp2_with fail
  refine (copyBytes_any (laidL b) A1 _ cap1 w4 hx4 (by omega)).mono ?_
  rintro e w5 ⟨A5, cap5, rfl, hown5, _, hb5⟩
  have hl5 := own_lies hown5
  have hx5 := hx4.past hb5
  have hy5 := hy4.past hb5
  have hT5 := hT4.past hb5
  have hB5 := belowE hgTe hB4 hb5
  clear hown5 hb5 hx4 hy4 hT4 hB4
  go_wp2_with fail
  refine (copyBytes_any y _ _ cap4 w5 hy5 (by omega)).mono ?_
  rintro e w6 ⟨A6, cap6, rfl, hown6, _, hb6⟩
  have hm6 := own_lies hown6
  have hl6 := hl5.past hb6
  have hx6 := hx5.past hb6
  have hy6 := hy5.past hb6
  have hT6 := hT5.past hb6
  have hB6 := belowE hgTe hB5 hb6
  clear hown6 hb6 hx5 hy5 hT5 hB5 hl5
  go_wp2_with fail
  refine (burst_any (laidL b) y A5 A6 _ _ cap5 cap6 w6 hl6 hm6 (by omega)).mono ?_
  rintro e w7 ⟨rfl, hb7⟩
  have hx7 := hx6.past hb7
  have hy7 := hy6.past hb7
  have hT7 := hT6.past hb7
  have hB7 := belowE hgTe hB6 hb7
  clear hb7 hx6 hy6 hT6 hB6 hl6 hm6
  generalize (burst (laidL b) y).1 = f at *
  generalize (burst (laidL b) y).2 = n at *
  by_cases hxy : laidL b = y
  · have hn0 : n = 0 := HB2.out.2 hxy
    have hd := Lib.hid (decide_eq_true hxy : decide (laidL b = y) = true)
    have HXY := Lib.hid hxy
    clear hxy
    subst hn0
    go_wp2_with fail
    refine (eqBytes_any (laidL b) y A1 _ _ _ cap1 cap4 w7 hx7 hy7 (by omega)).mono ?_
    rintro e w8 ⟨rfl, hb8⟩
    rw [hd.out]
    have hBy := belowE hgTe hB7 hb8
    have hTy := hT7.past hb8
    clear hb8 hx7 hy7 hT7 hB7
    by_cases hb0 : b.length = 0
    · go_wp2_with fail
      refine (works_any _).mono ?_
      rintro e w20 ⟨rfl, hb20⟩
      go_wp2
      go_ret
      exact ⟨rfl, by rw [hgTe]; exact belowE hgTe hBy hb20⟩
    · have hbp : 0 < b.length := by omega
      have hb2 : ((b.length : Int) == 0) = false := beq_eq_false_iff_ne.2 (by omega)
      clear hb0
      go_wp2_with (first
        | refine wpList_load_whole rfl 38 _ rfl gT rfl 38 #[.int .i64 z, .int .u32 (wn T)] _ hTy Try.underlying38 rfl hS.out ?_)
      refine (turn_any b z T hbp A _ cap _ ((hl.below hBy).more (hgTe ▸ hBy.size)) (Nat.le_refl _) (by omega)).mono ?_
      rintro e w10 ⟨A10, cap10, q, J, rfl, hown10, hqJ, hJ, hb10⟩
      have hn10 := own_lies hown10
      have hB10 := belowE hgTe hBy hb10
      have hnl : (turnTo b q T J).length = b.length := turnTo_length _ _ _ _
      have hnw : ∀ m, dbit b (turnTo b q T J) m = true → q ≤ m ∧ m < q + 32 := fun m h => by
        have := turnTo_window b q T J hqJ m h
        omega
      have htold : Hid (crc (turnTo b q T J) = crc b → turnTo b q T J = b) := Lib.hid (crc_told hnl hnw)
      have hnb : (turnTo b q T J).length ≤ 16777220 := by omega
      clear hown10 hb10 hnw hBy hTy hnl
      generalize turnTo b q T J = now at *
      go_wp2_with fail
      refine (eqBytes_any now b A10 A _ _ cap10 cap w10 hn10 (hl.below hB10) (by omega)).mono ?_
      rintro e w11 ⟨rfl, hb11⟩
      have hn11 := hn10.past hb11
      have hB11 := belowE hgTe hB10 hb11
      clear hn10 hb11 hB10
      go_wp2_with fail
      refine (crc_any now A10 _ cap10 w11 hn11 (Nat.le_refl _) (by omega)).mono ?_
      rintro e w12 ⟨rfl, hb12⟩
      have hB12 := belowE hgTe hB11 hb12
      clear hn11 hb12 hB11
      go_wp2_with fail
      refine (copyBytes_any b A _ cap w12 (hl.below hB12) (by omega)).mono ?_
      rintro e w13 ⟨A13, cap13, rfl, hown13, _, hb13⟩
      have hl13 := own_lies hown13
      have hB13 := belowE hgTe hB12 hb13
      clear hown13 hb13 hB12
      go_wp2_with fail
      refine (crc_any b A13 _ cap13 w13 hl13 (Nat.le_refl _) (by omega)).mono ?_
      rintro e w14 ⟨rfl, hb14⟩
      have hB14 := belowE hgTe hB13 hb14
      clear hl13 hb14 hB13
      have hsame : (decide (now = b) == (wn (crc now) == wn (crc b))) = true := by
        by_cases e : now = b
        · subst e; simp
        · have : wn (crc now) ≠ wn (crc b) := fun h => e (htold.out (wn_inj h))
          rw [decide_eq_false e, beq_eq_false_iff_ne.2 this]; rfl
      go_wp2_with fail
      refine (works_any _).mono ?_
      rintro e w20 ⟨rfl, hb20⟩
      go_wp2
      go_ret
      exact ⟨rfl, by rw [hgTe]; exact belowE hgTe hB14 hb20⟩
  · have hn0 : n ≠ 0 := fun h => hxy (HB2.out.1 h)
    have hn1 : (n == 0) = false := beq_eq_false_iff_ne.2 hn0
    have hd := Lib.hid (decide_eq_false hxy : decide (laidL b = y) = false)
    have hoth' := Lib.hid (hoth.out hxy)
    have hpos : 0 < n := by omega
    have hlt0 : (n < 0) = False := eq_false (by omega)
    have hlt1 : (32 < n) = False := eq_false (by omega)
    have HXY := Lib.hid hxy
    clear hxy hn0
    go_wp2_with fail
    refine (eqBytes_any (laidL b) y A1 _ _ _ cap1 cap4 w7 hx7 hy7 (by omega)).mono ?_
    rintro e w8 ⟨rfl, hb8⟩
    rw [hd.out]
    have hy8 := hy7.past hb8
    have hB8 := belowE hgTe hB7 hb8
    have hT8 := hT7.past hb8
    clear hb8 hx7 hy7 hT7 hB7
    have hlt : (y.take b.length).length = b.length := by rw [List.length_take]; omega
    have hyt : Lies w8 w8.heap.size (some ⟨gy, 0, none⟩) (bytesV (y.take b.length)) := by
      have hb : bytesV y = bytesV (y.take b.length) ++ bytesV (y.drop b.length) := by rw [← bytesV_append, List.take_append_drop]
      intro k u hu
      refine hy8 k u ?_
      rw [hb, List.getElem?_append_left]
      · exact hu
      · rcases Nat.lt_or_ge k (bytesV (y.take b.length)).length with h | h
        · exact h
        · rw [List.getElem?_eq_none h] at hu; cases hu
    have hbl : b.length ≤ cap4 := by omega
    have LL := laid_any (y.take b.length) (some ⟨gy, 0, none⟩) _ cap4 w8 hyt (Nat.le_refl _) (by omega)
    rw [hlt] at LL
    go_wp2_with fail
    refine LL.mono ?_
    clear LL
    rintro e w9 ⟨A9, cap9, rfl, hown9, _, hb9⟩
    have hl9 := own_lies hown9
    have hy9 := hy8.past hb9
    have hB9 := belowE hgTe hB8 hb9
    have hT9 := hT8.past hb9
    have hlo := Lib.hid (decide_eq_false hoth'.out : decide (laidL (y.take b.length) = y) = false)
    have hll : (laidL (y.take b.length)).length ≤ 9223372036854775807 := by rw [laidL_length, hlt]; omega
    clear hown9 hb9 hy8 hB8 hT8 hyt
    go_wp2_with fail
    refine (eqBytes_any (laidL (y.take b.length)) y A9 _ _ _ cap9 cap4 w9 hl9 hy9 hll).mono ?_
    rintro e w9' ⟨rfl, hb9'⟩
    rw [hlo.out]
    have hBy := belowE hgTe hB9 hb9'
    have hTy := hT9.past hb9'
    clear hb9' hl9 hy9 hB9 hT9
    by_cases hb0 : b.length = 0
    · go_wp2_with fail
      refine (works_any _).mono ?_
      rintro e w20 ⟨rfl, hb20⟩
      go_wp2
      go_ret
      exact ⟨rfl, by rw [hgTe]; exact belowE hgTe hBy hb20⟩
    · have hbp : 0 < b.length := by omega
      have hb2 : ((b.length : Int) == 0) = false := beq_eq_false_iff_ne.2 (by omega)
      clear hb0
      go_wp2_with (first
        | refine wpList_load_whole rfl 38 _ rfl gT rfl 38 #[.int .i64 z, .int .u32 (wn T)] _ hTy Try.underlying38 rfl hS.out ?_)
      refine (turn_any b z T hbp A _ cap _ ((hl.below hBy).more (hgTe ▸ hBy.size)) (Nat.le_refl _) (by omega)).mono ?_
      rintro e w10 ⟨A10, cap10, q, J, rfl, hown10, hqJ, hJ, hb10⟩
      have hn10 := own_lies hown10
      have hB10 := belowE hgTe hBy hb10
      have hnl : (turnTo b q T J).length = b.length := turnTo_length _ _ _ _
      have hnw : ∀ m, dbit b (turnTo b q T J) m = true → q ≤ m ∧ m < q + 32 := fun m h => by
        have := turnTo_window b q T J hqJ m h
        omega
      have htold : Hid (crc (turnTo b q T J) = crc b → turnTo b q T J = b) := Lib.hid (crc_told hnl hnw)
      have hnb : (turnTo b q T J).length ≤ 16777220 := by omega
      clear hown10 hb10 hnw hBy hTy hnl
      generalize turnTo b q T J = now at *
      go_wp2_with fail
      refine (eqBytes_any now b A10 A _ _ cap10 cap w10 hn10 (hl.below hB10) (by omega)).mono ?_
      rintro e w11 ⟨rfl, hb11⟩
      have hn11 := hn10.past hb11
      have hB11 := belowE hgTe hB10 hb11
      clear hn10 hb11 hB10
      go_wp2_with fail
      refine (crc_any now A10 _ cap10 w11 hn11 (Nat.le_refl _) (by omega)).mono ?_
      rintro e w12 ⟨rfl, hb12⟩
      have hB12 := belowE hgTe hB11 hb12
      clear hn11 hb12 hB11
      go_wp2_with fail
      refine (copyBytes_any b A _ cap w12 (hl.below hB12) (by omega)).mono ?_
      rintro e w13 ⟨A13, cap13, rfl, hown13, _, hb13⟩
      have hl13 := own_lies hown13
      have hB13 := belowE hgTe hB12 hb13
      clear hown13 hb13 hB12
      go_wp2_with fail
      refine (crc_any b A13 _ cap13 w13 hl13 (Nat.le_refl _) (by omega)).mono ?_
      rintro e w14 ⟨rfl, hb14⟩
      have hB14 := belowE hgTe hB13 hb14
      clear hl13 hb14 hB13
      have hsame : (decide (now = b) == (wn (crc now) == wn (crc b))) = true := by
        by_cases e : now = b
        · subst e; simp
        · have : wn (crc now) ≠ wn (crc b) := fun h => e (htold.out (wn_inj h))
          rw [decide_eq_false e, beq_eq_false_iff_ne.2 this]; rfl
      go_wp2_with fail
      refine (works_any _).mono ?_
      rintro e w20 ⟨rfl, hb20⟩
      go_wp2
      go_ret
      exact ⟨rfl, by rw [hgTe]; exact belowE hgTe hB14 hb20⟩
end Go.Proofs.Ytcdolkifahlakaa
