/-
  The walk of the law SumsGoes: it returns true for all a, b, c. Conditions: none.
-/
import Derived.Test.YtcdolkifahlakaaSumsC
import Derived.Test.YtcdolkifahlakaaSumsD
namespace Go.Proofs.Ytcdolkifahlakaa
open Go.RowKit Crc

theorem joined_any (a b : List Byte) (A A' : Option Addr) (B cap cap' : Nat) (w : World) (hl : Lies w B A (bytesV a)) (hl' : Lies w B A' (bytesV b)) (hB : B ≤ w.heap.size) (hm : a.length + b.length ≤ 140737488351232) :
    Calls Try.prog 27 #[.slice A a.length cap, .slice A' b.length cap'] w fun e w' => ∃ A2 cap2, e = .returned (.slice A2 (a.length + b.length) cap2) ∧ w'.ownsRow w.heap.size 5 1 (.slice A2 (a.length + b.length) cap2) (a.length + b.length) (bytesV (a ++ b)) ∧ Below w.heap.size w w' := by
  go_enter Try.func27, Try.ntmps27
  go_wp2_with (first
    | (at_builtin
       refine wpList_append_lies _ rfl (.tmp 6) (.tmp 7) 22 rfl w.heap.size 5 (.int .u8 0) 1 Try.underlying22 info_u8 rfl (.slice none 0 0) 0 [] rfl (World.ownsRow_nil _ _ _ _) B A a.length cap (bytesV a) rfl hl (bytesV_length a) (by simp [bytesV, byteV]; intros; rfl) (by simp only [maxLen]; omega) (by omega) (Nat.le_refl _) ?_
       intro A1 cap1 w1 hown hg hat hc
       simp only [Nat.zero_add, List.nil_append] at hown hc hat
       have hb1 : Below w.heap.size w w1 := (Below.refl _ _).grown hg (Nat.le_refl _) (by simp [Value.ownBlock]))
    | (at_builtin
       refine wpList_append_lies _ rfl (.tmp 9) (.tmp 10) 22 rfl w.heap.size 5 (.int .u8 0) 1 Try.underlying22 info_u8 rfl (.slice A1 a.length cap1) a.length (bytesV a) rfl hown B A' b.length cap' (bytesV b) rfl (hl'.below (hb1.mono hB)) (bytesV_length b) (by simp [bytesV, byteV]; intros; rfl) (by simp only [maxLen]; omega) (by omega) hb1.size ?_
       intro A2 cap2 w2 hown2 hg2 hat2 hc2))
  go_ret
  refine ⟨A2, cap2, rfl, by rw [bytesV_append]; exact hown2, hb1.grown hg2 hb1.size ?_⟩
  intro g hgq
  exact (hown.lt g hgq).1

theorem not_lit (x : W) : bits .xor .u32 (wn x) 4294967295 = wn (~~~x) := not_nat x

set_option maxHeartbeats 2000000 in
set_option maxRecDepth 100000 in
theorem sumsGoes_any (a b c : List Byte) (A A' A'' : Option Addr) (cap cap' cap'' : Nat) (w : World) (hla : Lies w w.heap.size A (bytesV a)) (hlb : Lies w w.heap.size A' (bytesV b)) (hlc : Lies w w.heap.size A'' (bytesV c))
    (hma : a.length ≤ 140737488351232) (hmb : b.length ≤ 140737488351232) (hmc : c.length ≤ 140737488351232) :
    Calls Try.prog 8 #[.slice A a.length cap, .slice A' b.length cap', .slice A'' c.length cap''] w fun e w' => e = .returned (.bool true) ∧ Below w.heap.size w w' := by
  by_cases hlong : 16777216 < a.length + b.length + c.length
  · have hl : (16777216 : Int) < (a.length : Int) + (b.length : Int) + (c.length : Int) := by omega
    go_enter Try.func8, Try.ntmps8
    go_wp2
    go_ret
    exact ⟨rfl, Below.refl _ _⟩
  have hn : ¬ (16777216 : Int) < (a.length : Int) + (b.length : Int) + (c.length : Int) := by omega
  have j1 : Hid (join (crc a) (crc b) b.length = crc (a ++ b)) := Lib.hid (by rw [join_crc]; unfold crc; rw [goOn_append])
  have g1 : Hid (goOn (crc a) b = crc (a ++ b)) := Lib.hid (by unfold crc; rw [goOn_append])
  have j2 : Hid (join (crc (a ++ b)) (crc c) c.length = crc ((a ++ b) ++ c)) := Lib.hid (by rw [join_crc]; unfold crc; rw [← goOn_append])
  have j3 : Hid (join (crc a) (join (crc b) (crc c) c.length) (b.length + c.length) = crc ((a ++ b) ++ c)) := Lib.hid (by rw [← join_assoc, j1.out, j2.out])
  have J1 : Hid (∀ w, Calls Try.prog 25 #[.int .u32 (wn (crc a)), .int .u32 (wn (crc b)), .int .i64 (b.length : Int)] w fun e w' => e = .returned (.int .u32 (wn (crc (a ++ b)))) ∧ w = w') :=
    Lib.hid (fun w => by have := join_any (crc a) (crc b) b.length (by omega) w; rw [j1.out] at this; exact this)
  have J2 : Hid (∀ w, Calls Try.prog 25 #[.int .u32 (wn (crc (a ++ b))), .int .u32 (wn (crc c)), .int .i64 (c.length : Int)] w fun e w' => e = .returned (.int .u32 (wn (crc ((a ++ b) ++ c)))) ∧ w = w') :=
    Lib.hid (fun w => by have := join_any (crc (a ++ b)) (crc c) c.length (by omega) w; rw [j2.out] at this; exact this)
  have J3 : Hid (∀ w, Calls Try.prog 25 #[.int .u32 (wn (crc a)), .int .u32 (wn (join (crc b) (crc c) c.length)), .int .i64 ((b.length : Int) + (c.length : Int))] w fun e w' => e = .returned (.int .u32 (wn (crc ((a ++ b) ++ c)))) ∧ w = w') :=
    Lib.hid (fun w => by
      have := join_any (crc a) (join (crc b) (crc c) c.length) (b.length + c.length) (by omega) w
      rw [j3.out, show ((b.length + c.length : Nat) : Int) = (b.length : Int) + (c.length : Int) by omega] at this
      exact this)
  have J4 : Hid (∀ w, Calls Try.prog 25 #[.int .u32 (wn (crc b)), .int .u32 (wn (crc c)), .int .i64 (c.length : Int)] w fun e w' => e = .returned (.int .u32 (wn (join (crc b) (crc c) c.length))) ∧ w = w') :=
    Lib.hid (fun w => join_any (crc b) (crc c) c.length (by omega) w)
  go_enter Try.func8, Try.ntmps8
  go_wp2_with (go_at_call 9; go_in)
  refine (joined_any a b A A' _ cap cap' w hla hlb (Nat.le_refl _) (by omega)).mono ?_
  rintro e w1 ⟨Aj, capj, rfl, hown1, hB1⟩
  have hab1 := own_lies hown1
  clear hown1
  go_wp2_with fail
  refine (copyBytes_any a A _ cap w1 (hla.below hB1) hma).mono ?_
  rintro e w2 ⟨A2, cap2, rfl, hown2, _, hb2⟩
  have hl2 := own_lies hown2
  have hab2 := hab1.past hb2
  have hB2 := belowThen' hB1 hb2
  clear hown2 hb2 hab1 hB1
  go_wp2_with fail
  refine (crc_any a _ _ cap2 w2 hl2 (Nat.le_refl _) (by omega)).mono ?_
  rintro e w3 ⟨rfl, hb3⟩
  have hab3 := hab2.past hb3
  have hB3 := belowThen' hB2 hb3
  clear hl2 hab2 hB2 hb3
  go_wp2_with fail
  refine (copyBytes_any b A' _ cap' w3 (hlb.below hB3) hmb).mono ?_
  rintro e w4 ⟨A4, cap4, rfl, hown4, _, hb4⟩
  have hl4 := own_lies hown4
  have hab4 := hab3.past hb4
  have hB4 := belowThen' hB3 hb4
  clear hown4 hb4 hab3 hB3
  go_wp2_with fail
  refine (crc_any b _ _ cap4 w4 hl4 (Nat.le_refl _) (by omega)).mono ?_
  rintro e w5 ⟨rfl, hb5⟩
  have hab5 := hab4.past hb5
  have hB5 := belowThen' hB4 hb5
  clear hl4 hab4 hB4 hb5
  go_wp2_with fail
  refine (copyBytes_any c A'' _ cap'' w5 (hlc.below hB5) hmc).mono ?_
  rintro e w6 ⟨A6, cap6, rfl, hown6, _, hb6⟩
  have hl6 := own_lies hown6
  have hab6 := hab5.past hb6
  have hB6 := belowThen' hB5 hb6
  clear hown6 hb6 hab5 hB5
  go_wp2_with fail
  refine (crc_any c _ _ cap6 w6 hl6 (Nat.le_refl _) (by omega)).mono ?_
  rintro e w7 ⟨rfl, hb7⟩
  have hab7 := hab6.past hb7
  have hB7 := belowThen' hB6 hb7
  clear hl6 hab6 hB6 hb7
  have hlen : (a ++ b).length = a.length + b.length := List.length_append
  have CP : Hid (∀ (A : Option Addr) (cap : Nat) (w : World), Lies w w.heap.size A (bytesV (a ++ b)) → Calls Try.prog 17 #[.slice A (a.length + b.length) cap] w fun e w' => ∃ A' cap', e = .returned (.slice A' (a.length + b.length) cap') ∧ Lies w' w'.heap.size A' (bytesV (a ++ b)) ∧ Below w.heap.size w w') :=
    Lib.hid (fun A cap w h => by
      have := copyBytes_any (a ++ b) A _ cap w h (by omega)
      rw [hlen] at this
      exact this.mono fun e w' ⟨A', cap', he, ho, _, hb⟩ => ⟨A', cap', he, own_lies ho, hb⟩)
  have CR : Hid (∀ (A : Option Addr) (cap : Nat) (w : World), Lies w w.heap.size A (bytesV (a ++ b)) → Calls Try.prog 11 #[.slice A (a.length + b.length) cap] w fun e w' => e = .returned (.int .u32 (wn (crc (a ++ b)))) ∧ Below w.heap.size w w') :=
    Lib.hid (fun A cap w h => by
      have := crc_any (a ++ b) A _ cap w h (Nat.le_refl _) (by omega)
      rw [hlen] at this
      exact this)
  have JD : Hid (∀ (A : Option Addr) (cap : Nat) (w : World), Lies w w.heap.size A (bytesV (a ++ b)) → Lies w w.heap.size A'' (bytesV c) → Calls Try.prog 27 #[.slice A (a.length + b.length) cap, .slice A'' c.length cap''] w fun e w' => ∃ A' cap', e = .returned (.slice A' (a.length + b.length + c.length) cap') ∧ Lies w' w'.heap.size A' (bytesV ((a ++ b) ++ c)) ∧ Below w.heap.size w w') :=
    Lib.hid (fun A cap w h h' => by
      have := joined_any (a ++ b) c A A'' _ cap cap'' w h h' (Nat.le_refl _) (by omega)
      rw [hlen] at this
      exact this.mono fun e w' ⟨A', cap', he, ho, hb⟩ => ⟨A', cap', he, own_lies ho, hb⟩)
  have CA : Hid (∀ (A : Option Addr) (cap : Nat) (w : World), Lies w w.heap.size A (bytesV ((a ++ b) ++ c)) → Calls Try.prog 11 #[.slice A (a.length + b.length + c.length) cap] w fun e w' => e = .returned (.int .u32 (wn (crc ((a ++ b) ++ c)))) ∧ Below w.heap.size w w') :=
    Lib.hid (fun A cap w h => by
      have h3 : ((a ++ b) ++ c).length = a.length + b.length + c.length := by rw [List.length_append, List.length_append]
      have := crc_any ((a ++ b) ++ c) A _ cap w h (Nat.le_refl _) (by omega)
      rw [h3] at this
      exact this)
  clear hlen
  go_wp2_with fail
  refine (CP.out _ _ _ hab7).mono ?_
  rintro e w8 ⟨A8, cap8, rfl, hl8, hb8⟩
  have hab8 := hab7.past hb8
  have hB8 := belowThen' hB7 hb8
  clear hab7 hB7 hb8
  go_wp2_with fail
  refine (CR.out _ _ _ hl8).mono ?_
  rintro e w9 ⟨rfl, hb9⟩
  have hab9 := hab8.past hb9
  have hB9 := belowThen' hB8 hb9
  clear hab8 hB8 hb9 hl8
  go_wp2_with fail
  refine (copyBytes_any b A' _ cap' w9 (hlb.below hB9) hmb).mono ?_
  rintro e w10 ⟨A10, cap10, rfl, hown10, _, hb10⟩
  have hl10 := own_lies hown10
  have hab10 := hab9.past hb10
  have hB10 := belowThen' hB9 hb10
  clear hown10 hb10 hab9 hB9
  go_wp2_with fail
  have hgo := go_any (crc a) b A10 _ cap10 w10 hl10 (Nat.le_refl _) (by omega)
  rw [g1.out] at hgo
  refine hgo.mono ?_
  clear hgo
  rintro e w11 ⟨rfl, hb11⟩
  have hab11 := hab10.past hb11
  have hB11 := belowThen' hB10 hb11
  clear hab10 hB10 hb11 hl10
  go_wp2_with fail
  refine (J1.out _).mono ?_
  rintro e w' ⟨rfl, rfl⟩
  go_wp2_with fail
  refine (copyBytes_any a A _ cap w11 (hla.below hB11) hma).mono ?_
  rintro e w12 ⟨A12, cap12, rfl, hown12, _, hb12⟩
  have hl12 := own_lies hown12
  have hab12 := hab11.past hb12
  have hB12 := belowThen' hB11 hb12
  clear hown12 hb12 hab11 hB11
  go_wp2_with fail
  refine (go_any 0#32 a A12 _ cap12 w12 hl12 (Nat.le_refl _) (by omega)).mono ?_
  rintro e w13 ⟨rfl, hb13⟩
  have hab13 := hab12.past hb13
  have hB13 := belowThen' hB12 hb13
  clear hab12 hB12 hb13 hl12
  rw [show goOn 0#32 a = crc a from rfl]
  go_wp2_with fail
  refine (JD.out _ _ _ hab13 ((hlc.below hB13).more hB13.size)).mono ?_
  rintro e w14 ⟨A14, cap14, rfl, hl14, hb14⟩
  have hB14 := belowThen' hB13 hb14
  clear hB13 hb14 hab13
  go_wp2_with fail
  refine (CA.out _ _ _ hl14).mono ?_
  rintro e w15 ⟨rfl, hb15⟩
  have hB15 := belowThen' hB14 hb15
  clear hB14 hb15 hl14
  go_wp2_with fail
  refine (J2.out _).mono ?_
  rintro e w' ⟨rfl, rfl⟩
  go_wp2_with fail
  refine (J4.out _).mono ?_
  rintro e w' ⟨rfl, rfl⟩
  go_wp2_with fail
  refine (J3.out _).mono ?_
  rintro e w' ⟨rfl, rfl⟩
  go_wp2_with fail
  refine (table_any _).mono ?_
  rintro e w16 ⟨rfl, hb16⟩
  have hB16 := belowThen' hB15 hb16
  clear hB15 hb16
  have hz := zero_tab
  have S := Lib.hid (show (Try.prog.info? 32).map (·.size) = some (tabTo 256).size by rw [tabTo_size]; exact size_tab)
  go_wp2_with (first
    | (refine wpList_store_whole rfl 32 _ _ rfl rfl w16.heap.size rfl (tabTo 256) rfl 32 (tabTo 0) (Whole.made w16 _ _) S.out (by rw [tabTo_size, tabTo_size]) (tabTo_one 256) ?_; rw [World.setRow_alloc_new]))
  have hT : Whole (w16.alloc (.cells (tabTo 256) 32)) w16.heap.size 32 (tabTo 256) := Whole.made _ _ _
  have hB17 : Below w.heap.size w (w16.alloc (.cells (tabTo 256) 32)) := hB16.alloc hB16.size _
  have hgt : w.heap.size ≤ w16.heap.size := hB16.size
  clear hB16 hz J1 J2 J3 J4 CP CR JD CA j1 j2 j3 g1
  generalize w16.alloc (.cells (tabTo 256) 32) = w17 at *
  generalize w16.heap.size = gt at *
  go_loopw [8, 14] (fun vx vi wr => ∃ k : Nat, k ≤ b.length ∧ vi = .int .i64 k ∧ vx = .int .u32 (wn (goOn (crc a) (b.take k))) ∧ Whole wr gt 32 (tabTo 256) ∧ Below w.heap.size w wr) (fun _ vi _ => b.length - (intOf vi).toNat)
  case atStart => exact ⟨0, by omega, rfl, by rw [List.take_zero]; unfold goOn; rw [show run (~~~ crc a) [] = ~~~ crc a from rfl, BitVec.not_not], hT, hB17⟩
  case round =>
    obtain ⟨k, hk, rfl, rfl, hTr, hBr⟩ := hrel
    clear hT hB17
    by_cases hlt : k < b.length
    · by_cases h300 : k < 300
      · obtain ⟨g, off, rfl, hgb, hc⟩ := hlb k _ (bytesV_get b k hlt)
        have hcr : wr.cell? ⟨g, off + k, none⟩ = some (.int .u8 ((b[k]).toNat : Int)) := (hBr.cell (p := ⟨g, off + k, none⟩) hgb).trans hc
        have hby := (b[k]).isLt
        have hs : Hid (goOn (crc a) (b.take (k + 1)) = goOn (goOn (crc a) (b.take k)) [b[k]]) := Lib.hid (by rw [take_snoc b k hlt, goOn_append])
        generalize goOn (crc a) (b.take k) = x at *
        have e0 := not_nat x
        have e1 := look_idx (~~~ x) b[k]
        have e2 := lookAt_lt (~~~ x) b[k]
        have e3 := (hTr.cellAt (lookAt (~~~ x) b[k])).trans (look_cell (~~~ x) b[k])
        have e4 := div256 (~~~ x)
        have e5 := look_put (~~~ x) b[k]
        have e6 := not_nat (byte (~~~ x) b[k])
        have e7 : Hid (goOn x [b[k]] = ~~~ byte (~~~ x) b[k]) := Lib.hid rfl
        have e8 := wn_bd (~~~ x)
        obtain ⟨e80, e81⟩ := e8
        generalize ~~~ x = nx at *
        clear hc
        go_wp2_with fail
        refine (go_any x [b[k]] _ (wr.heap.size + 1) 1 _ (Lies.row (t := 5) (fr := (0, 0)) (heap_alloc_new wr _) (Nat.lt_succ_self _)) (by simp) (by simp)).mono ?_
        rintro e w19 ⟨rfl, hb19⟩
        have hT19 : Whole w19 gt 32 (tabTo 256) := (hTr.alloc _).past hb19
        have hB19 : Below w.heap.size w w19 := belowThen' (hBr.alloc hBr.size _) hb19
        rw [e7.out]
        rw [e7.out] at hs
        generalize ~~~ byte nx b[k] = y at *
        clear hb19 hTr hBr e3
        go_wp2
        go_roundw
        case rel => exact ⟨k + 1, by omega, by go_num, by rw [hs.out], hT19, hB19⟩
        case measure => simp [intOf]; omega
      · go_wp2_with fail
        refine (works_any _).mono ?_
        rintro e w18 ⟨rfl, hb18⟩
        go_wp2
        go_ret
        exact ⟨rfl, belowThen' hBr hb18⟩
    · go_wp2_with fail
      refine (works_any _).mono ?_
      rintro e w18 ⟨rfl, hb18⟩
      go_wp2
      go_ret
      exact ⟨rfl, belowThen' hBr hb18⟩
end Go.Proofs.Ytcdolkifahlakaa
