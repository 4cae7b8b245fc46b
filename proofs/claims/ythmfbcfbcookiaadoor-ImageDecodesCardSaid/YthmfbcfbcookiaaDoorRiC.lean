/-
  The reference's reader of a state: the walk. Conditions: a length within 2 ^ 40.
-/
import Derived.Test.YthmfbcfbcookiaaDoorRiMa
namespace Go.Proofs.YthmfbcfbcookiaaDoor
open Go.RowKit
theorem pl_from {b : List Oct} {i ia ib : Nat} {bd ba bb : Bool} {y1 y2 : Nat} (h1 : ((numP 4).from b i bd).val 0 = (y1 : Int)) (h2 : ((numP 4).from b ia ba).val 0 = (y2 : Int)) (l1 : y1 < 4294967296) (l2 : y2 < 4294967296) (a1 : ia = ((numP 4).from b i bd).at_) (c1 : ba = ((numP 4).from b i bd).isBad) (a2 : ib = ((numP 4).from b ia ba).at_) (c2 : bb = ((numP 4).from b ia ba).isBad) :
    playerP.from b i bd = (flagP.map fun o => (⟨wrap32 y1, wrap32 y2, o⟩ : Pl)).from b ib bb := by
  unfold playerP
  rw [from_seq 0, from_seq 0, s32_at, s32_bad, s32_val, s32_at, s32_bad, s32_val, ← a1, ← c1, h1, ← a2, ← c2, h2, wrap32_sx y1 l1, wrap32_sx y2 l2]
theorem zn_from {b : List Oct} {i ja : Nat} {bd da : Bool} {y : Nat} (h1 : ((numP 2).from b i bd).val 0 = (y : Int)) (a1 : ja = ((numP 2).from b i bd).at_) (c1 : da = ((numP 2).from b i bd).isBad) : zoneP.from b i bd = (repP (numP 2) y).from b ja da := by
  unfold zoneP
  rw [from_seq 0, ← a1, ← c1, h1]
  rfl
theorem cd_from {b : List Oct} {i ja jb jc jd je : Nat} {bd ca cb cc cd ce : Bool} {y1 y2 y3 y4 y5 y6 : Nat} (h1 : ((numP 2).from b i bd).val 0 = (y1 : Int)) (h2 : ((numP 1).from b ja ca).val 0 = (y2 : Int)) (h3 : ((numP 4).from b jb cb).val 0 = (y3 : Int)) (h4 : ((numP 4).from b jc cc).val 0 = (y4 : Int)) (h5 : ((numP 4).from b jd cd).val 0 = (y5 : Int)) (_ : ((numP 4).from b je ce).val 0 = (y6 : Int)) (l3 : y3 < 4294967296) (l4 : y4 < 4294967296) (l5 : y5 < 4294967296) (_ : y6 < 4294967296)
    (a1 : ja = ((numP 2).from b i bd).at_) (c1 : ca = ((numP 2).from b i bd).isBad) (a2 : jb = ((numP 1).from b ja ca).at_) (c2 : cb = ((numP 1).from b ja ca).isBad) (a3 : jc = ((numP 4).from b jb cb).at_) (c3 : cc = ((numP 4).from b jb cb).isBad) (a4 : jd = ((numP 4).from b jc cc).at_) (c4 : cd = ((numP 4).from b jc cc).isBad) (a5 : je = ((numP 4).from b jd cd).at_) (c5 : ce = ((numP 4).from b jd cd).isBad) :
    cardP.from b i bd = (s32P.map fun m => (⟨(y1 : Int), (y2 : Int), wrap32 y3, wrap32 y4, wrap32 y5, m⟩ : Cd)).from b je ce := by
  unfold cardP
  rw [from_seq 0, ← a1, ← c1, h1, from_seq 0, ← a2, ← c2, h2, from_seq 0, s32_at, s32_bad, s32_val, ← a3, ← c3, h3, from_seq 0, s32_at, s32_bad, s32_val, ← a4, ← c4, h4, from_seq 0, s32_at, s32_bad, s32_val, ← a5, ← c5, h5, wrap32_sx y3 l3, wrap32_sx y4 l4, wrap32_sx y5 l5]
theorem sixs {w : World} {g : Nat} {t : TypeId} {a b c d e f : Value} (H : Whole w g t #[a, b, c, d, e, f]) :
    w.cell? ⟨g, 0, none⟩ = some a ∧ w.cell? ⟨g, 1, none⟩ = some b ∧ w.cell? ⟨g, 2, none⟩ = some c ∧ w.cell? ⟨g, 3, none⟩ = some d ∧ w.cell? ⟨g, 4, none⟩ = some e ∧ w.cell? ⟨g, 5, none⟩ = some f :=
  ⟨H.cellAt 0, H.cellAt 1, H.cellAt 2, H.cellAt 3, H.cellAt 4, H.cellAt 5⟩
set_option maxRecDepth 100000 in
set_option maxHeartbeats 8000000 in
theorem refState_any (r B : Nat) (A : Option Addr) (cap : Nat) (b : List Oct) (w : World) (h : RrAt w r B A cap b 0 false) (hl : b.length ≤ 1099511627776) :
    Calls Tryd.prog 40 #[.pointer (some ⟨r, 0, none⟩)] w fun e w' => RrTells r B A cap b w e w' := by
  have S0 := Lib.hid (Rr.start h)
  have HH := Lib.hid (refHead_any r B A cap b _ (Rr.start h).rd hl)
  have HNM := Lib.hid (fun (n : Nat) (i : Nat) (bad : Bool) (w : World) (h : RrAt w r B A cap b i bad) (h1 : 1 ≤ n) (h4 : n ≤ 4) => refNum_any n r B A cap i b bad w h hl h1 h4)
  have HOUT := Lib.hid (fun (i : Nat) (bad : Bool) (w : World) (h : RrAt w r B A cap b i bad) => refOut_any r B A cap i b bad w h hl)
  clear h
  go_enter Tryd.func40, Tryd.ntmps40
  go_wp2_with fail
  refine HH.out.mono ?_
  rintro e w1 ⟨rfl, h1, k1⟩
  have S1 := Lib.hid (S0.out.read h1 k1)
  clear S0 h1 k1 HH
  obtain ⟨i0, hi0⟩ : ∃ z, z = (litP headL b 0).at_ := ⟨_, rfl⟩
  obtain ⟨b0, hb0⟩ : ∃ z, z = (litP headL b 0).isBad := ⟨_, rfl⟩
  rw [← hi0, ← hb0] at S1
  have HI0 := Lib.hid hi0
  have HB0 := Lib.hid hb0
  clear hi0 hb0
  go_wp2_with fail
  have HN := HNM.out 1 i0 b0 w1 S1.out.rd (by decide) (by decide)
  obtain ⟨n, hv, hna, hnb⟩ := num_nat (show 1 ≤ 4 by decide) b i0 b0
  obtain ⟨i1, hii⟩ : ∃ z, z = ((numP 1).from b i0 b0).at_ := ⟨_, rfl⟩
  obtain ⟨b1, hbb⟩ : ∃ z, z = ((numP 1).from b i0 b0).isBad := ⟨_, rfl⟩
  rw [hv, ← hii, ← hbb] at HN
  have HVn := Lib.hid hv
  have HIi1 := Lib.hid hii
  have HBb1 := Lib.hid hbb
  clear hv hii hbb
  refine HN.mono ?_
  clear HN
  rintro e w2 ⟨rfl, hr1, kk⟩
  have S2 := Lib.hid (S1.out.read hr1 kk)
  clear S1 hr1 kk
  have hn : n < 256 := hna
  clear hna hnb
  go_wp2_with fail
  obtain ⟨i2, hi2⟩ : ∃ z, z = ((repP playerP n).from b i1 b1).at_ := ⟨_, rfl⟩
  obtain ⟨b2, hb2⟩ : ∃ z, z = ((repP playerP n).from b i1 b1).isBad := ⟨_, rfl⟩
  have HI2 := Lib.hid hi2
  have HB2 := Lib.hid hb2
  clear hi2 hb2
  refine wp_cut_in (CutAt r w.heap.size n (CutP w r B A cap b n i1 b1 i2 b2)) ?rest1 ?first1
  case first1 =>
    intro K' hK'
    go_loopw [5] (fun vi wr => ∃ (k : Nat) (ps : List Pl) (Ap : Option Addr) (cp : Nat), k ≤ n ∧ vi = .int .i64 k ∧ ps.length = k ∧ Hid (Rr w wr r B A cap b ((repP playerP k).from b i1 b1).at_ ((repP playerP k).from b i1 b1).isBad { zeroSt with players := ps } Ap none none cp 0 0 []) ∧ Hid (∀ l j, (repP playerP k).from b i1 b1 = .ok l j → ps = l)) (fun vi _ => n - (intOf vi).toNat)
    case atStart => exact ⟨0, [], none, 0, by omega, rfl, rfl, Lib.hid (by cases b1 <;> exact S2.out), Lib.hid (fun l j e => by cases b1 <;> simp [repP, Pr.ret, Pr.from] at e; exact e.1.symm)⟩
    case round =>
      clear S2
      obtain ⟨k, ps, Ap, cp, hk, rfl, hpl, HS, HP⟩ := hrel
      have HPL := Lib.hid hpl
      have hpl2 : ps.length ≤ n := by omega
      clear hpl
      obtain ⟨ik, hik⟩ : ∃ z, z = ((repP playerP k).from b i1 b1).at_ := ⟨_, rfl⟩
      obtain ⟨bk, hbk⟩ : ∃ z, z = ((repP playerP k).from b i1 b1).isBad := ⟨_, rfl⟩
      rw [← hik, ← hbk] at HS
      have HIK := Lib.hid hik
      have HBK := Lib.hid hbk
      clear hik hbk
      have q2 : wr.cell? ⟨r, 2, none⟩ = some (.bool bk) := HS.out.rd.box.cellAt 2
      by_cases hlt : k < n
      · cases bk
        · go_wp2_with fail
          clear q2
          have HN := HNM.out 4 ik false wr HS.out.rd (by decide) (by decide)
          obtain ⟨y1, hv, hy1a, hy1b⟩ := num_nat (show 4 ≤ 4 by decide) b ik false
          obtain ⟨ia, hii⟩ : ∃ z, z = ((numP 4).from b ik false).at_ := ⟨_, rfl⟩
          obtain ⟨ba, hbb⟩ : ∃ z, z = ((numP 4).from b ik false).isBad := ⟨_, rfl⟩
          rw [hv, ← hii, ← hbb] at HN
          have HVy1 := Lib.hid hv
          have HIia := Lib.hid hii
          have HBba := Lib.hid hbb
          clear hv hii hbb
          refine HN.mono ?_
          clear HN
          rintro e w3 ⟨rfl, hr1, kk⟩
          have S3 := Lib.hid (HS.out.read hr1 kk)
          have hsw3 := kk.size
          clear hr1 kk
          go_wp2_with fail
          have ka : Keeps (fun _ => False) w3 (w3.alloc (.cells #[.int .i32 (wrap32 y1), .int .i32 0, .bool false] 75)) := (Keeps.refl _ _).alloc _
          have S4 := Lib.hid (S3.out.calm ka)
          have P4 := Lib.hid (Whole.made w3 75 #[.int .i32 (wrap32 y1), .int .i32 0, .bool false])
          clear ka
          have HN := HNM.out 4 ia ba (w3.alloc (.cells #[.int .i32 (wrap32 y1), .int .i32 0, .bool false] 75)) S4.out.rd (by decide) (by decide)
          obtain ⟨y2, hv, hy2a, hy2b⟩ := num_nat (show 4 ≤ 4 by decide) b ia ba
          obtain ⟨ib, hii⟩ : ∃ z, z = ((numP 4).from b ia ba).at_ := ⟨_, rfl⟩
          obtain ⟨bb, hbb⟩ : ∃ z, z = ((numP 4).from b ia ba).isBad := ⟨_, rfl⟩
          rw [hv, ← hii, ← hbb] at HN
          have HVy2 := Lib.hid hv
          have HIib := Lib.hid hii
          have HBbb := Lib.hid hbb
          clear hv hii hbb
          refine HN.mono ?_
          clear HN
          rintro e w5 ⟨rfl, hr1, kk⟩
          have S5 := Lib.hid (S4.out.read hr1 kk)
          have P5 := Lib.hid (P4.out.keeps kk (by have := S3.out.rd.box.inside; omega))
          have hs5 := kk.size
          have hsz3 : w3.heap.size < w5.heap.size := P5.out.inside
          clear hr1 kk S4 P4
          have c1 : w5.cell? ⟨w3.heap.size, 1, none⟩ = some (.int .i32 0) := P5.out.cellAt 1
          have f1 := P5.out.free 1
          go_wp2_with fail
          have S6 := Lib.hid (Rr.set S3.out S5.out (Nat.le_refl w3.heap.size) 1 (.int .i32 (wrap32 y2)))
          have P6 := Lib.hid (P5.out.put 1 (.int .i32 (wrap32 y2)))
          clear S5 P5 c1 f1
          generalize w5.setCell ⟨w3.heap.size, 1, none⟩ (.int .i32 (wrap32 y2)) = w6 at *
          refine (HOUT.out ib bb w6 S6.out.rd).mono ?_
          rintro e w7 ⟨x, hxx, rfl, hr1, kk⟩
          have HXX := Lib.hid hxx
          have S7 := Lib.hid (S6.out.read hr1 kk)
          have P7 := Lib.hid (P6.out.keeps kk (by have := S3.out.rd.box.inside; omega))
          clear hr1 kk S6 P6 hxx
          have c2 : w7.cell? ⟨w3.heap.size, 2, none⟩ = some (.bool false) := P7.out.cellAt 2
          have f2 := P7.out.free 2
          have P8 : Hid (Whole (w7.setCell ⟨w3.heap.size, 2, none⟩ (.bool x)) w3.heap.size 75 #[.int .i32 (wrap32 y1), .int .i32 (wrap32 y2), .bool x]) := Lib.hid (P7.out.put 2 (.bool x))
          have S8 := Lib.hid (Rr.set S3.out S7.out (Nat.le_refl w3.heap.size) 2 (.bool x))
          have p0 := P8.out.cellAt 0
          have p1 := P8.out.cellAt 1
          have p2 := P8.out.cellAt 2
          have p3 : (w7.setCell ⟨w3.heap.size, 2, none⟩ (.bool x)).cell? ⟨w.heap.size + 1, 0, none⟩ = some (.slice Ap ps.length cp) := S8.out.box.cellAt 0
          have hgne : w3.heap.size ≠ w.heap.size + 1 := by have := S3.out.box.inside; omega
          obtain ⟨wq, hwq⟩ : ∃ z, z = w7.setCell ⟨w3.heap.size, 2, none⟩ (.bool x) := ⟨_, rfl⟩
          rw [← hwq] at S8
          have S9 := Lib.hid (S8.out.calm ((Keeps.refl _ _).alloc (.cells #[.int .i32 (wrap32 y1), .int .i32 (wrap32 y2), .bool x] 75)))
          have hone : ∀ u ∈ [Value.int .i32 (wrap32 (y1 : Int)), .int .i32 (wrap32 (y2 : Int)), .bool x], u.oneCell' = true := fun u hu => by
            rcases List.mem_cons.1 hu with h | hu
            · rw [h]; rfl
            rcases List.mem_cons.1 hu with h | hu
            · rw [h]; rfl
            rw [List.mem_singleton.1 hu]; rfl
          have HONE := Lib.hid hone
          have hnl := Lies.row (t := 75) (fr := (0, 0)) (xs := [Value.int .i32 (wrap32 (y1 : Int)), .int .i32 (wrap32 (y2 : Int)), .bool x]) (heap_alloc_new wq (.cells #[.int .i32 (wrap32 y1), .int .i32 (wrap32 y2), .bool x] 75)) (Nat.lt_succ_self _)
          rw [show wq.heap.size = w7.heap.size by rw [hwq]; simp] at hnl
          have HNL := Lib.hid hnl
          clear hone S7 P7 P8 hnl
          subst hwq
          go_wp2_with (first
            | (at_builtin
               refine wpList_append_cells _ rfl _ _ 22 rfl w.heap.size 75 (.agg #[.int .i32 0, .int .i32 0, .bool false]) 3 12 Tryd.underlying22 info_pl rfl (by decide) (.slice Ap ps.length cp) ps.length (flat Pl.cells ps) rfl S9.out.lists.players _ (some ⟨w7.heap.size, 0, none⟩) 1 1 [.int .i32 (wrap32 y1), .int .i32 (wrap32 y2), .bool x] rfl HNL.out rfl HONE.out (by simp only [maxLen]; omega) (by omega) (by have := S9.out.keeps.size; omega) ?_
               intro A3 c3 wx hown hgrow _ _ _
               obtain ⟨hR, hf, uu, hu⟩ := S8.out.pushP (x := ⟨wrap32 y1, wrap32 y2, x⟩) hown hgrow))
          have SN : Hid (Rr w (wx.setCell ⟨w.heap.size + 1, 0, none⟩ (.slice A3 (ps.length + 1) c3)) r B A cap b ((repP playerP (k + 1)).from b i1 b1).at_ ((repP playerP (k + 1)).from b i1 b1).isBad { zeroSt with players := ps ++ [⟨wrap32 y1, wrap32 y2, x⟩] } A3 none none c3 0 0 []) := Lib.hid (by
            rw [rep_at, rep_isBad, ← HIK.out, ← HBK.out, pl_from HVy1.out HVy2.out hy1b hy2b HIia.out HBba.out HIib.out HBbb.out, from_map_at, from_map_bad]
            exact hR)
          have SP : Hid (∀ l j, (repP playerP (k + 1)).from b i1 b1 = .ok l j → ps ++ [⟨wrap32 y1, wrap32 y2, x⟩] = l) := Lib.hid (rep_more HP.out (fun y j e => by
            rw [← HIK.out, ← HBK.out, pl_from HVy1.out HVy2.out hy1b hy2b HIia.out HBba.out HIib.out HBbb.out] at e
            obtain ⟨c, e1, e2⟩ := map_ok e
            rw [e2, HXX.out _ _ e1]))
          clear hR HP HS
          exact ⟨⟨k + 1, _, A3, c3, by omega, by first | rfl | go_num, by rw [List.length_append, HPL.out]; rfl, SN, SP⟩, by simp [intOf]; omega⟩
        · obtain ⟨e1, e2⟩ := rep_stop (n := n) hk HBK.out.symm
          have HF : Hid (Rr w wr r B A cap b i2 b2 { zeroSt with players := ps } Ap none none cp 0 0 []) := Lib.hid (by rw [HI2.out, HB2.out, e1, e2, ← HIK.out]; exact HS.out)
          have HPF : Hid (∀ l j, (repP playerP n).from b i1 b1 = .ok l j → ps = l) := Lib.hid (fun l j e => absurd e (bad_none e2 l j))
          clear HS HP e1 e2
          go_wp2_with fail
          refine Met.intro ⟨(fun _ hM => hM _ _ _ _ _ _ _ _ _ _ _ _ _ _ _ _ _ _ _ _ _ _ _ _ _ _ _ _ _ _ _ _ _ _ _ _ _ _ _ _ _ _ _ _ _ _ _ _ _ _ _ _ _ _ _ _ _ _ _ _ _ _ _ _ _ _ _ _ _ _ _ _ _ _ _ _ _ _ _ _ _ _ _ _ _ _ _ _ _ _ _ _ _ _ _ _ _ _ _ _ _ _ _ _ _ _ _ _ _ _ _ _ _ _ _ _ _ _ _ _ _ _ _ _ _ _ _ _ _ _ _ _ _ _ _ _ _ _ _ _ _ _ _ _ _ _ _ _ _ _ _ _ _ _ _ _ _ _), ps, Ap, cp, hpl2, HF, HPF⟩
      · obtain rfl : k = n := by omega
        have HF : Hid (Rr w wr r B A cap b i2 b2 { zeroSt with players := ps } Ap none none cp 0 0 []) := Lib.hid (by rw [HI2.out, HB2.out, ← HIK.out, ← HBK.out]; exact HS.out)
        clear HS
        go_wp2_with fail
        refine Met.intro ⟨(fun _ hM => hM _ _ _ _ _ _ _ _ _ _ _ _ _ _ _ _ _ _ _ _ _ _ _ _ _ _ _ _ _ _ _ _ _ _ _ _ _ _ _ _ _ _ _ _ _ _ _ _ _ _ _ _ _ _ _ _ _ _ _ _ _ _ _ _ _ _ _ _ _ _ _ _ _ _ _ _ _ _ _ _ _ _ _ _ _ _ _ _ _ _ _ _ _ _ _ _ _ _ _ _ _ _ _ _ _ _ _ _ _ _ _ _ _ _ _ _ _ _ _ _ _ _ _ _ _ _ _ _ _ _ _ _ _ _ _ _ _ _ _ _ _ _ _ _ _ _ _ _ _ _ _ _ _ _ _ _ _ _), ps, Ap, cp, hpl2, HF, HP⟩
  case rest1 =>
    clear S2
    refine FrS.rest ?_
    rintro w3 ⟨ps, Ap, cp, hpl, S3, HPS⟩
    intro u1 u5 u6 u7 u8 u9 u10 u11 u12 u13 u14 u15 u16 u17 u18 u19 u20 u21 u22 u23 u24 u25 u26 u27 u28 u29 u30 u31 u32 u33 u34 u35 u36 u37 u38 u39 u40 u41 u42 u43 u44 u45 u46 u47 u48 u49 u50 u51 u52 u53 u54 u55 u56 u57 u58 u59 u60 u61 u62 u63 u64 u65 u66 u67 u68 u69 u70 u71 u72 u73 u74 u75 u76 u77 u78 u79 u80 u81 u82 u83 u84 u85 u86 u87 u88 u89 u90 u91 u92 u93 u94 u95 u96 u97 u98 u99 u100 u101 u102 u103 u104 u105 u106 u107 u108 u109 u110 u111 u112 u113 u114 u115 u116 u117 u118 u119 u120 u121 u122 u123 u124 u125 u126 u127 u128 u129 u130 u131 u132 u133 u134 u135 u136 u137 u138 u139 u140 u141 u142 u143 u144 u145 u146 u147 u148 u149 u150 u151 u152 u153 u154 u155 u156 u157 u158 u159 u160 u161
    go_wp2_with fail
    have HN := HNM.out 2 i2 b2 w3 S3.out.rd (by decide) (by decide)
    obtain ⟨m, hv, hma, hmb⟩ := num_nat (show 2 ≤ 4 by decide) b i2 b2
    obtain ⟨i3, hii⟩ : ∃ z, z = ((numP 2).from b i2 b2).at_ := ⟨_, rfl⟩
    obtain ⟨b3, hbb⟩ : ∃ z, z = ((numP 2).from b i2 b2).isBad := ⟨_, rfl⟩
    rw [hv, ← hii, ← hbb] at HN
    have HVm := Lib.hid hv
    have HIi3 := Lib.hid hii
    have HBb3 := Lib.hid hbb
    clear hv hii hbb
    refine HN.mono ?_
    clear HN
    rintro e w4 ⟨rfl, hr1, kk⟩
    have S4 := Lib.hid (S3.out.read hr1 kk)
    clear S3 hr1 kk
    have hm : m < 65536 := hma
    clear hma hmb
    go_wp2_with fail
    obtain ⟨i4, hi4⟩ : ∃ z, z = ((repP cardP m).from b i3 b3).at_ := ⟨_, rfl⟩
    obtain ⟨b4, hb4⟩ : ∃ z, z = ((repP cardP m).from b i3 b3).isBad := ⟨_, rfl⟩
    have HI4 := Lib.hid hi4
    have HB4 := Lib.hid hb4
    clear hi4 hb4
    refine wp_cut_in (CutAt r w.heap.size n (CutC w r B A cap b m ps Ap cp i3 b3 i4 b4)) ?rest2 ?first2
    case first2 =>
      intro K' hK'
      go_loopw [8] (fun vi wr => ∃ (k : Nat) (cs : List Cd) (Ac : Option Addr) (cc : Nat), k ≤ m ∧ vi = .int .i64 k ∧ cs.length = k ∧ Hid (Rr w wr r B A cap b ((repP cardP k).from b i3 b3).at_ ((repP cardP k).from b i3 b3).isBad { zeroSt with players := ps, cards := cs } Ap Ac none cp cc 0 []) ∧ Hid (∀ l j, (repP cardP k).from b i3 b3 = .ok l j → cs = l)) (fun vi _ => m - (intOf vi).toNat)
      case atStart => exact ⟨0, [], none, 0, by omega, rfl, rfl, Lib.hid (by cases b3 <;> exact S4.out), Lib.hid (fun l j e => by cases b3 <;> simp [repP, Pr.ret, Pr.from] at e; exact e.1.symm)⟩
      case round =>
        clear S4
        obtain ⟨k, cs, Ac, cc, hk, rfl, hcl, HS, HP⟩ := hrel
        have HCL := Lib.hid hcl
        have hcl2 : cs.length ≤ m := by omega
        clear hcl
        obtain ⟨ik, hik⟩ : ∃ z, z = ((repP cardP k).from b i3 b3).at_ := ⟨_, rfl⟩
        obtain ⟨bk, hbk⟩ : ∃ z, z = ((repP cardP k).from b i3 b3).isBad := ⟨_, rfl⟩
        rw [← hik, ← hbk] at HS
        have HIK := Lib.hid hik
        have HBK := Lib.hid hbk
        clear hik hbk
        have q2 : wr.cell? ⟨r, 2, none⟩ = some (.bool bk) := HS.out.rd.box.cellAt 2
        by_cases hlt : k < m
        · cases bk
          · go_wp2_with fail
            clear q2
            have HN := HNM.out 2 ik false wr HS.out.rd (by decide) (by decide)
            obtain ⟨y1, hv, hy1a, hy1b⟩ := num_nat (show 2 ≤ 4 by decide) b ik false
            obtain ⟨ja, hii⟩ : ∃ z, z = ((numP 2).from b ik false).at_ := ⟨_, rfl⟩
            obtain ⟨da, hbb⟩ : ∃ z, z = ((numP 2).from b ik false).isBad := ⟨_, rfl⟩
            rw [hv, ← hii, ← hbb] at HN
            have HVy1 := Lib.hid hv
            have HIja := Lib.hid hii
            have HBda := Lib.hid hbb
            clear hv hii hbb
            refine HN.mono ?_
            clear HN
            rintro e w5 ⟨rfl, hr1, kk⟩
            have S5 := Lib.hid (HS.out.read hr1 kk)
            clear hr1 kk HS
            go_wp2_with fail
            have ka : Keeps (fun _ => False) w5 (w5.alloc (.cells #[.int .i64 y1, .int .i64 0, .int .i32 0, .int .i32 0, .int .i32 0, .int .i32 0] 78)) := (Keeps.refl _ _).alloc _
            have S6 := Lib.hid (S5.out.calm ka)
            have P6 := Lib.hid (Whole.made w5 78 #[.int .i64 y1, .int .i64 0, .int .i32 0, .int .i32 0, .int .i32 0, .int .i32 0])
            clear ka
            generalize hw6 : w5.alloc (.cells #[.int .i64 y1, .int .i64 0, .int .i32 0, .int .i32 0, .int .i32 0, .int .i32 0] 78) = w6 at *
            clear hw6
            have HN := HNM.out 1 ja da w6 S6.out.rd (by decide) (by decide)
            obtain ⟨y2, hv, hy2a, hy2b⟩ := num_nat (show 1 ≤ 4 by decide) b ja da
            obtain ⟨jb, hii⟩ : ∃ z, z = ((numP 1).from b ja da).at_ := ⟨_, rfl⟩
            obtain ⟨db, hbb⟩ : ∃ z, z = ((numP 1).from b ja da).isBad := ⟨_, rfl⟩
            rw [hv, ← hii, ← hbb] at HN
            have HVy2 := Lib.hid hv
            have HIjb := Lib.hid hii
            have HBdb := Lib.hid hbb
            clear hv hii hbb
            refine HN.mono ?_
            clear HN
            rintro e v1 ⟨rfl, hr1, kk⟩
            have T1a := Lib.hid (S6.out.read hr1 kk)
            have Q1a := Lib.hid (P6.out.keeps kk (by have := S5.out.rd.box.inside; omega))
            clear hr1 kk S6 P6
            have c1 : v1.cell? ⟨w5.heap.size, 1, none⟩ = some (.int .i64 0) := Q1a.out.cellAt 1
            have f1 := Q1a.out.free 1
            go_wp2_with fail
            have T1 := Lib.hid (Rr.set S5.out T1a.out (Nat.le_refl w5.heap.size) 1 (.int .i64 y2))
            have Q1 : Hid (Whole (v1.setCell ⟨w5.heap.size, 1, none⟩ (.int .i64 y2)) w5.heap.size 78 #[.int .i64 y1, .int .i64 y2, .int .i32 0, .int .i32 0, .int .i32 0, .int .i32 0]) := Lib.hid (Q1a.out.put 1 (.int .i64 y2))
            clear c1 f1
            clear T1a Q1a
            generalize v1.setCell ⟨w5.heap.size, 1, none⟩ (.int .i64 y2) = v1' at *
            have HN := HNM.out 4 jb db v1' T1.out.rd (by decide) (by decide)
            obtain ⟨y3, hv, hy3a, hy3b⟩ := num_nat (show 4 ≤ 4 by decide) b jb db
            obtain ⟨jc, hii⟩ : ∃ z, z = ((numP 4).from b jb db).at_ := ⟨_, rfl⟩
            obtain ⟨dc, hbb⟩ : ∃ z, z = ((numP 4).from b jb db).isBad := ⟨_, rfl⟩
            rw [hv, ← hii, ← hbb] at HN
            have HVy3 := Lib.hid hv
            have HIjc := Lib.hid hii
            have HBdc := Lib.hid hbb
            clear hv hii hbb
            refine HN.mono ?_
            clear HN
            rintro e v2 ⟨rfl, hr1, kk⟩
            have T2a := Lib.hid (T1.out.read hr1 kk)
            have Q2a := Lib.hid (Q1.out.keeps kk (by have := S5.out.rd.box.inside; omega))
            clear hr1 kk T1 Q1
            have c1 : v2.cell? ⟨w5.heap.size, 2, none⟩ = some (.int .i32 0) := Q2a.out.cellAt 2
            have f1 := Q2a.out.free 2
            go_wp2_with fail
            have T2 := Lib.hid (Rr.set S5.out T2a.out (Nat.le_refl w5.heap.size) 2 (.int .i32 (wrap32 y3)))
            have Q2 : Hid (Whole (v2.setCell ⟨w5.heap.size, 2, none⟩ (.int .i32 (wrap32 y3))) w5.heap.size 78 #[.int .i64 y1, .int .i64 y2, .int .i32 (wrap32 y3), .int .i32 0, .int .i32 0, .int .i32 0]) := Lib.hid (Q2a.out.put 2 (.int .i32 (wrap32 y3)))
            clear c1 f1
            clear T2a Q2a
            generalize v2.setCell ⟨w5.heap.size, 2, none⟩ (.int .i32 (wrap32 y3)) = v2' at *
            have HN := HNM.out 4 jc dc v2' T2.out.rd (by decide) (by decide)
            obtain ⟨y4, hv, hy4a, hy4b⟩ := num_nat (show 4 ≤ 4 by decide) b jc dc
            obtain ⟨jd, hii⟩ : ∃ z, z = ((numP 4).from b jc dc).at_ := ⟨_, rfl⟩
            obtain ⟨dd, hbb⟩ : ∃ z, z = ((numP 4).from b jc dc).isBad := ⟨_, rfl⟩
            rw [hv, ← hii, ← hbb] at HN
            have HVy4 := Lib.hid hv
            have HIjd := Lib.hid hii
            have HBdd := Lib.hid hbb
            clear hv hii hbb
            refine HN.mono ?_
            clear HN
            rintro e v3 ⟨rfl, hr1, kk⟩
            have T3a := Lib.hid (T2.out.read hr1 kk)
            have Q3a := Lib.hid (Q2.out.keeps kk (by have := S5.out.rd.box.inside; omega))
            clear hr1 kk T2 Q2
            have c1 : v3.cell? ⟨w5.heap.size, 3, none⟩ = some (.int .i32 0) := Q3a.out.cellAt 3
            have f1 := Q3a.out.free 3
            go_wp2_with fail
            have T3 := Lib.hid (Rr.set S5.out T3a.out (Nat.le_refl w5.heap.size) 3 (.int .i32 (wrap32 y4)))
            have Q3 : Hid (Whole (v3.setCell ⟨w5.heap.size, 3, none⟩ (.int .i32 (wrap32 y4))) w5.heap.size 78 #[.int .i64 y1, .int .i64 y2, .int .i32 (wrap32 y3), .int .i32 (wrap32 y4), .int .i32 0, .int .i32 0]) := Lib.hid (Q3a.out.put 3 (.int .i32 (wrap32 y4)))
            clear c1 f1
            clear T3a Q3a
            generalize v3.setCell ⟨w5.heap.size, 3, none⟩ (.int .i32 (wrap32 y4)) = v3' at *
            have HN := HNM.out 4 jd dd v3' T3.out.rd (by decide) (by decide)
            obtain ⟨y5, hv, hy5a, hy5b⟩ := num_nat (show 4 ≤ 4 by decide) b jd dd
            obtain ⟨je, hii⟩ : ∃ z, z = ((numP 4).from b jd dd).at_ := ⟨_, rfl⟩
            obtain ⟨de, hbb⟩ : ∃ z, z = ((numP 4).from b jd dd).isBad := ⟨_, rfl⟩
            rw [hv, ← hii, ← hbb] at HN
            have HVy5 := Lib.hid hv
            have HIje := Lib.hid hii
            have HBde := Lib.hid hbb
            clear hv hii hbb
            refine HN.mono ?_
            clear HN
            rintro e v4 ⟨rfl, hr1, kk⟩
            have T4a := Lib.hid (T3.out.read hr1 kk)
            have Q4a := Lib.hid (Q3.out.keeps kk (by have := S5.out.rd.box.inside; omega))
            clear hr1 kk T3 Q3
            have c1 : v4.cell? ⟨w5.heap.size, 4, none⟩ = some (.int .i32 0) := Q4a.out.cellAt 4
            have f1 := Q4a.out.free 4
            go_wp2_with fail
            have T4 := Lib.hid (Rr.set S5.out T4a.out (Nat.le_refl w5.heap.size) 4 (.int .i32 (wrap32 y5)))
            have Q4 : Hid (Whole (v4.setCell ⟨w5.heap.size, 4, none⟩ (.int .i32 (wrap32 y5))) w5.heap.size 78 #[.int .i64 y1, .int .i64 y2, .int .i32 (wrap32 y3), .int .i32 (wrap32 y4), .int .i32 (wrap32 y5), .int .i32 0]) := Lib.hid (Q4a.out.put 4 (.int .i32 (wrap32 y5)))
            clear c1 f1
            clear T4a Q4a
            generalize v4.setCell ⟨w5.heap.size, 4, none⟩ (.int .i32 (wrap32 y5)) = v4' at *
            have HN := HNM.out 4 je de v4' T4.out.rd (by decide) (by decide)
            obtain ⟨y6, hv, hy6a, hy6b⟩ := num_nat (show 4 ≤ 4 by decide) b je de
            obtain ⟨jf, hii⟩ : ∃ z, z = ((numP 4).from b je de).at_ := ⟨_, rfl⟩
            obtain ⟨df, hbb⟩ : ∃ z, z = ((numP 4).from b je de).isBad := ⟨_, rfl⟩
            rw [hv, ← hii, ← hbb] at HN
            have HVy6 := Lib.hid hv
            have HIjf := Lib.hid hii
            have HBdf := Lib.hid hbb
            clear hv hii hbb
            refine HN.mono ?_
            clear HN
            rintro e v5 ⟨rfl, hr1, kk⟩
            have T5a := Lib.hid (T4.out.read hr1 kk)
            have Q5a := Lib.hid (Q4.out.keeps kk (by have := S5.out.rd.box.inside; omega))
            clear hr1 kk T4 Q4
            have c1 : v5.cell? ⟨w5.heap.size, 5, none⟩ = some (.int .i32 0) := Q5a.out.cellAt 5
            have f1 := Q5a.out.free 5
            have T5 := Lib.hid (Rr.set S5.out T5a.out (Nat.le_refl w5.heap.size) 5 (.int .i32 (wrap32 y6)))
            have Q5 : Hid (Whole (v5.setCell ⟨w5.heap.size, 5, none⟩ (.int .i32 (wrap32 y6))) w5.heap.size 78 #[.int .i64 y1, .int .i64 y2, .int .i32 (wrap32 y3), .int .i32 (wrap32 y4), .int .i32 (wrap32 y5), .int .i32 (wrap32 y6)]) := Lib.hid (Q5a.out.put 5 (.int .i32 (wrap32 y6)))
            clear T5a Q5a
            obtain ⟨p0, p1, p2, p3, p4, p5⟩ := sixs Q5.out
            have p6 : (v5.setCell ⟨w5.heap.size, 5, none⟩ (.int .i32 (wrap32 y6))).cell? ⟨w.heap.size + 1, 1, none⟩ = some (.slice Ac cs.length cc) := T5.out.box.cellAt 1
            have hgne : w5.heap.size ≠ w.heap.size + 1 := by have := S5.out.box.inside; omega
            obtain ⟨wq, hwq⟩ : ∃ z, z = (v5.setCell ⟨w5.heap.size, 5, none⟩ (.int .i32 (wrap32 y6))) := ⟨_, rfl⟩
            rw [← hwq] at T5
            have S9 := Lib.hid (T5.out.calm ((Keeps.refl _ _).alloc (.cells #[.int .i64 y1, .int .i64 y2, .int .i32 (wrap32 y3), .int .i32 (wrap32 y4), .int .i32 (wrap32 y5), .int .i32 (wrap32 y6)] 78)))
            have hnl := Lies.row (t := 78) (fr := (0, 0)) (xs := Cd.cells ⟨(y1 : Int), (y2 : Int), wrap32 y3, wrap32 y4, wrap32 y5, wrap32 y6⟩) (heap_alloc_new wq (.cells #[.int .i64 y1, .int .i64 y2, .int .i32 (wrap32 y3), .int .i32 (wrap32 y4), .int .i32 (wrap32 y5), .int .i32 (wrap32 y6)] 78)) (Nat.lt_succ_self _)
            rw [show wq.heap.size = v5.heap.size by rw [hwq]; simp] at hnl
            have HNL := Lib.hid hnl
            have HONE : Hid (∀ u ∈ Cd.cells ⟨(y1 : Int), (y2 : Int), wrap32 y3, wrap32 y4, wrap32 y5, wrap32 y6⟩, u.oneCell' = true) := Lib.hid (by have h := cells_one_cd [⟨(y1 : Int), (y2 : Int), wrap32 y3, wrap32 y4, wrap32 y5, wrap32 y6⟩]; simpa [flat] using h)
            clear hnl Q5
            subst hwq
            go_wp2_with (first
              | (at_builtin
                 refine wpList_append_cells _ rfl _ _ 23 rfl w.heap.size 78 (.agg #[.int .i64 0, .int .i64 0, .int .i32 0, .int .i32 0, .int .i32 0, .int .i32 0]) 6 32 Tryd.underlying23 info_cd rfl (by decide) (.slice Ac cs.length cc) cs.length (flat Cd.cells cs) rfl S9.out.lists.cards _ (some ⟨v5.heap.size, 0, none⟩) 1 1 (Cd.cells ⟨(y1 : Int), (y2 : Int), wrap32 y3, wrap32 y4, wrap32 y5, wrap32 y6⟩) rfl HNL.out rfl HONE.out (by simp only [maxLen]; omega) (by omega) (by have := S9.out.keeps.size; omega) ?_
                 intro A3 c3 wx hown hgrow _ _ _
                 obtain ⟨hR, hf, uu, hu⟩ := T5.out.pushC (x := ⟨(y1 : Int), (y2 : Int), wrap32 y3, wrap32 y4, wrap32 y5, wrap32 y6⟩) hown hgrow))
            have SN : Hid (Rr w (wx.setCell ⟨w.heap.size + 1, 1, none⟩ (.slice A3 (cs.length + 1) c3)) r B A cap b ((repP cardP (k + 1)).from b i3 b3).at_ ((repP cardP (k + 1)).from b i3 b3).isBad { zeroSt with players := ps, cards := cs ++ [⟨(y1 : Int), (y2 : Int), wrap32 y3, wrap32 y4, wrap32 y5, wrap32 y6⟩] } Ap A3 none cp c3 0 []) := Lib.hid (by
              rw [rep_at, rep_isBad, ← HIK.out, ← HBK.out, cd_from HVy1.out HVy2.out HVy3.out HVy4.out HVy5.out HVy6.out hy3b hy4b hy5b hy6b HIja.out HBda.out HIjb.out HBdb.out HIjc.out HBdc.out HIjd.out HBdd.out HIje.out HBde.out, from_map_at, from_map_bad, s32_at, s32_bad, ← HIjf.out, ← HBdf.out]
              exact hR)
            have SP : Hid (∀ l j, (repP cardP (k + 1)).from b i3 b3 = .ok l j → cs ++ [⟨(y1 : Int), (y2 : Int), wrap32 y3, wrap32 y4, wrap32 y5, wrap32 y6⟩] = l) := Lib.hid (rep_more HP.out (fun y j e => by
              rw [← HIK.out, ← HBK.out, cd_from HVy1.out HVy2.out HVy3.out HVy4.out HVy5.out HVy6.out hy3b hy4b hy5b hy6b HIja.out HBda.out HIjb.out HBdb.out HIjc.out HBdc.out HIjd.out HBdd.out HIje.out HBde.out] at e
              obtain ⟨c, e1, e2⟩ := map_ok e
              rw [e2]
              have e3 := s32_val b je de
              rw [e1, HVy6.out, ← wrap32_sx y6 hy6b] at e3
              have e3 : c = wrap32 y6 := e3
              rw [e3]))
            clear hR HP
            exact ⟨⟨k + 1, _, A3, c3, by omega, by first | rfl | go_num, by rw [List.length_append, HCL.out]; rfl, SN, SP⟩, by simp [intOf]; omega⟩
          · obtain ⟨e1, e2⟩ := rep_stop (n := m) hk HBK.out.symm
            have HF : Hid (Rr w wr r B A cap b i4 b4 { zeroSt with players := ps, cards := cs } Ap Ac none cp cc 0 []) := Lib.hid (by rw [HI4.out, HB4.out, e1, e2, ← HIK.out]; exact HS.out)
            have HPF : Hid (∀ l j, (repP cardP m).from b i3 b3 = .ok l j → cs = l) := Lib.hid (fun l j e => absurd e (bad_none e2 l j))
            clear HS HP e1 e2
            go_wp2_with fail
            refine Met.intro ⟨(fun _ hM => hM _ _ _ _ _ _ _ _ _ _ _ _ _ _ _ _ _ _ _ _ _ _ _ _ _ _ _ _ _ _ _ _ _ _ _ _ _ _ _ _ _ _ _ _ _ _ _ _ _ _ _ _ _ _ _ _ _ _ _ _ _ _ _ _ _ _ _ _ _ _ _ _ _ _ _ _ _ _ _ _ _ _ _ _ _ _ _ _ _ _ _ _ _ _ _ _ _ _ _ _ _ _ _ _ _ _ _ _ _ _ _ _ _ _ _ _ _ _ _ _ _ _ _ _ _ _ _ _ _ _ _ _ _ _ _ _ _ _ _ _ _ _ _ _ _ _ _ _ _ _ _ _ _ _ _ _ _ _), cs, Ac, cc, hcl2, HF, HPF⟩
        · obtain rfl : k = m := by omega
          have HF : Hid (Rr w wr r B A cap b i4 b4 { zeroSt with players := ps, cards := cs } Ap Ac none cp cc 0 []) := Lib.hid (by rw [HI4.out, HB4.out, ← HIK.out, ← HBK.out]; exact HS.out)
          clear HS
          go_wp2_with fail
          refine Met.intro ⟨(fun _ hM => hM _ _ _ _ _ _ _ _ _ _ _ _ _ _ _ _ _ _ _ _ _ _ _ _ _ _ _ _ _ _ _ _ _ _ _ _ _ _ _ _ _ _ _ _ _ _ _ _ _ _ _ _ _ _ _ _ _ _ _ _ _ _ _ _ _ _ _ _ _ _ _ _ _ _ _ _ _ _ _ _ _ _ _ _ _ _ _ _ _ _ _ _ _ _ _ _ _ _ _ _ _ _ _ _ _ _ _ _ _ _ _ _ _ _ _ _ _ _ _ _ _ _ _ _ _ _ _ _ _ _ _ _ _ _ _ _ _ _ _ _ _ _ _ _ _ _ _ _ _ _ _ _ _ _ _ _ _ _), cs, Ac, cc, hcl2, HF, HP⟩
    case rest2 =>
      clear S4
      refine FrS.rest ?_
      rintro w5 ⟨cs, Ac, cc, hcl, S5, HCS⟩
      intro u1 u5 u6 u7 u8 u9 u10 u11 u12 u13 u14 u15 u16 u17 u18 u19 u20 u21 u22 u23 u24 u25 u26 u27 u28 u29 u30 u31 u32 u33 u34 u35 u36 u37 u38 u39 u40 u41 u42 u43 u44 u45 u46 u47 u48 u49 u50 u51 u52 u53 u54 u55 u56 u57 u58 u59 u60 u61 u62 u63 u64 u65 u66 u67 u68 u69 u70 u71 u72 u73 u74 u75 u76 u77 u78 u79 u80 u81 u82 u83 u84 u85 u86 u87 u88 u89 u90 u91 u92 u93 u94 u95 u96 u97 u98 u99 u100 u101 u102 u103 u104 u105 u106 u107 u108 u109 u110 u111 u112 u113 u114 u115 u116 u117 u118 u119 u120 u121 u122 u123 u124 u125 u126 u127 u128 u129 u130 u131 u132 u133 u134 u135 u136 u137 u138 u139 u140 u141 u142 u143 u144 u145 u146 u147 u148 u149 u150 u151 u152 u153 u154 u155 u156 u157 u158 u159 u160 u161
      go_wp2_with fail
      obtain ⟨i5, hi5⟩ : ∃ z, z = ((repP zoneP (4 * n)).from b i4 b4).at_ := ⟨_, rfl⟩
      obtain ⟨b5, hb5⟩ : ∃ z, z = ((repP zoneP (4 * n)).from b i4 b4).isBad := ⟨_, rfl⟩
      have HI5 := Lib.hid hi5
      have HB5 := Lib.hid hb5
      clear hi5 hb5
      refine wp_cut_in (CutAt r w.heap.size n (CutZ w r B A cap b (4 * n) ps cs Ap Ac cp cc i4 b4 i5 b5)) ?rest3 ?first3
      case first3 =>
        intro K' hK'
        go_loopw [10] (fun vi wr => ∃ (k : Nat) (zs : List (List Int)) (Az : Option Addr) (cz : Nat) (cells : List Value), k ≤ 4 * n ∧ vi = .int .i64 k ∧ zs.length = k ∧ Hid (Rr w wr r B A cap b ((repP zoneP k).from b i4 b4).at_ ((repP zoneP k).from b i4 b4).isBad { zeroSt with players := ps, cards := cs, zones := zs } Ap Ac Az cp cc cz cells) ∧ Hid (∀ l j, (repP zoneP k).from b i4 b4 = .ok l j → zs = l)) (fun vi _ => 4 * n - (intOf vi).toNat)
        case atStart => exact ⟨0, [], none, 0, [], by omega, rfl, rfl, Lib.hid (by cases b4 <;> exact S5.out), Lib.hid (fun l j e => by cases b4 <;> simp [repP, Pr.ret, Pr.from] at e; exact e.1.symm)⟩
        case round =>
          clear S5
          obtain ⟨k, zs, Az, cz, cells, hk, rfl, hzl, HS, HP⟩ := hrel
          have HZL := Lib.hid hzl
          have hzl2 : zs.length ≤ 4 * n := by omega
          clear hzl
          obtain ⟨ik, hik⟩ : ∃ z, z = ((repP zoneP k).from b i4 b4).at_ := ⟨_, rfl⟩
          obtain ⟨bk, hbk⟩ : ∃ z, z = ((repP zoneP k).from b i4 b4).isBad := ⟨_, rfl⟩
          rw [← hik, ← hbk] at HS
          have HIK := Lib.hid hik
          have HBK := Lib.hid hbk
          clear hik hbk
          have q2 : wr.cell? ⟨r, 2, none⟩ = some (.bool bk) := HS.out.rd.box.cellAt 2
          by_cases hlt : k < 4 * n
          · cases bk
            · go_wp2_with fail
              clear q2
              have HN := HNM.out 2 ik false wr HS.out.rd (by decide) (by decide)
              obtain ⟨y1, hv, hy1a, hy1b⟩ := num_nat (show 2 ≤ 4 by decide) b ik false
              obtain ⟨ja, hii⟩ : ∃ z, z = ((numP 2).from b ik false).at_ := ⟨_, rfl⟩
              obtain ⟨da, hbb⟩ : ∃ z, z = ((numP 2).from b ik false).isBad := ⟨_, rfl⟩
              rw [hv, ← hii, ← hbb] at HN
              have HVy1 := Lib.hid hv
              have HIja := Lib.hid hii
              have HBda := Lib.hid hbb
              clear hv hii hbb
              refine HN.mono ?_
              clear HN
              rintro e w6 ⟨rfl, hr1, kk⟩
              have S6 := Lib.hid (Ry.start (HS.out.read hr1 kk))
              have hy : y1 < 65536 := hy1a
              clear hr1 kk HS hy1a hy1b
              go_wp2_with fail
              obtain ⟨iz, hiz⟩ : ∃ z, z = ((repP (numP 2) y1).from b ja da).at_ := ⟨_, rfl⟩
              obtain ⟨bz, hbz⟩ : ∃ z, z = ((repP (numP 2) y1).from b ja da).isBad := ⟨_, rfl⟩
              have HIZ := Lib.hid hiz
              have HBZ := Lib.hid hbz
              clear hiz hbz
              go_loopw [11, 13] (fun vl vj wr => ∃ (j : Nat) (xs : List Int) (Al : Option Addr) (cl : Nat), j ≤ y1 ∧ vj = .int .i64 j ∧ vl = .slice Al xs.length cl ∧ xs.length = j ∧ Hid (Ry w wr r B A cap b ((repP (numP 2) j).from b ja da).at_ ((repP (numP 2) j).from b ja da).isBad { zeroSt with players := ps, cards := cs, zones := zs } Ap Ac Az cp cc cz cells xs Al cl) ∧ Hid (∀ l q, (repP (numP 2) j).from b ja da = .ok l q → xs = l)) (fun _ vj _ => y1 - (intOf vj).toNat)
              case atStart => exact ⟨0, [], none, 0, by omega, rfl, rfl, rfl, Lib.hid (by cases da <;> exact S6.out), Lib.hid (fun l j e => by cases da <;> simp [repP, Pr.ret, Pr.from] at e; exact e.1.symm)⟩
              case round =>
                clear S6
                obtain ⟨j, xs, Al, cl, hj, rfl, rfl, hxl, HY, HX⟩ := hrel
                have HXL := Lib.hid hxl
                have hxl2 : xs.length ≤ y1 := by omega
                clear hxl
                obtain ⟨ij, hij⟩ : ∃ z, z = ((repP (numP 2) j).from b ja da).at_ := ⟨_, rfl⟩
                obtain ⟨bj, hbj⟩ : ∃ z, z = ((repP (numP 2) j).from b ja da).isBad := ⟨_, rfl⟩
                rw [← hij, ← hbj] at HY
                have HIJ := Lib.hid hij
                have HBJ := Lib.hid hbj
                clear hij hbj
                have q2 : wr.cell? ⟨r, 2, none⟩ = some (.bool bj) := HY.out.rr.rd.box.cellAt 2
                by_cases hlt2 : j < y1
                · cases bj
                  · go_wp2_with fail
                    clear q2
                    have HN := HNM.out 2 ij false wr HY.out.rr.rd (by decide) (by decide)
                    obtain ⟨yq, hv, hyqa, hyqb⟩ := num_nat (show 2 ≤ 4 by decide) b ij false
                    obtain ⟨jq, hii⟩ : ∃ z, z = ((numP 2).from b ij false).at_ := ⟨_, rfl⟩
                    obtain ⟨dq, hbb⟩ : ∃ z, z = ((numP 2).from b ij false).isBad := ⟨_, rfl⟩
                    rw [hv, ← hii, ← hbb] at HN
                    have HVyq := Lib.hid hv
                    have HIjq := Lib.hid hii
                    have HBdq := Lib.hid hbb
                    clear hv hii hbb
                    refine HN.mono ?_
                    clear HN
                    rintro e w7 ⟨rfl, hr1, kk⟩
                    have S7 := Lib.hid (HY.out.read hr1 kk)
                    clear hr1 kk HY
                    have S8 := Lib.hid (S7.out.calm ((Keeps.refl _ _).alloc (.cells #[.int .i64 yq] 3)))
                    have HNL := Lib.hid (Lies.row (t := 3) (fr := (0, 0)) (xs := [Value.int .i64 (yq : Int)]) (heap_alloc_new w7 (.cells #[.int .i64 yq] 3)) (Nat.lt_succ_self _))
                    go_wp2_with (first
                      | (at_builtin
                         refine wpList_append_cells _ rfl _ _ 81 rfl w.heap.size 3 (.int .i64 0) 1 8 Tryd.underlying81 info_int rfl (by decide) (.slice Al xs.length cl) xs.length (xs.map (Value.int .i64)) rfl S8.out.own _ (some ⟨w7.heap.size, 0, none⟩) 1 1 [.int .i64 yq] rfl HNL.out rfl (fun u hu => by obtain rfl : u = _ := List.mem_singleton.1 hu; rfl) (by simp only [maxLen]; omega) (by omega) (by have := S8.out.rr.keeps.size; omega) ?_
                         intro A3 c3 wx hown hgrow hor _ _
                         have hR := S7.out.push (x := (yq : Int)) hown hgrow hor))
                    have SN : Hid (Ry w wx r B A cap b ((repP (numP 2) (j + 1)).from b ja da).at_ ((repP (numP 2) (j + 1)).from b ja da).isBad { zeroSt with players := ps, cards := cs, zones := zs } Ap Ac Az cp cc cz cells (xs ++ [(yq : Int)]) A3 c3) := Lib.hid (by
                      rw [rep_at, rep_isBad, ← HIJ.out, ← HBJ.out, ← HIjq.out, ← HBdq.out]
                      exact hR)
                    have SX : Hid (∀ l q, (repP (numP 2) (j + 1)).from b ja da = .ok l q → xs ++ [(yq : Int)] = l) := Lib.hid (rep_more HX.out (fun y q e => by
                      rw [← HIJ.out, ← HBJ.out] at e
                      have e3 := HVyq.out
                      rw [e] at e3
                      exact e3.symm))
                    clear hR HX
                    exact ⟨⟨j + 1, _, A3, c3, by omega, by first | rfl | go_num, by rw [List.length_append]; rfl, by rw [List.length_append, HXL.out]; rfl, SN, SX⟩, by simp [intOf]; omega⟩
                  · obtain ⟨e1, e2⟩ := rep_stop (n := y1) hj HBJ.out.symm
                    have HF : Hid (Ry w wr r B A cap b iz bz { zeroSt with players := ps, cards := cs, zones := zs } Ap Ac Az cp cc cz cells xs Al cl) := Lib.hid (by rw [HIZ.out, HBZ.out, e1, e2, ← HIJ.out]; exact HY.out)
                    have HXF : Hid (∀ l q, (repP (numP 2) y1).from b ja da = .ok l q → xs = l) := Lib.hid (fun l q e => absurd e (bad_none e2 l q))
                    clear HY e1 e2
                    have p3 : wr.cell? ⟨w.heap.size + 1, 2, none⟩ = some (.slice Az zs.length cz) := HF.out.rr.box.cellAt 2
                    have S8 := Lib.hid (HF.out.calm ((Keeps.refl _ _).alloc (.cells #[.slice Al xs.length cl] 81)))
                    have HNL := Lib.hid (Lies.row (t := 81) (fr := (0, 0)) (xs := [Value.slice Al xs.length cl]) (heap_alloc_new wr (.cells #[.slice Al xs.length cl] 81)) (Nat.lt_succ_self _))
                    have hinb : w.heap.size + 1 < wr.heap.size := HF.out.rr.box.inside
                    clear HX
                    go_wp2_with (first
                      | (at_builtin
                         refine wpList_append_cells _ rfl _ _ 24 rfl w.heap.size 81 (.slice none 0 0) 1 24 Tryd.underlying24 info_row rfl (by decide) (.slice Az zs.length cz) zs.length cells rfl S8.out.rr.lists.zones.own _ (some ⟨wr.heap.size, 0, none⟩) 1 1 [.slice Al xs.length cl] rfl HNL.out rfl (fun u hu => by obtain rfl : u = _ := List.mem_singleton.1 hu; rfl) (by simp only [maxLen]; omega) (by omega) (by have := S8.out.rr.keeps.size; omega) ?_
                         intro A3 c3 wx hown hgrow _ _ _
                         obtain ⟨hR, hf, uu, hu⟩ := HF.out.rr.pushZ (x := xs) HF.out.own hown hgrow))
                    have SN : Hid (Rr w (wx.setCell ⟨w.heap.size + 1, 2, none⟩ (.slice A3 (zs.length + 1) c3)) r B A cap b ((repP zoneP (k + 1)).from b i4 b4).at_ ((repP zoneP (k + 1)).from b i4 b4).isBad { zeroSt with players := ps, cards := cs, zones := zs ++ [xs] } Ap Ac A3 cp cc c3 (cells ++ [.slice Al xs.length cl])) := Lib.hid (by
                      rw [rep_at, rep_isBad, ← HIK.out, ← HBK.out, zn_from HVy1.out HIja.out HBda.out, ← HIZ.out, ← HBZ.out]
                      exact hR)
                    have SP : Hid (∀ l q, (repP zoneP (k + 1)).from b i4 b4 = .ok l q → zs ++ [xs] = l) := Lib.hid (rep_more HP.out (fun y q e => by
                      rw [← HIK.out, ← HBK.out, zn_from HVy1.out HIja.out HBda.out] at e
                      exact HXF.out _ _ e))
                    clear hR HP
                    go_roundw
                    case rel => exact ⟨k + 1, _, A3, c3, _, by omega, by first | rfl | go_num, by rw [List.length_append, HZL.out]; rfl, SN, SP⟩
                    case measure => simp [intOf]; omega
                · obtain rfl : j = y1 := by omega
                  have HF : Hid (Ry w wr r B A cap b iz bz { zeroSt with players := ps, cards := cs, zones := zs } Ap Ac Az cp cc cz cells xs Al cl) := Lib.hid (by rw [HIZ.out, HBZ.out, ← HIJ.out, ← HBJ.out]; exact HY.out)
                  have HXF := HX
                  clear HY
                  have p3 : wr.cell? ⟨w.heap.size + 1, 2, none⟩ = some (.slice Az zs.length cz) := HF.out.rr.box.cellAt 2
                  have S8 := Lib.hid (HF.out.calm ((Keeps.refl _ _).alloc (.cells #[.slice Al xs.length cl] 81)))
                  have HNL := Lib.hid (Lies.row (t := 81) (fr := (0, 0)) (xs := [Value.slice Al xs.length cl]) (heap_alloc_new wr (.cells #[.slice Al xs.length cl] 81)) (Nat.lt_succ_self _))
                  have hinb : w.heap.size + 1 < wr.heap.size := HF.out.rr.box.inside
                  clear HX
                  go_wp2_with (first
                    | (at_builtin
                       refine wpList_append_cells _ rfl _ _ 24 rfl w.heap.size 81 (.slice none 0 0) 1 24 Tryd.underlying24 info_row rfl (by decide) (.slice Az zs.length cz) zs.length cells rfl S8.out.rr.lists.zones.own _ (some ⟨wr.heap.size, 0, none⟩) 1 1 [.slice Al xs.length cl] rfl HNL.out rfl (fun u hu => by obtain rfl : u = _ := List.mem_singleton.1 hu; rfl) (by simp only [maxLen]; omega) (by omega) (by have := S8.out.rr.keeps.size; omega) ?_
                       intro A3 c3 wx hown hgrow _ _ _
                       obtain ⟨hR, hf, uu, hu⟩ := HF.out.rr.pushZ (x := xs) HF.out.own hown hgrow))
                  have SN : Hid (Rr w (wx.setCell ⟨w.heap.size + 1, 2, none⟩ (.slice A3 (zs.length + 1) c3)) r B A cap b ((repP zoneP (k + 1)).from b i4 b4).at_ ((repP zoneP (k + 1)).from b i4 b4).isBad { zeroSt with players := ps, cards := cs, zones := zs ++ [xs] } Ap Ac A3 cp cc c3 (cells ++ [.slice Al xs.length cl])) := Lib.hid (by
                    rw [rep_at, rep_isBad, ← HIK.out, ← HBK.out, zn_from HVy1.out HIja.out HBda.out, ← HIZ.out, ← HBZ.out]
                    exact hR)
                  have SP : Hid (∀ l q, (repP zoneP (k + 1)).from b i4 b4 = .ok l q → zs ++ [xs] = l) := Lib.hid (rep_more HP.out (fun y q e => by
                    rw [← HIK.out, ← HBK.out, zn_from HVy1.out HIja.out HBda.out] at e
                    exact HXF.out _ _ e))
                  clear hR HP
                  go_roundw
                  case rel => exact ⟨k + 1, _, A3, c3, _, by omega, by first | rfl | go_num, by rw [List.length_append, HZL.out]; rfl, SN, SP⟩
                  case measure => simp [intOf]; omega
            · obtain ⟨e1, e2⟩ := rep_stop (n := 4 * n) hk HBK.out.symm
              have HF : Hid (Rr w wr r B A cap b i5 b5 { zeroSt with players := ps, cards := cs, zones := zs } Ap Ac Az cp cc cz cells) := Lib.hid (by rw [HI5.out, HB5.out, e1, e2, ← HIK.out]; exact HS.out)
              have HPF : Hid (∀ l j, (repP zoneP (4 * n)).from b i4 b4 = .ok l j → zs = l) := Lib.hid (fun l j e => absurd e (bad_none e2 l j))
              clear HS HP e1 e2
              go_wp2_with fail
              refine Met.intro ⟨(fun _ hM => hM _ _ _ _ _ _ _ _ _ _ _ _ _ _ _ _ _ _ _ _ _ _ _ _ _ _ _ _ _ _ _ _ _ _ _ _ _ _ _ _ _ _ _ _ _ _ _ _ _ _ _ _ _ _ _ _ _ _ _ _ _ _ _ _ _ _ _ _ _ _ _ _ _ _ _ _ _ _ _ _ _ _ _ _ _ _ _ _ _ _ _ _ _ _ _ _ _ _ _ _ _ _ _ _ _ _ _ _ _ _ _ _ _ _ _ _ _ _ _ _ _ _ _ _ _ _ _ _ _ _ _ _ _ _ _ _ _ _ _ _ _ _ _ _ _ _ _ _ _ _ _ _ _ _ _ _ _ _), zs, Az, cz, cells, HF, HPF⟩
          · have hke : k = 4 * n := by omega
            have HF : Hid (Rr w wr r B A cap b i5 b5 { zeroSt with players := ps, cards := cs, zones := zs } Ap Ac Az cp cc cz cells) := Lib.hid (by rw [HI5.out, HB5.out, ← hke, ← HIK.out, ← HBK.out]; exact HS.out)
            have HPF : Hid (∀ l j, (repP zoneP (4 * n)).from b i4 b4 = .ok l j → zs = l) := Lib.hid (by rw [← hke]; exact HP.out)
            clear HS HP hke
            go_wp2_with fail
            refine Met.intro ⟨(fun _ hM => hM _ _ _ _ _ _ _ _ _ _ _ _ _ _ _ _ _ _ _ _ _ _ _ _ _ _ _ _ _ _ _ _ _ _ _ _ _ _ _ _ _ _ _ _ _ _ _ _ _ _ _ _ _ _ _ _ _ _ _ _ _ _ _ _ _ _ _ _ _ _ _ _ _ _ _ _ _ _ _ _ _ _ _ _ _ _ _ _ _ _ _ _ _ _ _ _ _ _ _ _ _ _ _ _ _ _ _ _ _ _ _ _ _ _ _ _ _ _ _ _ _ _ _ _ _ _ _ _ _ _ _ _ _ _ _ _ _ _ _ _ _ _ _ _ _ _ _ _ _ _ _ _ _ _ _ _ _ _), zs, Az, cz, cells, HF, HPF⟩
      case rest3 =>
        clear S5
        refine FrS.rest ?_
        rintro w6 ⟨zs, Az, cz, cells, S6, HZS⟩
        intro u1 u5 u6 u7 u8 u9 u10 u11 u12 u13 u14 u15 u16 u17 u18 u19 u20 u21 u22 u23 u24 u25 u26 u27 u28 u29 u30 u31 u32 u33 u34 u35 u36 u37 u38 u39 u40 u41 u42 u43 u44 u45 u46 u47 u48 u49 u50 u51 u52 u53 u54 u55 u56 u57 u58 u59 u60 u61 u62 u63 u64 u65 u66 u67 u68 u69 u70 u71 u72 u73 u74 u75 u76 u77 u78 u79 u80 u81 u82 u83 u84 u85 u86 u87 u88 u89 u90 u91 u92 u93 u94 u95 u96 u97 u98 u99 u100 u101 u102 u103 u104 u105 u106 u107 u108 u109 u110 u111 u112 u113 u114 u115 u116 u117 u118 u119 u120 u121 u122 u123 u124 u125 u126 u127 u128 u129 u130 u131 u132 u133 u134 u135 u136 u137 u138 u139 u140 u141 u142 u143 u144 u145 u146 u147 u148 u149 u150 u151 u152 u153 u154 u155 u156 u157 u158 u159 u160 u161
        go_wp2_with fail
        have HN := HNM.out 4 i5 b5 w6 S6.out.rd (by decide) (by decide)
        obtain ⟨z6, hv, hz6a, hz6b⟩ := num_nat (show 4 ≤ 4 by decide) b i5 b5
        obtain ⟨i6, hii⟩ : ∃ z, z = ((numP 4).from b i5 b5).at_ := ⟨_, rfl⟩
        obtain ⟨b6, hbb⟩ : ∃ z, z = ((numP 4).from b i5 b5).isBad := ⟨_, rfl⟩
        rw [hv, ← hii, ← hbb] at HN
        have HVz6 := Lib.hid hv
        have HIi6 := Lib.hid hii
        have HBb6 := Lib.hid hbb
        clear hv hii hbb
        refine HN.mono ?_
        clear HN
        rintro e t6 ⟨rfl, hr1, kk⟩
        have U0 : Hid (Rr w t6 r B A cap b i6 b6 ({ players := ps, cards := cs, zones := zs, turn := 0, whose := 0, fin := 0, winner := 0 } : St) Ap Ac Az cp cc cz cells) := Lib.hid (S6.out.read hr1 kk)
        clear S6 hr1 kk
        have c1 : t6.cell? ⟨w.heap.size + 1, 3, none⟩ = some (.int .i32 0) := U0.out.box.cellAt 3
        have f1 := U0.out.box.free 3
        have V0 : Hid (Rr w (t6.setCell ⟨w.heap.size + 1, 3, none⟩ (.int .i32 (wrap32 z6))) r B A cap b i6 b6 ({ players := ps, cards := cs, zones := zs, turn := wrap32 z6, whose := 0, fin := 0, winner := 0 } : St) Ap Ac Az cp cc cz cells) := Lib.hid (U0.out.field 3 (.int .i32 (wrap32 z6)) rfl ⟨U0.out.lists.players, U0.out.lists.cards, U0.out.lists.zones⟩)
        go_wp2_with fail
        clear U0 c1 f1
        generalize t6.setCell ⟨w.heap.size + 1, 3, none⟩ (.int .i32 (wrap32 z6)) = t6' at *
        have HN := HNM.out 1 i6 b6 t6' V0.out.rd (by decide) (by decide)
        obtain ⟨z7, hv, hz7a, hz7b⟩ := num_nat (show 1 ≤ 4 by decide) b i6 b6
        obtain ⟨i7, hii⟩ : ∃ z, z = ((numP 1).from b i6 b6).at_ := ⟨_, rfl⟩
        obtain ⟨b7, hbb⟩ : ∃ z, z = ((numP 1).from b i6 b6).isBad := ⟨_, rfl⟩
        rw [hv, ← hii, ← hbb] at HN
        have HVz7 := Lib.hid hv
        have HIi7 := Lib.hid hii
        have HBb7 := Lib.hid hbb
        clear hv hii hbb
        refine HN.mono ?_
        clear HN
        rintro e t7 ⟨rfl, hr1, kk⟩
        have U1 : Hid (Rr w t7 r B A cap b i7 b7 ({ players := ps, cards := cs, zones := zs, turn := wrap32 z6, whose := 0, fin := 0, winner := 0 } : St) Ap Ac Az cp cc cz cells) := Lib.hid (V0.out.read hr1 kk)
        clear V0 hr1 kk
        have c1 : t7.cell? ⟨w.heap.size + 1, 4, none⟩ = some (.int .i64 0) := U1.out.box.cellAt 4
        have f1 := U1.out.box.free 4
        have V1 : Hid (Rr w (t7.setCell ⟨w.heap.size + 1, 4, none⟩ (.int .i64 z7)) r B A cap b i7 b7 ({ players := ps, cards := cs, zones := zs, turn := wrap32 z6, whose := (z7 : Int), fin := 0, winner := 0 } : St) Ap Ac Az cp cc cz cells) := Lib.hid (U1.out.field 4 (.int .i64 z7) rfl ⟨U1.out.lists.players, U1.out.lists.cards, U1.out.lists.zones⟩)
        go_wp2_with fail
        clear U1 c1 f1
        generalize t7.setCell ⟨w.heap.size + 1, 4, none⟩ (.int .i64 z7) = t7' at *
        have HN := HNM.out 1 i7 b7 t7' V1.out.rd (by decide) (by decide)
        obtain ⟨z8, hv, hz8a, hz8b⟩ := num_nat (show 1 ≤ 4 by decide) b i7 b7
        obtain ⟨i8, hii⟩ : ∃ z, z = ((numP 1).from b i7 b7).at_ := ⟨_, rfl⟩
        obtain ⟨b8, hbb⟩ : ∃ z, z = ((numP 1).from b i7 b7).isBad := ⟨_, rfl⟩
        rw [hv, ← hii, ← hbb] at HN
        have HVz8 := Lib.hid hv
        have HIi8 := Lib.hid hii
        have HBb8 := Lib.hid hbb
        clear hv hii hbb
        refine HN.mono ?_
        clear HN
        rintro e t8 ⟨rfl, hr1, kk⟩
        have U2 : Hid (Rr w t8 r B A cap b i8 b8 ({ players := ps, cards := cs, zones := zs, turn := wrap32 z6, whose := (z7 : Int), fin := 0, winner := 0 } : St) Ap Ac Az cp cc cz cells) := Lib.hid (V1.out.read hr1 kk)
        clear V1 hr1 kk
        have c1 : t8.cell? ⟨w.heap.size + 1, 5, none⟩ = some (.int .i8 0) := U2.out.box.cellAt 5
        have f1 := U2.out.box.free 5
        have V2 : Hid (Rr w (t8.setCell ⟨w.heap.size + 1, 5, none⟩ (.int .i8 (IntKind.i8.wrap z8))) r B A cap b i8 b8 ({ players := ps, cards := cs, zones := zs, turn := wrap32 z6, whose := (z7 : Int), fin := IntKind.i8.wrap z8, winner := 0 } : St) Ap Ac Az cp cc cz cells) := Lib.hid (U2.out.field 5 (.int .i8 (IntKind.i8.wrap z8)) rfl ⟨U2.out.lists.players, U2.out.lists.cards, U2.out.lists.zones⟩)
        go_wp2_with fail
        clear U2 c1 f1
        generalize t8.setCell ⟨w.heap.size + 1, 5, none⟩ (.int .i8 (IntKind.i8.wrap z8)) = t8' at *
        have HN := HNM.out 1 i8 b8 t8' V2.out.rd (by decide) (by decide)
        obtain ⟨z9, hv, hz9a, hz9b⟩ := num_nat (show 1 ≤ 4 by decide) b i8 b8
        obtain ⟨i9, hii⟩ : ∃ z, z = ((numP 1).from b i8 b8).at_ := ⟨_, rfl⟩
        obtain ⟨b9, hbb⟩ : ∃ z, z = ((numP 1).from b i8 b8).isBad := ⟨_, rfl⟩
        rw [hv, ← hii, ← hbb] at HN
        have HVz9 := Lib.hid hv
        have HIi9 := Lib.hid hii
        have HBb9 := Lib.hid hbb
        clear hv hii hbb
        refine HN.mono ?_
        clear HN
        rintro e t9 ⟨rfl, hr1, kk⟩
        have U3 : Hid (Rr w t9 r B A cap b i9 b9 ({ players := ps, cards := cs, zones := zs, turn := wrap32 z6, whose := (z7 : Int), fin := IntKind.i8.wrap z8, winner := 0 } : St) Ap Ac Az cp cc cz cells) := Lib.hid (V2.out.read hr1 kk)
        clear V2 hr1 kk
        have c1 : t9.cell? ⟨w.heap.size + 1, 6, none⟩ = some (.int .i64 0) := U3.out.box.cellAt 6
        have f1 := U3.out.box.free 6
        have V3 : Hid (Rr w (t9.setCell ⟨w.heap.size + 1, 6, none⟩ (.int .i64 z9)) r B A cap b i9 b9 ({ players := ps, cards := cs, zones := zs, turn := wrap32 z6, whose := (z7 : Int), fin := IntKind.i8.wrap z8, winner := (z9 : Int) } : St) Ap Ac Az cp cc cz cells) := Lib.hid (U3.out.field 6 (.int .i64 z9) rfl ⟨U3.out.lists.players, U3.out.lists.cards, U3.out.lists.zones⟩)
        go_wp2_with fail
        clear U3 c1 f1
        generalize t9.setCell ⟨w.heap.size + 1, 6, none⟩ (.int .i64 z9) = t9' at *
        have HG : Hid (StepsG b i0 b0 n m i1 i2 i3 i4 i5 i6 i7 i8 i9 b1 b2 b3 b4 b5 b6 b7 b8 b9) := Lib.hid ⟨by rw [HVn.out]; rfl, HIi1.out.symm, HBb1.out.symm, HI2.out.symm, HB2.out.symm, by rw [HVm.out]; rfl, HIi3.out.symm, HBb3.out.symm, HI4.out.symm, HB4.out.symm, HI5.out.symm, HB5.out.symm, HIi6.out.symm, HBb6.out.symm, HIi7.out.symm, HBb7.out.symm, HIi8.out.symm, HBb8.out.symm, HIi9.out.symm, HBb9.out.symm⟩
        have HRO := Lib.hid (read_of HG.out HI0.out HB0.out)
        have HVV : Hid (i0 = 5 ∧ b0 = false → ∀ y j, restP.from b 5 false = .ok y j → ({ players := ps, cards := cs, zones := zs, turn := wrap32 z6, whose := (z7 : Int), fin := IntKind.i8.wrap z8, winner := (z9 : Int) } : St) = y) := Lib.hid (fun ⟨e1, e2⟩ => by
          have hg := HG.out
          subst e1 e2
          have h := hg.ok.vals HPS.out HCS.out HZS.out
          rw [HVz6.out, HVz7.out, HVz8.out, HVz9.out, ← wrap32_sx z6 hz6b, ← wrap8_sx (z8 : Int) (by omega) (by omega), sx32_small (show (z7 : Int) < 2147483648 by omega), sx32_small (show (z9 : Int) < 2147483648 by omega)] at h
          exact h)
        clear HG HI0 HB0
        have q0 : t9'.cell? ⟨r, 0, none⟩ = some (.slice A b.length cap) := V3.out.rd.box.cellAt 0
        have q1 : t9'.cell? ⟨r, 1, none⟩ = some (.int .i64 i9) := V3.out.rd.box.cellAt 1
        have q2 : t9'.cell? ⟨r, 2, none⟩ = some (.bool b9) := V3.out.rd.box.cellAt 2
        have g2 := V3.out.rd.box.free 2
        have CD : ∀ d, Rr w (t9'.drewN d) r B A cap b i9 b9 ({ players := ps, cards := cs, zones := zs, turn := wrap32 z6, whose := (z7 : Int), fin := IntKind.i8.wrap z8, winner := (z9 : Int) } : St) Ap Ac Az cp cc cz cells := fun d => V3.out.calm ((Keeps.refl _ _).drewN _)
        have HCD := Lib.hid CD
        clear CD V3
        cases b9
        · by_cases hlt : i9 < b.length
          · have hd : decide ((i9 : Int) < (b.length : Int)) = true := decide_eq_true (by omega)
            have HRD : Hid (readP b = .bad i9) := Lib.hid (HRO.out.2.1 rfl hlt)
            go_quiet (fail)
            go_wp2_with (first
              | (refine wpList_load_whole rfl 27 _ rfl (w.heap.size + 1) rfl 27 (stC { players := ps, cards := cs, zones := zs, turn := wrap32 z6, whose := (z7 : Int), fin := IntKind.i8.wrap z8, winner := (z9 : Int) } Ap Ac Az cp cc cz) _ ((HCD.out _).setBad true).box Tryd.underlying27 rfl sizeSt ?_)
              | (refine wpList_store_whole rfl 27 _ _ rfl rfl w.heap.size rfl (stC { players := ps, cards := cs, zones := zs, turn := wrap32 z6, whose := (z7 : Int), fin := IntKind.i8.wrap z8, winner := (z9 : Int) } Ap Ac Az cp cc cz) rfl 27 #[.slice none 0 0, .slice none 0 0, .slice none 0 0, .int .i32 0, .int .i64 0, .int .i8 0, .int .i64 0] ((HCD.out _).setBad true).res sizeSt rfl (by simp [Value.oneCell', stC]) ?_))
            refine bodyPost_ret (results_cell (by rfl) _ w.heap.size (by rfl) (stC { players := ps, cards := cs, zones := zs, turn := wrap32 z6, whose := (z7 : Int), fin := IntKind.i8.wrap z8, winner := (z9 : Int) } Ap Ac Az cp cc cz) _ (heap_setRow_same ((HCD.out _).setBad true).res _) _ Tryd.underlying27 rfl sizeSt) rfl ?_
            exact Rr.ends ((HCD.out _).setBad true) (fun y j e => by rw [HRD.out] at e; cases e) (by rw [HRD.out]; rfl) (by rw [HRD.out]; rfl)
          · have hd : decide ((i9 : Int) < (b.length : Int)) = false := decide_eq_false (by omega)
            have HRD := Lib.hid (HRO.out.2.2 rfl hlt)
            go_quiet (fail)
            go_wp2_with (first
              | (refine wpList_load_whole rfl 27 _ rfl (w.heap.size + 1) rfl 27 (stC { players := ps, cards := cs, zones := zs, turn := wrap32 z6, whose := (z7 : Int), fin := IntKind.i8.wrap z8, winner := (z9 : Int) } Ap Ac Az cp cc cz) _ ((HCD.out _)).box Tryd.underlying27 rfl sizeSt ?_)
              | (refine wpList_store_whole rfl 27 _ _ rfl rfl w.heap.size rfl (stC { players := ps, cards := cs, zones := zs, turn := wrap32 z6, whose := (z7 : Int), fin := IntKind.i8.wrap z8, winner := (z9 : Int) } Ap Ac Az cp cc cz) rfl 27 #[.slice none 0 0, .slice none 0 0, .slice none 0 0, .int .i32 0, .int .i64 0, .int .i8 0, .int .i64 0] ((HCD.out _)).res sizeSt rfl (by simp [Value.oneCell', stC]) ?_))
            refine bodyPost_ret (results_cell (by rfl) _ w.heap.size (by rfl) (stC { players := ps, cards := cs, zones := zs, turn := wrap32 z6, whose := (z7 : Int), fin := IntKind.i8.wrap z8, winner := (z9 : Int) } Ap Ac Az cp cc cz) _ (heap_setRow_same ((HCD.out _)).res _) _ Tryd.underlying27 rfl sizeSt) rfl ?_
            exact Rr.ends ((HCD.out _)) (fun y j e => HVV.out ⟨HRD.out.1, HRD.out.2.1⟩ y j (by rw [← HRD.out.2.2.1]; exact e)) HRD.out.2.2.2.1 HRD.out.2.2.2.2
        · have HRD : Hid (readP b = .bad i9) := Lib.hid (HRO.out.1 rfl)
          go_quiet (fail)
          go_wp2_with (first
            | (refine wpList_load_whole rfl 27 _ rfl (w.heap.size + 1) rfl 27 (stC { players := ps, cards := cs, zones := zs, turn := wrap32 z6, whose := (z7 : Int), fin := IntKind.i8.wrap z8, winner := (z9 : Int) } Ap Ac Az cp cc cz) _ ((HCD.out _)).box Tryd.underlying27 rfl sizeSt ?_)
            | (refine wpList_store_whole rfl 27 _ _ rfl rfl w.heap.size rfl (stC { players := ps, cards := cs, zones := zs, turn := wrap32 z6, whose := (z7 : Int), fin := IntKind.i8.wrap z8, winner := (z9 : Int) } Ap Ac Az cp cc cz) rfl 27 #[.slice none 0 0, .slice none 0 0, .slice none 0 0, .int .i32 0, .int .i64 0, .int .i8 0, .int .i64 0] ((HCD.out _)).res sizeSt rfl (by simp [Value.oneCell', stC]) ?_))
          refine bodyPost_ret (results_cell (by rfl) _ w.heap.size (by rfl) (stC { players := ps, cards := cs, zones := zs, turn := wrap32 z6, whose := (z7 : Int), fin := IntKind.i8.wrap z8, winner := (z9 : Int) } Ap Ac Az cp cc cz) _ (heap_setRow_same ((HCD.out _)).res _) _ Tryd.underlying27 rfl sizeSt) rfl ?_
          exact Rr.ends ((HCD.out _)) (fun y j e => by rw [HRD.out] at e; cases e) (by rw [HRD.out]; rfl) (by rw [HRD.out]; rfl)

end Go.Proofs.YthmfbcfbcookiaaDoor
