/-
  Encode of packs: the walk. Conditions: a pack of at most 10 ^ 12 bytes.
-/
import Derived.Test.YtcmbdnjcfneinaaGreatDoorWrMc
import Derived.Test.YtcmbdnjcfneinaaGreatDoorSuM
import Derived.Shelf.Bytes.SlClone
namespace Go.Proofs.YtcmbdnjcfneinaaGreatDoor
open Go.RowKit
theorem owns_base {w : World} {B B' n size : Nat} {t : TypeId} {v : Value} {xs : List Value} (h : w.ownsRow B t size v n xs) (hb : ∀ k, v.ownBlock = some k → B' ≤ k) : w.ownsRow B' t size v n xs := by
  obtain ⟨hl, ⟨rfl, h0⟩ | ⟨g, cap, cur, rfl, hB, hg, rest⟩⟩ := h
  · exact ⟨hl, .inl ⟨rfl, h0⟩⟩
  · exact ⟨hl, .inr ⟨g, cap, cur, rfl, hb g rfl, hg, rest⟩⟩
theorem clone_any (g off cap : Nat) (l : List Byte) (w : World) (hm : ∀ j v, (bytesV l)[j]? = some v → w.cell? ⟨g, off + j, none⟩ = some v) (hlim : l.length ≤ 140737488355328) :
    Calls Tryz.prog 40 #[.slice (some ⟨g, off, none⟩) l.length cap] w fun e w' => ∃ v', e = .returned v' ∧ w'.ownsRow w.heap.size 5 1 v' l.length (bytesV l) ∧ v' ≠ .slice none 0 0 ∧ Below w.heap.size w w' := by
  have e : (l.map fun c => (c.toNat : Int)).map (Value.int .u8) = bytesV l := by rw [List.map_map]; rfl
  have h := Any.bytes_Clone_at Tryz.laySlk4 ⟨g, off, none⟩ l.length cap (l.map fun c => (c.toNat : Int)) w (by simp) hlim (fun i hi => by
    rw [Lib.addr_add]
    refine hm i _ ?_
    rw [bytesV_get l i hi]
    simp [List.getD, List.getElem?_eq_getElem hi])
  rw [e] at h
  exact h
/-- A row, read. -/
theorem owns_lies {w : World} {B n : Nat} {t : TypeId} {v : Value} {xs : List Value} (h : w.ownsRow B t 1 v n xs) (hn : 0 < n) : ∃ g cap, v = .slice (some ⟨g, 0, none⟩) n cap ∧ g < w.heap.size ∧ n ≤ cap ∧ ∀ j u, xs[j]? = some u → w.cell? ⟨g, 0 + j, none⟩ = some u := by
  obtain ⟨hl, ⟨rfl, h0⟩ | ⟨g, cap, cur, rfl, hB, hg, hnc, hcm, hcs, ht⟩⟩ := h
  · omega
  · refine ⟨g, cap, rfl, (Array.getElem?_eq_some_iff.1 hg).1, hnc, fun j u hj => ?_⟩
    rw [Nat.zero_add, Lib.cell_of_heap hg]
    have h2 : (cur.toList.take (n * 1))[j]? = some u := by rw [ht]; exact hj
    have hjl : j < n := by have := (List.getElem?_eq_some_iff.1 hj).1; omega
    rw [List.getElem?_take, if_pos (by omega), Array.getElem?_toList] at h2
    exact h2
theorem PkIn.more {w : World} {B B' : Nat} {p : Pk} {Ai At Ak : Option Addr} (h : PkIn w B p Ai At Ak) (hB : B ≤ B') : PkIn w B' p Ai At Ak := ⟨h.ints.more hB, h.texts.more hB, h.kinds.more hB⟩
/-- The writer's base: the pack's box and its lists, below it. -/
structure EnBase (p : Pk) (Ai At Ak : Option Addr) (ci ct ck pb b : Nat) (w : World) : Prop where
  box : Whole w pb 26 (pkC p Ai At Ak ci ct ck)
  lists : PkIn w b p Ai At Ak
  far : pb < b
  here : b < w.heap.size
theorem EnBase.on {p : Pk} {Ai At Ak : Option Addr} {ci ct ck pb b : Nat} {w wr w1 : World} {l : List Byte} (h : EnBase p Ai At Ak ci ct ck pb b w) (hw : WrAt b l w wr) (hk : Keeps (fun _ => False) wr w1) : EnBase p Ai At Ak ci ct ck pb b w1 := by
  have hb : Below b w w1 := hw.below.trans (hk.below (Nat.le_of_lt hw.size) (fun _ e => e.elim))
  exact ⟨h.box.below hb h.far, h.lists.keeps (keepsBelow hb) (fun k hk hn => by omega) (Nat.le_of_lt h.here), h.far, Nat.lt_of_lt_of_le h.here hb.size⟩
theorem section_lit (N : Nat) (z : Int) (hz : (N : Int) = z) (K : Nat) (caps : Array Value) (m : List Byte) (hK : ∀ args w, (callFunc K args).run Tryz.prog w = .ok (.enter K args) w) (b : Nat) (l : List Byte) (hl0 : l ≠ []) (w wr : World) (h : WrAt b l w wr)
    (hbody : ∀ w1 b2, Keeps (fun _ => False) wr w1 → b2 = wr.heap.size → WrAt b2 [] w1 w1 → Calls Tryz.prog K (#[.pointer (some ⟨b2, 0, none⟩)] ++ caps) w1 fun e w' => e = .returned (.tuple #[]) ∧ WrAt b2 m w1 w') (hlim : l.length + m.length + 5 ≤ 140737488355328) :
    Calls Tryz.prog 30 #[.pointer (some ⟨b, 0, none⟩), .int .i64 z, .func (.func K) #[] caps] wr fun e w' => e = .returned (.tuple #[]) ∧ WrAt b (l ++ secE (BitVec.ofNat 8 N) m) w w' := by
  subst hz
  exact (section_any N K caps m hK b l hl0 wr h.self hbody hlim).mono fun _ _ ⟨he, hk⟩ => ⟨he, h.trans hk⟩
theorem le_byte (x : BitVec 32) (k : Nat) : (((x >>> k).setWidth 8).toNat : Int) = (x.toNat : Int) / 2 ^ k % 256 := by
  rw [BitVec.toNat_setWidth, BitVec.toNat_ushiftRight, Nat.shiftRight_eq_div_pow]
  rw [Int.natCast_emod, Int.natCast_ediv, Int.natCast_pow]
  rfl
set_option maxRecDepth 4000 in
set_option maxHeartbeats 4000000 in
theorem encode_any (p : Pk) (Ai At Ak : Option Addr) (ci ct ck : Nat) (w : World) (hx : PkIn w w.heap.size p Ai At Ak) (hm : PkFew p) (hz : sizeP p ≤ 1000000000000) :
    Calls Tryz.prog 9 #[.agg (pkC p Ai At Ak ci ct ck)] w fun e w' => ∃ v, e = .returned (.tuple #[v, .int .i64 (encP p).2]) ∧ w'.ownsRow w.heap.size 5 1 v (encP p).1.length (bytesV (encP p).1) ∧ Keeps (fun _ => False) w w' := by
  have ka := (Keeps.refl (fun _ => False) w).alloc (.cells (pkC p Ai At Ak ci ct ck) 26)
  have HM : Hid (Whole (w.alloc (.cells (pkC p Ai At Ak ci ct ck) 26)) w.heap.size 26 (pkC p Ai At Ak ci ct ck)) := Lib.hid (Whole.made w _ _)
  have HK : Hid (Keeps (fun _ => False) w (w.alloc (.cells (pkC p Ai At Ak ci ct ck) 26))) := Lib.hid ka
  have HC := Lib.hid (check_any p Ai At Ak ci ct ck _ (hx.past ka) hm hz)
  have HX := Lib.hid hx
  have HF := Lib.hid hm
  clear hx hm ka
  have hmf : ∀ (fn : Fn) (first cap : Array Value) (w : World), (Instr.makeFunc fn first cap).run Tryz.prog w = .ok (.func fn first cap) w := fun _ _ _ _ => rfl
  unfold pkC at *
  obtain ⟨R, hR⟩ : ∃ R, R = encP p := ⟨_, rfl⟩
  rw [← hR]
  have HRe := Lib.hid hR
  clear hR
  go_enter Tryz.func9, Tryz.ntmps9
  go_wp2_with fail
  generalize w.alloc _ = w0 at *
  refine HC.out.mono ?_
  rintro e w1 ⟨rfl, k1⟩
  have HK1 := Lib.hid (HK.out.trans k1)
  have HM1 := Lib.hid (HM.out.keeps k1 id)
  clear HK HM HC k1
  by_cases hc : chk p = 0
  · obtain ⟨hg, hs⟩ := good_of_chk hc HF.out.ints64
    have henc : Hid (R = (packE p, 0)) := Lib.hid (by rw [HRe.out]; unfold encP; rw [if_neg (by rw [hc]; simp)])
    rw [hc]
    clear hc hg
    have hfr := wrFresh w1
    have HB0 : Hid (WrAt w1.heap.size [] (w1.alloc (.cells #[.slice none 0 0, .int .i64 0, .int .i8 0] 85)) (w1.alloc (.cells #[.slice none 0 0, .int .i64 0, .int .i8 0] 85))) :=
      Lib.hid ⟨hfr, by simp, Below.refl _ _, fun _ _ _ _ _ h => h⟩
    have k2 : Keeps (fun _ => False) w1 (w1.alloc (.cells #[.slice none 0 0, .int .i64 0, .int .i8 0] 85)) := (Keeps.refl (fun _ => False) w1).alloc _
    have hin := HM1.out.inside
    have HE0 : Hid (EnBase p Ai At Ak ci ct ck w.heap.size w1.heap.size (w1.alloc (.cells #[.slice none 0 0, .int .i64 0, .int .i8 0] 85))) :=
      Lib.hid ⟨HM1.out.keeps k2 id, ((HX.out.keeps (HK1.out.trans k2) (fun _ _ => id) (Nat.le_refl _))).more (by omega), hin, by simp⟩
    have HK2 := Lib.hid (HK1.out.trans k2)
    clear hfr k2 HM1 HX
    go_wp2_with fail
    generalize hbb : w1.heap.size = b at *
    generalize w1.alloc _ = w2 at *
    have hh : headP.length = 5 := rfl
    have hsum : 20 + 2 + (intsE p.ints).length + (textsE p.texts).length + (kindsE p.kinds).length + 9 = sizeP p := by
      have h := secsE_length p
      unfold secsE at h
      simp only [List.length_append, secE_length, be_length] at h
      omega
    refine (wrString_any b [] headP _ w2 w2 HB0.out (by rfl) (by decide)).mono ?_
    rintro e w3 ⟨rfl, hp⟩
    rw [List.nil_append] at hp
    have HP0 := Lib.hid hp
    clear hp HB0
    go_wp2_with fail
    have HS1 := Lib.hid (section_lit 1 1 rfl 31 #[.pointer (some ⟨w.heap.size, 0, none⟩)] (be 2 p.cards) (enters_of Tryz.func31 (by kernel_rfl) rfl) b (headP)
      (by decide) w2 w3 HP0.out (fun W b2 hk hb2 hW => by
        have hb := HE0.out.on HP0.out hk
        have hle : b ≤ b2 := by rw [hb2]; exact Nat.le_of_lt HP0.out.size
        exact body1_any p Ai At Ak ci ct ck _ b2 W hW hb.box) (by rw [hh, be_length]; omega))
    refine HS1.out.mono ?_
    rintro e w4 ⟨rfl, hp⟩
    have HP1 := Lib.hid hp
    clear hp HP0 HS1
    go_wp2_with fail
    have HS2 := Lib.hid (section_lit 2 2 rfl 33 #[.pointer (some ⟨w.heap.size, 0, none⟩)] (intsE p.ints) (enters_of Tryz.func33 (by kernel_rfl) rfl) b (headP ++ secE (BitVec.ofNat 8 1) (be 2 p.cards))
      (by intro e; have := congrArg List.length e; simp only [List.length_append, hh, List.length_nil] at this; omega) w2 w4 HP1.out (fun W b2 hk hb2 hW => by
        have hb := HE0.out.on HP1.out hk
        have hle : b ≤ b2 := by rw [hb2]; exact Nat.le_of_lt HP1.out.size
        exact body2_any p Ai At Ak ci ct ck _ b2 W hW hb.box (by have := hb.far; omega) (hb.lists.ints.more hle) hz) (by (try simp only [List.length_append, secE_length]); (try simp only [hh, be_length]); omega))
    refine HS2.out.mono ?_
    rintro e w5 ⟨rfl, hp⟩
    have HP2 := Lib.hid hp
    clear hp HP1 HS2
    go_wp2_with fail
    have HS3 := Lib.hid (section_lit 3 3 rfl 34 #[.pointer (some ⟨w.heap.size, 0, none⟩)] (textsE p.texts) (enters_of Tryz.func34 (by kernel_rfl) rfl) b (headP ++ secE (BitVec.ofNat 8 1) (be 2 p.cards) ++ secE (BitVec.ofNat 8 2) (intsE p.ints))
      (by intro e; have := congrArg List.length e; simp only [List.length_append, hh, List.length_nil] at this; omega) w2 w5 HP2.out (fun W b2 hk hb2 hW => by
        have hb := HE0.out.on HP2.out hk
        have hle : b ≤ b2 := by rw [hb2]; exact Nat.le_of_lt HP2.out.size
        exact body3_any p Ai At Ak ci ct ck _ b2 W hW hb.box (by have := hb.far; omega) (hb.lists.texts.more hle) hz) (by (try simp only [List.length_append, secE_length]); (try simp only [hh, be_length]); omega))
    refine HS3.out.mono ?_
    rintro e w6 ⟨rfl, hp⟩
    have HP3 := Lib.hid hp
    clear hp HP2 HS3
    go_wp2_with fail
    have HS4 := Lib.hid (section_lit 4 4 rfl 35 #[.pointer (some ⟨w.heap.size, 0, none⟩)] (kindsE p.kinds) (enters_of Tryz.func35 (by kernel_rfl) rfl) b (headP ++ secE (BitVec.ofNat 8 1) (be 2 p.cards) ++ secE (BitVec.ofNat 8 2) (intsE p.ints) ++ secE (BitVec.ofNat 8 3) (textsE p.texts))
      (by intro e; have := congrArg List.length e; simp only [List.length_append, hh, List.length_nil] at this; omega) w2 w6 HP3.out (fun W b2 hk hb2 hW => by
        have hb := HE0.out.on HP3.out hk
        have hle : b ≤ b2 := by rw [hb2]; exact Nat.le_of_lt HP3.out.size
        exact body4_any p Ai At Ak ci ct ck _ b2 W hW hb.box (by have := hb.far; omega) (hb.lists.kinds.more hle) HF.out.each (by rw [hb2]; exact hk.size) hz) (by (try simp only [List.length_append, secE_length]); (try simp only [hh, be_length]); omega))
    refine HS4.out.mono ?_
    rintro e w7 ⟨rfl, hp⟩
    have HP4 := Lib.hid hp
    clear hp HP3 HS4
    go_wp2_with fail
    obtain ⟨L, hL⟩ : ∃ L, L = headP ++ secE (BitVec.ofNat 8 1) (be 2 p.cards) ++ secE (BitVec.ofNat 8 2) (intsE p.ints) ++ secE (BitVec.ofNat 8 3) (textsE p.texts) ++ secE (BitVec.ofNat 8 4) (kindsE p.kinds) := ⟨_, rfl⟩
    rw [← hL] at HP4
    have hLl : L.length + 4 = sizeP p := by
      rw [hL]
      simp only [List.length_append, secE_length, hh, be_length]
      omega
    have hpos : 0 < L.length := by
      rw [hL]
      simp only [List.length_append, hh]
      omega
    have HLe : Hid (L = headP ++ secsE p) := Lib.hid (by rw [hL]; unfold secsE; simp only [List.append_assoc])
    clear hL hsum
    refine (wrBytes_any b L w2 w7 HP4.out).mono ?_
    rintro e w8 ⟨v, rfl, hown, _, n8, hw8⟩
    have HP8 : Hid (WrAt b L w2 w8) := Lib.hid (HP4.out.past (by rw [hw8]; exact (Keeps.refl _ w7).drewN n8))
    obtain ⟨g, cap, rfl, hgl, hnc, hcells⟩ := owns_lies hown (by omega)
    have HCr := Lib.hid (crc_any L (some ⟨g, 0, none⟩) w8.heap.size cap w8 (fun k u hu => ⟨g, 0, rfl, hgl, hcells k u hu⟩) (Nat.le_refl _) (by omega))
    clear hown hw8 HP4 hcells hgl hnc
    go_wp2_with fail
    refine HCr.out.mono ?_
    rintro e w9 ⟨rfl, hb9⟩
    have HP9 : Hid (WrAt b L w2 w9) := Lib.hid (HP8.out.past (keepsAll hb9))
    clear hb9 HP8 HCr
    obtain ⟨x, hx⟩ : ∃ x, x = Crc.crc L := ⟨_, rfl⟩
    have HXe := Lib.hid hx
    rw [← hx]
    clear hx
    unfold wn
    go_wp2_with fail
    go_loopw [26] (fun vi wr => ∃ i : Nat, i ≤ 4 ∧ vi = .int .i64 i ∧ Hid (WrAt b (L ++ (le4 x).take i) w2 wr)) (fun vi _ => 4 - (intOf vi).toNat)
    case atStart => exact ⟨0, by omega, rfl, Lib.hid (by simpa using HP9.out)⟩
    case round =>
      clear HP9
      obtain ⟨i, hi, rfl, HP⟩ := hrel
      by_cases hlt : i < 4
      · have h4 : i = 0 ∨ i = 1 ∨ i = 2 ∨ i = 3 := by omega
        rcases h4 with rfl | rfl | rfl | rfl
        · go_wp2_with fail
          refine (wrByte_any b _ ((x >>> 0).setWidth 8) _ w2 _ HP.out (by rw [le_byte]; first | rfl | (simp; done) | (have := x.isLt; omega)) (by rw [List.length_append, List.length_take]; omega)).mono ?_
          rintro e w10 ⟨rfl, hp⟩
          have HP1 : Hid (WrAt b (L ++ (le4 x).take 1) w2 w10) := Lib.hid (by rw [List.append_assoc] at hp; exact hp)
          clear hp HP
          go_wp2_with fail
          go_roundw
          case rel => exact ⟨1, by omega, by go_num, HP1⟩
          case measure => simp [intOf]
        · go_wp2_with fail
          refine (wrByte_any b _ ((x >>> 8).setWidth 8) _ w2 _ HP.out (by rw [le_byte]; first | rfl | (simp; done) | (have := x.isLt; omega)) (by rw [List.length_append, List.length_take]; omega)).mono ?_
          rintro e w10 ⟨rfl, hp⟩
          have HP1 : Hid (WrAt b (L ++ (le4 x).take 2) w2 w10) := Lib.hid (by rw [List.append_assoc] at hp; exact hp)
          clear hp HP
          go_wp2_with fail
          go_roundw
          case rel => exact ⟨2, by omega, by go_num, HP1⟩
          case measure => simp [intOf]
        · go_wp2_with fail
          refine (wrByte_any b _ ((x >>> 16).setWidth 8) _ w2 _ HP.out (by rw [le_byte]; first | rfl | (simp; done) | (have := x.isLt; omega)) (by rw [List.length_append, List.length_take]; omega)).mono ?_
          rintro e w10 ⟨rfl, hp⟩
          have HP1 : Hid (WrAt b (L ++ (le4 x).take 3) w2 w10) := Lib.hid (by rw [List.append_assoc] at hp; exact hp)
          clear hp HP
          go_wp2_with fail
          go_roundw
          case rel => exact ⟨3, by omega, by go_num, HP1⟩
          case measure => simp [intOf]
        · go_wp2_with fail
          refine (wrByte_any b _ ((x >>> 24).setWidth 8) _ w2 _ HP.out (by rw [le_byte]; first | rfl | (simp; done) | (have := x.isLt; omega)) (by rw [List.length_append, List.length_take]; omega)).mono ?_
          rintro e w10 ⟨rfl, hp⟩
          have HP1 : Hid (WrAt b (L ++ (le4 x).take 4) w2 w10) := Lib.hid (by rw [List.append_assoc] at hp; exact hp)
          clear hp HP
          go_wp2_with fail
          go_roundw
          case rel => exact ⟨4, by omega, by go_num, HP1⟩
          case measure => simp [intOf]
      · obtain rfl : i = 4 := by omega
        have HPz : Hid (WrAt b (packE p) w2 wr) := Lib.hid (by
          have h := HP.out
          rw [HXe.out, HLe.out] at h
          exact h)
        have hpl : (packE p).length = sizeP p := packE_length p
        have hps : 0 < (packE p).length := by omega
        have hpm : (packE p).length ≤ 140737488355328 := by omega
        clear HP hpl
        go_wp2_with fail
        refine (wrBytes_any b (packE p) w2 wr HPz.out).mono ?_
        rintro e w11 ⟨v, rfl, hown, _, n11, hw11⟩
        obtain ⟨g2, cap2, rfl, hgl, hnc, hcells⟩ := owns_lies hown hps
        have HQ : Hid (WrAt b (packE p) w2 w11) := Lib.hid (HPz.out.past (by rw [hw11]; exact (Keeps.refl _ wr).drewN n11))
        have HCl := Lib.hid (clone_any g2 0 cap2 (packE p) w11 hcells hpm)
        clear hown hw11 HPz hcells
        go_wp2_with fail
        refine HCl.out.mono ?_
        rintro e w12 ⟨v', rfl, hown, _, hbel⟩
        have HO := Lib.hid hown
        have HBl := Lib.hid hbel
        clear hown hbel HCl
        go_wp2_with fail
        go_ret2
        rw [henc.out]
        have hq := HQ.out.size
        have hw : w.heap.size ≤ w11.heap.size := by omega
        refine ⟨v', rfl, owns_base HO.out (fun k hk => by have := (owns_inside HO.out hk).1; omega), ?_⟩
        exact keepsAll ((((HK2.out.below (Nat.le_refl _) (fun _ e => e.elim)).trans (HQ.out.below.mono (by omega)))).trans (HBl.out.mono hw))
  · obtain ⟨c, hcc⟩ : ∃ c, chk p = c := ⟨_, rfl⟩
    have henc : Hid (R = ([], c)) := Lib.hid (by rw [HRe.out]; unfold encP; rw [if_pos hc, hcc])
    rw [hcc]
    rw [hcc] at hc
    have hne : (c : Int) ≠ 0 := by omega
    have hbn : ((c : Int) != 0) = true := by simp [hc]
    clear hc hcc
    go_wp2_with fail
    go_ret2
    rw [henc.out]
    exact ⟨_, rfl, World.ownsRow_nil _ _ _ _, HK1.out⟩
end Go.Proofs.YtcmbdnjcfneinaaGreatDoor
