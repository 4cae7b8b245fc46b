/-
  The law ImageCut: the walk. Conditions: lengths within 10 ^ 15; a turn of 32 bits.
-/
import Derived.Test.YthmfbcfbcookiaaDoorImMh
import Derived.Test.YthmfbcfbcookiaaDoorStB
namespace Go.Proofs.YthmfbcfbcookiaaDoor
open Go.RowKit
theorem Lies.take {w : World} {B : Nat} {A : Option Addr} {l : List Byte} (h : Lies w B A (bytesV l)) (k : Nat) : Lies w B A (bytesV (l.take k)) := fun i u hu => by
  refine h i u ?_
  unfold bytesV at hu ⊢
  rw [List.map_take, List.getElem?_take] at hu
  split at hu
  · exact hu
  · cases hu
/-- The state's box, and what came in. -/
structure Cu (w W : World) (s : St) (Ap Ac Az : Option Addr) (cp cc cz : Nat) (A : Option Addr) (more : List Byte) : Prop where
  keeps : Keeps (fun _ => False) w W
  box : Whole W w.heap.size 27 (stC s Ap Ac Az cp cc cz)
  lies : StIn W W.heap.size s Ap Ac Az
  more : Lies W W.heap.size A (bytesV more)
theorem Cu.calm {w W W' : World} {s : St} {Ap Ac Az : Option Addr} {cp cc cz : Nat} {A : Option Addr} {more : List Byte} (h : Cu w W s Ap Ac Az cp cc cz A more) (hk : Keeps (fun _ => False) W W') : Cu w W' s Ap Ac Az cp cc cz A more :=
  ⟨h.keeps.trans hk, h.box.keeps hk id, h.lies.past hk, (h.more.keep fun _ _ hb => hk.cell hb id).more hk.size⟩
set_option maxRecDepth 100000 in
set_option maxHeartbeats 4000000 in
theorem imageCut_any (s : St) (Ap Ac Az : Option Addr) (cp cc cz : Nat) (k : Int) (A : Option Addr) (cap : Nat) (more : List Byte) (w : World) (hx : StIn w w.heap.size s Ap Ac Az) (hs : StBig s) (ht : in32 s.turn) (hm : Lies w w.heap.size A (bytesV more)) (hk : -9223372036854775808 ≤ k ∧ k ≤ 9223372036854775807) :
    Calls Tryd.prog 4 #[stV s Ap Ac Az cp cc cz, .int .i64 k, .slice A more.length cap] w fun e w' => e = .returned (.bool true) ∧ Keeps (fun _ => False) w w' := by
  have k0 := (Keeps.refl (fun _ => False) w).alloc (.cells (stC s Ap Ac Az cp cc cz) 27)
  obtain ⟨w0, hw0⟩ : ∃ z, z = w.alloc (.cells (stC s Ap Ac Az cp cc cz) 27) := ⟨_, rfl⟩
  have m0 := Whole.made w 27 (stC s Ap Ac Az cp cc cz)
  rw [← hw0] at k0 m0
  have S0 : Hid (Cu w w0 s Ap Ac Az cp cc cz A more) := Lib.hid ⟨k0, m0, hx.past k0, (hm.keep fun _ _ hb => k0.cell hb id).more k0.size⟩
  have HS := Lib.hid hs
  have HT := Lib.hid ht
  obtain ⟨hk1, hk2⟩ := hk
  clear k0 m0 hx hm hs ht
  unfold stV
  unfold stC at hw0
  go_enter Tryd.func4, Tryd.ntmps4
  go_wp2_with fail
  rw [← hw0]
  clear hw0
  refine (works07_any w0).mono ?_
  rintro e w1 ⟨rfl, k1⟩
  have S1 := Lib.hid (S0.out.calm k1)
  clear k1 S0
  have HZ := sizeState_any s Ap Ac Az w1.heap.size cp cc cz w1 S1.out.lies (Nat.le_refl _) HS.out.players HS.out.cards HS.out.zones HS.out.rows
  unfold stV at HZ
  obtain ⟨a0, a1, a2, a3, a4, a5, a6, f0, f1, f2, f3, f4, f5, f6⟩ := seven S1.out.box
  clear f0 f1 f2 f3 f4 f5 f6
  go_wp2_with fail
  clear a0 a1 a2 a3 a4 a5 a6
  refine HZ.mono ?_
  rintro e w2 ⟨rfl, k2⟩
  have S2 := Lib.hid (S1.out.calm k2)
  clear k2 S1 HZ
  by_cases hb : 4194304 < (stSizeTo s : Int)
  · have hd : decide (4194304 < (stSizeTo s : Int)) = true := decide_eq_true hb
    clear hb
    go_wp2_with fail
    go_ret
    exact ⟨rfl, S2.out.keeps⟩
  have hd : decide (4194304 < (stSizeTo s : Int)) = false := decide_eq_false hb
  have SM := Lib.hid (small_of_size (stSizeTo_small (s := s) (by omega)))
  clear hb
  by_cases hml : 1048576 < (more.length : Int)
  · have hd2 : decide (1048576 < (more.length : Int)) = true := decide_eq_true hml
    go_wp2_with fail
    go_ret
    exact ⟨rfl, S2.out.keeps⟩
  have hd2 : decide (1048576 < (more.length : Int)) = false := decide_eq_false hml
  obtain ⟨a0, a1, a2, a3, a4, a5, a6, f0, f1, f2, f3, f4, f5, f6⟩ := seven S2.out.box
  clear f0 f1 f2 f3 f4 f5 f6
  rcases checkP_fst s with hc | hc
  rotate_left
  · have HE := encode_no s Ap Ac Az w2.heap.size cp cc cz w2 S2.out.lies (Nat.le_refl _) SM.out hc
    unfold stV at HE
    clear hc
    go_wp2_with fail
    refine HE.mono ?_
    rintro e w3 ⟨rfl, k3⟩
    clear HE a0 a1 a2 a3 a4 a5 a6
    go_wp2_with fail
    go_ret
    exact ⟨rfl, S2.out.keeps.trans k3⟩
  have HE := encode_yes s Ap Ac Az w2.heap.size cp cc cz w2 S2.out.lies (Nat.le_refl _) SM.out hc HT.out
  have HG := Lib.hid ((mayI hc).good HT.out)
  have hle : (img s).length ≤ 20000 := ((mayI hc).few).img
  unfold stV at HE
  clear hc
  obtain ⟨l, hl⟩ : ∃ l, l = img s := ⟨_, rfl⟩
  rw [← hl] at HE hle
  have HL := Lib.hid hl
  clear hl
  go_wp2_with fail
  refine HE.mono ?_
  rintro e w3 ⟨C, ccap, rfl, own3, k3⟩
  have S3 := Lib.hid (S2.out.calm k3)
  have L3 := Lib.hid (own_lies own3)
  have hcap := own_cap own3
  clear HE a0 a1 a2 a3 a4 a5 a6 k3 S2 own3 hd hd2
  have HSZ : Hid (w.heap.size ≤ w3.heap.size) := Lib.hid S3.out.keeps.size
  by_cases hin : 0 ≤ k ∧ k < (l.length : Int)
  · obtain ⟨h0, h1⟩ := hin
    obtain ⟨kn, rfl⟩ : ∃ kn : Nat, k = (kn : Int) := ⟨k.toNat, by omega⟩
    have hkl : kn < l.length := by omega
    obtain ⟨q, hq, hq1, hq2⟩ := read_cut HG.out (show kn < (img s).length by rw [← HL.out]; exact hkl)
    have htk : (l.take kn).length = kn := by rw [List.length_take]; omega
    have HD := decode_bad C w3.heap.size ccap (l.take kn) q w3 (L3.out.take kn) (Nat.le_refl _) (by omega) (by omega) (by rw [HL.out]; exact hq)
    rw [htk] at HD
    have hg1 : decide (0 ≤ (kn : Int)) = true := decide_eq_true (by omega)
    have hg2 : decide ((kn : Int) < (l.length : Int)) = true := decide_eq_true (by omega)
    have hg3 : decide ((kn : Int) < (q : Int)) = false := decide_eq_false (by omega)
    have hg4 : decide ((q : Int) < (kn : Int) - 3) = false := decide_eq_false (by omega)
    clear hq htk
    go_wp2_with fail
    refine HD.mono ?_
    rintro e w4 ⟨rfl, k4⟩
    have k4' : Keeps (fun _ => False) w3 (w4.alloc (.cells #[.slice none 0 0, .slice none 0 0, .slice none 0 0, .int .i32 0, .int .i64 0, .int .i8 0, .int .i64 0] 27)) := k4.alloc _
    have S4 := Lib.hid (S3.out.calm k4')
    have L4 := Lib.hid ((L3.out.keep fun _ _ hb => k4'.cell hb id).more k4'.size)
    have HSZ4 := Lib.hid (Nat.le_trans HSZ.out k4'.size)
    clear HD k4 k4' S3 L3 HSZ
    have HSZ := HSZ4
    clear HSZ4
    by_cases hm0 : more.length = 0
    · have hz : ((more.length : Int) == 0) = true := by simpa using hm0
      go_wp2_with fail
      go_ret
      exact ⟨rfl, S4.out.keeps⟩
    have hz : ((more.length : Int) == 0) = false := by simpa using hm0
    have HC := copyBytes_any l C (w4.alloc (.cells #[.slice none 0 0, .slice none 0 0, .slice none 0 0, .int .i32 0, .int .i64 0, .int .i8 0, .int .i64 0] 27)).heap.size ccap (w4.alloc (.cells #[.slice none 0 0, .slice none 0 0, .slice none 0 0, .int .i32 0, .int .i64 0, .int .i8 0, .int .i64 0] 27)) L4.out (by omega)
    go_wp2_with fail
    refine HC.mono ?_
    rintro e w5 ⟨D, dcap, rfl, own5, hdc, b5⟩
    have S5 := Lib.hid (S4.out.calm (keepsAll b5))
    have hsz5 : (w4.alloc (.cells #[.slice none 0 0, .slice none 0 0, .slice none 0 0, .int .i32 0, .int .i64 0, .int .i8 0, .int .i64 0] 27)).heap.size ≤ w5.heap.size := b5.size
    have O5 := Lib.hid own5
    clear own5 b5 HC S4 L4
    go_wp2_with (first
      | (at_builtin
         refine wpList_append_lies _ rfl _ _ 28 rfl (w4.alloc (.cells #[.slice none 0 0, .slice none 0 0, .slice none 0 0, .int .i32 0, .int .i64 0, .int .i8 0, .int .i64 0] 27)).heap.size 5 (.int .u8 0) 1 Tryd.underlying28 info_u8 rfl (.slice D l.length dcap) l.length (bytesV l) rfl O5.out w5.heap.size A more.length cap (bytesV more) rfl S5.out.more (bytesV_length more) (bytesV_one more) (by simp only [maxLen]; omega) (by omega) hsz5 ?_
         intro D2 dcap2 w6 own6 hg6 _ hc6
         have O6 := Lib.hid own6
         have S6 : Hid (Keeps (fun _ => False) w w6) := Lib.hid (S5.out.keeps.grown hg6 (fun b hb hl => by
           have h1 := (O5.out.lt b hb).1
           have h2 := S5.out.keeps.size
           have h3 := HSZ.out
           omega))
         clear own6 hg6))
    have hb6 : l.length + more.length = (l ++ more).length := by rw [List.length_append]
    have o6 := O6.out
    rw [← bytesV_append] at o6
    have HD := decode_bad D2 w6.heap.size dcap2 (l ++ more) l.length w6 (own_lies (n := l.length + more.length) o6) (Nat.le_refl _) (by rw [← hb6]; exact hc6) (by rw [← hb6]; omega) (by
      rw [HL.out]
      exact read_more HG.out (fun e => hm0 (by rw [e]; rfl)))
    rw [← hb6] at HD
    clear hb6 o6
    go_wp2_with fail
    refine HD.mono ?_
    rintro e w7 ⟨rfl, k7⟩
    have K7 := Lib.hid (S6.out.trans k7)
    clear HD k7 S6 O6
    go_wp2_with fail
    go_ret
    exact ⟨rfl, K7.out.alloc _⟩
  by_cases hg0 : 0 ≤ k
  · have hg1 : decide (0 ≤ k) = true := decide_eq_true hg0
    have hg2 : decide (k < (l.length : Int)) = false := decide_eq_false (by omega)
    by_cases hm0 : more.length = 0
    · have hz : ((more.length : Int) == 0) = true := by simpa using hm0
      go_wp2_with fail
      go_ret
      exact ⟨rfl, S3.out.keeps⟩
    have hz : ((more.length : Int) == 0) = false := by simpa using hm0
    have HC := copyBytes_any l C w3.heap.size ccap w3 L3.out (by omega)
    go_wp2_with fail
    refine HC.mono ?_
    rintro e w5 ⟨D, dcap, rfl, own5, hdc, b5⟩
    have S5 := Lib.hid (S3.out.calm (keepsAll b5))
    have hsz5 : w3.heap.size ≤ w5.heap.size := b5.size
    have O5 := Lib.hid own5
    clear own5 b5 HC S3 L3
    go_wp2_with (first
      | (at_builtin
         refine wpList_append_lies _ rfl _ _ 28 rfl w3.heap.size 5 (.int .u8 0) 1 Tryd.underlying28 info_u8 rfl (.slice D l.length dcap) l.length (bytesV l) rfl O5.out w5.heap.size A more.length cap (bytesV more) rfl S5.out.more (bytesV_length more) (bytesV_one more) (by simp only [maxLen]; omega) (by omega) hsz5 ?_
         intro D2 dcap2 w6 own6 hg6 _ hc6
         have O6 := Lib.hid own6
         have S6 : Hid (Keeps (fun _ => False) w w6) := Lib.hid (S5.out.keeps.grown hg6 (fun b hb hl => by
           have h1 := (O5.out.lt b hb).1
           have h2 := S5.out.keeps.size
           have h3 := HSZ.out
           omega))
         clear own6 hg6))
    have hb6 : l.length + more.length = (l ++ more).length := by rw [List.length_append]
    have o6 := O6.out
    rw [← bytesV_append] at o6
    have HD := decode_bad D2 w6.heap.size dcap2 (l ++ more) l.length w6 (own_lies (n := l.length + more.length) o6) (Nat.le_refl _) (by rw [← hb6]; exact hc6) (by rw [← hb6]; omega) (by
      rw [HL.out]
      exact read_more HG.out (fun e => hm0 (by rw [e]; rfl)))
    rw [← hb6] at HD
    clear hb6 o6
    go_wp2_with fail
    refine HD.mono ?_
    rintro e w7 ⟨rfl, k7⟩
    have K7 := Lib.hid (S6.out.trans k7)
    clear HD k7 S6 O6
    go_wp2_with fail
    go_ret
    exact ⟨rfl, K7.out.alloc _⟩
  have hg1 : decide (0 ≤ k) = false := decide_eq_false hg0
  by_cases hm0 : more.length = 0
  · have hz : ((more.length : Int) == 0) = true := by simpa using hm0
    go_wp2_with fail
    go_ret
    exact ⟨rfl, S3.out.keeps⟩
  have hz : ((more.length : Int) == 0) = false := by simpa using hm0
  have HC := copyBytes_any l C w3.heap.size ccap w3 L3.out (by omega)
  go_wp2_with fail
  refine HC.mono ?_
  rintro e w5 ⟨D, dcap, rfl, own5, hdc, b5⟩
  have S5 := Lib.hid (S3.out.calm (keepsAll b5))
  have hsz5 : w3.heap.size ≤ w5.heap.size := b5.size
  have O5 := Lib.hid own5
  clear own5 b5 HC S3 L3
  go_wp2_with (first
    | (at_builtin
       refine wpList_append_lies _ rfl _ _ 28 rfl w3.heap.size 5 (.int .u8 0) 1 Tryd.underlying28 info_u8 rfl (.slice D l.length dcap) l.length (bytesV l) rfl O5.out w5.heap.size A more.length cap (bytesV more) rfl S5.out.more (bytesV_length more) (bytesV_one more) (by simp only [maxLen]; omega) (by omega) hsz5 ?_
       intro D2 dcap2 w6 own6 hg6 _ hc6
       have O6 := Lib.hid own6
       have S6 : Hid (Keeps (fun _ => False) w w6) := Lib.hid (S5.out.keeps.grown hg6 (fun b hb hl => by
         have h1 := (O5.out.lt b hb).1
         have h2 := S5.out.keeps.size
         have h3 := HSZ.out
         omega))
       clear own6 hg6))
  have hb6 : l.length + more.length = (l ++ more).length := by rw [List.length_append]
  have o6 := O6.out
  rw [← bytesV_append] at o6
  have HD := decode_bad D2 w6.heap.size dcap2 (l ++ more) l.length w6 (own_lies (n := l.length + more.length) o6) (Nat.le_refl _) (by rw [← hb6]; exact hc6) (by rw [← hb6]; omega) (by
    rw [HL.out]
    exact read_more HG.out (fun e => hm0 (by rw [e]; rfl)))
  rw [← hb6] at HD
  clear hb6 o6
  go_wp2_with fail
  refine HD.mono ?_
  rintro e w7 ⟨rfl, k7⟩
  have K7 := Lib.hid (S6.out.trans k7)
  clear HD k7 S6 O6
  go_wp2_with fail
  go_ret
  exact ⟨rfl, K7.out.alloc _⟩
end Go.Proofs.YthmfbcfbcookiaaDoor
