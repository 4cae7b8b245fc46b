/-
  A number put into a zone: the walks. Conditions: lengths within 10 ^ 9.
-/
import Derived.Test.YtgbikcliembkcaaStandP
import Derived.Test.YtgbikcliembkcaaStOwn
import Derived.Test.YtgbikcliembkcaaSlice
namespace Go.Proofs.Ytgbikcliembkcaa
open Go.RowKit
theorem own_set {w : World} {base g n cap k : Nat} {e : TypeId} {xs : List Value} (h : w.ownsRow base e 1 (.slice (some ⟨g, 0, none⟩) n cap) n xs) (u : Value) : (w.setCell ⟨g, k, none⟩ u).ownsRow base e 1 (.slice (some ⟨g, 0, none⟩) n cap) n (xs.set k u) := by
  refine ⟨by rw [List.length_set]; exact h.1, ?_⟩
  rcases h.2 with ⟨h0, _⟩ | ⟨g', cap', cur, hv, hb, hh, hc, hm, hs, ht⟩
  · cases h0
  · injection hv with h1 h2 h3
    injection h1 with h1
    injection h1 with h1
    subst h1 h3
    refine .inr ⟨g, cap, cur.setIfInBounds k u, rfl, hb, heap_setCell_same w g k cur e u hh, hc, hm, by rw [Array.size_setIfInBounds]; exact hs, ?_⟩
    rw [← ht, Array.toList_setIfInBounds, List.take_set]
/-- A row of a copy is another one. -/
theorem CopyIn.putRow {w : World} {lo : Nat} {s : St} {Aq Ad Ay Al : Option Addr} {cq cd cy cl z : Nat} {cells : List Value} {r2 : List Int} (h : CopyIn w lo s Aq Ad Ay cq cd cy cells) (hz : z < s.zones.length) (ho : w.ownsRow lo 3 1 (.slice Al r2.length cl) r2.length (r2.map (Value.int .i64))) :
    ∃ g, Ay = some ⟨g, 0, none⟩ ∧ lo ≤ g ∧ (∃ u, w.cell? ⟨g, z, none⟩ = some u) ∧ w.frozen? ⟨g, z, none⟩ = false ∧ CopyIn (w.setCell ⟨g, z, none⟩ (.slice Al r2.length cl)) lo (rowS s z r2) Aq Ad Ay cq cd cy (cells.set z (.slice Al r2.length cl)) := by
  obtain ⟨g, cs, rfl, hb, hw, hsz, hnc, _⟩ := own_whole h.zones.own (by omega)
  have hK : Keeps (fun b => b = g) w (w.setCell ⟨g, z, none⟩ (.slice Al r2.length cl)) := (Keeps.refl (fun b => b = g) w).setCell (p := ⟨g, z, none⟩) (fun _ => rfl) _
  have hne : ∀ {e' : TypeId} {sz n' : Nat} {v' : Value} {xs' : List Value}, w.ownsRow lo e' sz v' n' xs' → 36 ≠ e' → ∀ b, v'.ownBlock = some b → ¬ b = g := fun h' hne' b hb' e => by
    subst e
    exact own_kind h.zones.own h' hne' rfl hb'
  refine ⟨g, rfl, hb, ⟨_, (hw.cellAt z).trans (Array.getElem?_eq_getElem (by omega))⟩, hw.free z, ⟨own_keepsS h.players hK (hne h.players (by decide)), own_keepsS h.cards hK (hne h.cards (by decide)), ⟨?_, fun i r hi => ?_⟩⟩⟩
  · have := own_set (k := z) h.zones.own (.slice Al r2.length cl)
    show (w.setCell _ _).ownsRow lo 36 1 _ (s.zones.set z r2).length _
    rw [List.length_set]
    have e : (rowS s z r2).zones.length = s.zones.length := by simp [rowS]
    rw [e]; exact this
  · have hcl : cells.length = s.zones.length := own_length h.zones.own
    by_cases e : i = z
    · subst e
      obtain rfl : r2 = r := by
        have : (s.zones.set i r2)[i]? = some r := hi
        rw [List.getElem?_set_self hz] at this
        exact Option.some.inj this
      exact ⟨Al, cl, List.getElem?_set_self (by omega), own_keepsS ho hK (hne ho (by decide))⟩
    · have hi' : s.zones[i]? = some r := by
        have : (s.zones.set z r2)[i]? = some r := hi
        rwa [List.getElem?_set_ne (by omega)] at this
      obtain ⟨Ai, ci, h1, h2⟩ := h.zones.row i r hi'
      exact ⟨Ai, ci, by rw [List.getElem?_set_ne (by omega)]; exact h1, own_keepsS h2 hK (hne h2 (by decide))⟩
theorem size_st : (Try.prog.info? 27).map (·.size) = some 7 := by kernel_rfl
theorem round_any (n m : Int) (w : World) (hn : -9223372036854775808 ≤ n ∧ n ≤ 9223372036854775807) (hm : 0 < m) (hm2 : m ≤ 2000000000) : Calls Try.prog 17 #[.int .i64 n, .int .i64 m] w fun e w' => e = .returned (.int .i64 (roundP n m)) ∧ w' = w := by
  obtain ⟨hb1, hb2⟩ := hn
  have h1 := Int.tmod_lt_of_pos n hm
  have h2 := Int.lt_tmod_of_pos n hm
  have h0 : ¬ (m = 0) := by omega
  have h3 : (m == 0) = false := by simpa using h0
  unfold roundP
  generalize hk : n.tmod m = k at *
  go_enter Try.func17, Try.ntmps17
  by_cases hlt : k < 0
  · rw [if_pos hlt]
    go_wp2_with fail
    go_ret
    exact ⟨rfl, rfl⟩
  · rw [if_neg hlt]
    go_wp2_with fail
    go_ret
    exact ⟨rfl, rfl⟩
set_option maxRecDepth 100000 in
set_option maxHeartbeats 4000000 in
theorem put_any (s : St) (Ap Ac Az : Option Addr) (cp cc cz : Nat) (card pz pa : Int) (z at_ : Nat) (r : List Int) (w : World) (hx : StIn w w.heap.size s Ap Ac Az) (hs : StSmall s) (hz0 : -9223372036854775808 ≤ pz ∧ pz ≤ 9223372036854775807) (ha0 : -9223372036854775808 ≤ pa ∧ pa ≤ 9223372036854775807)
    (hz : roundP pz s.zones.length = z) (hr : s.zones[z]? = some r) (ha : roundP pa (r.length + 1 : Nat) = at_) (hat : at_ ≤ r.length) :
    Calls Try.prog 18 #[stV s Ap Ac Az cp cc cz, .int .i64 card, .agg #[.int .i64 pz, .int .i64 pa]] w fun e w' => ∃ Aq Ad Ay cq cd cy, e = .returned (stV (rowS s z (putR r at_ card)) Aq Ad Ay cq cd cy) ∧ StIn w' w'.heap.size (rowS s z (putR r at_ card)) Aq Ad Ay ∧ Keeps (fun _ => False) w w' := by
  have hzl : z < s.zones.length := (List.getElem?_eq_some_iff.1 hr).1
  have hzs := hs.zones
  have hrl := hs.rows r (List.mem_of_getElem? hr)
  unfold stV
  have HC := fun w (hx : StIn w w.heap.size s Ap Ac Az) => copyState_any s Ap Ac Az w.heap.size cp cc cz w hx (Nat.le_refl _) hs
  unfold stV at HC
  have P1 : Hid (Whole (((w.alloc (.cells #[.slice Ap s.players.length cp, .slice Ac s.cards.length cc, .slice Az s.zones.length cz, .int .i32 s.turn, .int .i64 s.whose, .int .i8 s.fin, .int .i64 s.winner] 27)).alloc (.cells #[.int .i64 pz, .int .i64 pa] 42)).alloc (.cells #[.slice none 0 0, .slice none 0 0, .slice none 0 0, .int .i32 0, .int .i64 0, .int .i8 0, .int .i64 0] 27)) (w.heap.size + 1) 42 #[.int .i64 pz, .int .i64 pa]) := Lib.hid (by
    have h := (Whole.made (w.alloc (.cells #[.slice Ap s.players.length cp, .slice Ac s.cards.length cc, .slice Az s.zones.length cz, .int .i32 s.turn, .int .i64 s.whose, .int .i8 s.fin, .int .i64 s.winner] 27)) 42 #[.int .i64 pz, .int .i64 pa])
    rw [show (w.alloc (.cells #[.slice Ap s.players.length cp, .slice Ac s.cards.length cc, .slice Az s.zones.length cz, .int .i32 s.turn, .int .i64 s.whose, .int .i8 s.fin, .int .i64 s.winner] 27)).heap.size = w.heap.size + 1 by simp] at h
    exact h.alloc _)
  have T1 : Hid (Whole (((w.alloc (.cells #[.slice Ap s.players.length cp, .slice Ac s.cards.length cc, .slice Az s.zones.length cz, .int .i32 s.turn, .int .i64 s.whose, .int .i8 s.fin, .int .i64 s.winner] 27)).alloc (.cells #[.int .i64 pz, .int .i64 pa] 42)).alloc (.cells #[.slice none 0 0, .slice none 0 0, .slice none 0 0, .int .i32 0, .int .i64 0, .int .i8 0, .int .i64 0] 27)) (w.heap.size + 1 + 1) 27 #[.slice none 0 0, .slice none 0 0, .slice none 0 0, .int .i32 0, .int .i64 0, .int .i8 0, .int .i64 0]) := Lib.hid (by
    have h := (Whole.made ((w.alloc (.cells #[.slice Ap s.players.length cp, .slice Ac s.cards.length cc, .slice Az s.zones.length cz, .int .i32 s.turn, .int .i64 s.whose, .int .i8 s.fin, .int .i64 s.winner] 27)).alloc (.cells #[.int .i64 pz, .int .i64 pa] 42)) 27 #[.slice none 0 0, .slice none 0 0, .slice none 0 0, .int .i32 0, .int .i64 0, .int .i8 0, .int .i64 0])
    rw [show ((w.alloc (.cells #[.slice Ap s.players.length cp, .slice Ac s.cards.length cc, .slice Az s.zones.length cz, .int .i32 s.turn, .int .i64 s.whose, .int .i8 s.fin, .int .i64 s.winner] 27)).alloc (.cells #[.int .i64 pz, .int .i64 pa] 42)).heap.size = w.heap.size + 1 + 1 by simp] at h
    exact h)
  have K1 : Hid (Keeps (fun _ => False) w (((w.alloc (.cells #[.slice Ap s.players.length cp, .slice Ac s.cards.length cc, .slice Az s.zones.length cz, .int .i32 s.turn, .int .i64 s.whose, .int .i8 s.fin, .int .i64 s.winner] 27)).alloc (.cells #[.int .i64 pz, .int .i64 pa] 42)).alloc (.cells #[.slice none 0 0, .slice none 0 0, .slice none 0 0, .int .i32 0, .int .i64 0, .int .i8 0, .int .i64 0] 27))) := Lib.hid ((((Keeps.refl _ w).alloc _).alloc _).alloc _)
  have Z1 : Hid ((((w.alloc (.cells #[.slice Ap s.players.length cp, .slice Ac s.cards.length cc, .slice Az s.zones.length cz, .int .i32 s.turn, .int .i64 s.whose, .int .i8 s.fin, .int .i64 s.winner] 27)).alloc (.cells #[.int .i64 pz, .int .i64 pa] 42)).alloc (.cells #[.slice none 0 0, .slice none 0 0, .slice none 0 0, .int .i32 0, .int .i64 0, .int .i8 0, .int .i64 0] 27)).heap.size = w.heap.size + 3) := Lib.hid (by simp)
  go_enter Try.func18, Try.ntmps18
  go_wp2_with fail
  generalize ((w.alloc (.cells #[.slice Ap s.players.length cp, .slice Ac s.cards.length cc, .slice Az s.zones.length cz, .int .i32 s.turn, .int .i64 s.whose, .int .i8 s.fin, .int .i64 s.winner] 27)).alloc (.cells #[.int .i64 pz, .int .i64 pa] 42)).alloc (.cells #[.slice none 0 0, .slice none 0 0, .slice none 0 0, .int .i32 0, .int .i64 0, .int .i8 0, .int .i64 0] 27) = w0 at *
  have X0 := Lib.hid (hx.past K1.out)
  refine (HC w0 X0.out).mono ?_
  rintro e w1 ⟨Aq, Ad, Ay, cq, cd, cy, cells, rfl, hC, k1⟩
  have CC := Lib.hid hC
  have P2 := Lib.hid (P1.out.keeps k1 id)
  have T2 := Lib.hid (T1.out.keeps k1 id)
  have K2 := Lib.hid (K1.out.trans k1)
  have Z2 : Hid (w.heap.size + 3 ≤ w0.heap.size ∧ w0.heap.size ≤ w1.heap.size) := Lib.hid ⟨Nat.le_of_eq Z1.out.symm, k1.size⟩
  clear HC hC P1 T1 K1 Z1 X0 k1 hx
  have c0 := P2.out.cellAt 0
  have c1 := P2.out.cellAt 1
  have q1 : w.heap.size + 1 < w1.heap.size := by have := Z2.out; omega
  have q2 : w.heap.size + 1 + 1 < w1.heap.size := by have := Z2.out; omega
  simp only [List.getElem?_toArray, List.getElem?_cons_zero, List.getElem?_cons_succ] at c0 c1
  go_wp2_with fail
  clear c0 c1 q1 q2
  have B3 : Hid (Whole (w1.alloc (.cells #[.slice Aq s.players.length cq, .slice Ad s.cards.length cd, .slice Ay s.zones.length cy, .int .i32 s.turn, .int .i64 s.whose, .int .i8 s.fin, .int .i64 s.winner] 27)) w1.heap.size 27 #[.slice Aq s.players.length cq, .slice Ad s.cards.length cd, .slice Ay s.zones.length cy, .int .i32 s.turn, .int .i64 s.whose, .int .i8 s.fin, .int .i64 s.winner]) := Lib.hid (Whole.made w1 _ _)
  have k1 : Keeps (fun _ => False) w1 (w1.alloc (.cells #[.slice Aq s.players.length cq, .slice Ad s.cards.length cd, .slice Ay s.zones.length cy, .int .i32 s.turn, .int .i64 s.whose, .int .i8 s.fin, .int .i64 s.winner] 27)) := (Keeps.refl _ w1).alloc _
  have P3 := Lib.hid (P2.out.keeps k1 id)
  have T3 := Lib.hid (T2.out.keeps k1 id)
  have K3 := Lib.hid (K2.out.trans k1)
  have C3 := Lib.hid (CC.out.keeps k1 (fun _ _ => id))
  have Z3 : Hid (w.heap.size + 3 ≤ w0.heap.size ∧ w0.heap.size ≤ w1.heap.size) := Z2
  clear k1 P2 T2 K2 CC Z2
  generalize w1.alloc (.cells #[.slice Aq s.players.length cq, .slice Ad s.cards.length cd, .slice Ay s.zones.length cy, .int .i32 s.turn, .int .i64 s.whose, .int .i8 s.fin, .int .i64 s.winner] 27) = v1 at *
  generalize w1.heap.size = gt at *
  refine (round_any pz s.zones.length v1 hz0 (by omega) (by omega)).mono ?_
  rintro e v2 ⟨rfl, rfl⟩
  rw [hz]
  obtain ⟨a0, a1, a2, a3, a4, a5, a6, f0, f1, f2, f3, f4, f5, f6⟩ := seven B3.out
  go_wp2_with fail
  have c1 := P3.out.cellAt 1
  simp only [List.getElem?_toArray, List.getElem?_cons_zero, List.getElem?_cons_succ] at c1
  obtain ⟨gy, csy, hAy, hgy, hwy, _⟩ := own_whole C3.out.zones.own (by omega)
  subst hAy
  obtain ⟨Ai, ci, hci, hoi⟩ := C3.out.zones.row z r hr
  have LI := Lib.hid (own_lies hoi)
  have cy0 : v2.cell? ⟨gy, z, none⟩ = some (.slice Ai r.length ci) := (own_cells C3.out.zones.own rfl (by omega)).trans hci
  have hcap : r.length ≤ ci := by
    obtain ⟨_, _, e, h, _⟩ := own_slice hoi
    injection e with _ _ e
    omega
  clear hci hoi
  have HRA := fun w => round_any pa (r.length + 1 : Nat) w ha0 (by omega) (by omega)
  rw [ha] at HRA
  have HE1 : Hid (at_ + 1 + (r.length - at_) = (putR r at_ card).length) := Lib.hid (by rw [putR_length]; omega)
  have HE2 : Hid ((r.take at_).map (Value.int .i64) ++ [.int .i64 card] ++ (r.drop at_).map (Value.int .i64) = (putR r at_ card).map (Value.int .i64)) := Lib.hid (by simp [putR])
  have ZZ : Hid (gt < v2.heap.size) := Lib.hid B3.out.inside
  go_quiet (first | (go_at_call 17; refine Calls.quiet_of_same (HRA _)))
  clear HRA
  go_wp2_with (first
    | (refine wpList_slice_head rfl 36 3 _ _ rfl Try.underlying36 (by kernel_rfl) Ai r.length ci at_ rfl rfl (by omega) ?_)
    | (at_builtin
       refine wpList_append_cells _ rfl (.tmp 29) _ 36 rfl v2.heap.size 3 (.int .i64 0) 1 8 Try.underlying36 info_int rfl (by decide) (.slice none 0 0) 0 [] rfl (World.ownsRow_nil _ _ _ _) v2.heap.size Ai at_ ci ((r.take at_).map (Value.int .i64)) rfl (by have := LI.out.head at_; rw [← List.map_take] at this; exact this) (by simp; omega) (cells_one_int _) (by simp only [maxLen]; omega) (by omega) (Nat.le_refl _) ?_
       intro A1 c1' w3 own1 hg1 _ _ _
       have O1 : Hid (w3.ownsRow v2.heap.size 3 1 (.slice A1 at_ c1') at_ ((r.take at_).map (Value.int .i64))) := Lib.hid (by rw [Nat.zero_add, List.nil_append] at own1; exact own1)
       have KK1 : Hid (Keeps (fun _ => False) v2 w3) := Lib.hid (((Keeps.refl _ v2).drewN nq).grown hg1 (fun k hk => by cases hk))
       clear own1 hg1)
    | (at_builtin
       refine wpList_append_cells _ rfl (.tmp 38) (.tmp 40) 36 rfl v2.heap.size 3 (.int .i64 0) 1 8 Try.underlying36 info_int rfl (by decide) (.slice A1 at_ c1') at_ ((r.take at_).map (Value.int .i64)) rfl (O1.out.alloc _) (w3.heap.size + 1) (some ⟨w3.heap.size, 0, none⟩) 1 1 [.int .i64 card] rfl (Lies.row (t := 3) (fr := (0, 0)) (heap_alloc_new w3 _) (by simp)) rfl (cells_one_int [card]) (by simp only [maxLen]; omega) (by omega) (Nat.le_trans KK1.out.size (by simp)) ?_
       intro A2 c2' w4 own2 hg2 _ _ _
       have O2 : Hid (w4.ownsRow v2.heap.size 3 1 (.slice A2 (at_ + 1) c2') (at_ + 1) ((r.take at_).map (Value.int .i64) ++ [.int .i64 card])) := Lib.hid own2
       have KK2 : Hid (Keeps (fun _ => False) v2 w4) := Lib.hid ((KK1.out.alloc _).grown hg2 (fun k hk hlt => absurd (O1.out.lt k hk).1 (by omega)))
       clear own2 hg2 O1 KK1
       obtain ⟨b0, b1, b2, b3, b4, b5, b6, e0, e1, e2, e3, e4, e5, e6⟩ := seven (B3.out.keeps KK2.out id)
       have cy1 : w4.cell? ⟨gy, z, none⟩ = some (.slice Ai r.length ci) := (KK2.out.cell hwy.inside id).trans cy0)
    | (refine wpList_slice_tail rfl 36 3 _ _ rfl Try.underlying36 (by kernel_rfl) Ai r.length ci at_ rfl rfl (by omega) ?_)
    | (at_builtin
       refine wpList_append_cells _ rfl (.tmp 42) _ 36 rfl v2.heap.size 3 (.int .i64 0) 1 8 Try.underlying36 info_int rfl (by decide) (.slice A2 (at_ + 1) c2') (at_ + 1) _ rfl O2.out v2.heap.size (tailA Ai at_ ci) (r.length - at_) (ci - at_) ((r.drop at_).map (Value.int .i64)) rfl (by have := (LI.out.keep (fun b o hb => KK2.out.cell hb id)).tail (k := at_) (c := ci) (by simpa using hcap); rw [← List.map_drop] at this; exact this) (by simp) (cells_one_int _) (by simp only [maxLen]; omega) (by omega) KK2.out.size ?_
       intro A3 c3' w5 own3 hg3 _ _ _
       rw [HE1.out, HE2.out] at own3
       rw [HE1.out]
       have KK3 : Hid (Keeps (fun _ => False) v2 w5) := Lib.hid (KK2.out.grown hg3 (fun k hk hlt => absurd (O2.out.lt k hk).1 (by omega)))
       have C5 := C3.out.keeps KK3.out (fun _ _ => id)
       obtain ⟨gy', hgy', _, ⟨u0, hu0⟩, hfz, hC6⟩ := C5.putRow (z := z) hzl (own3.mono (by have := Z3.out; have := ZZ.out; omega))
       obtain rfl : gy = gy' := by injection hgy' with h; injection h
       have C6 := Lib.hid hC6
       have hGW := hwy.keeps KK3.out id
       have B5 := Lib.hid ((B3.out.keeps KK3.out id).putFar (p := ⟨gy, z, none⟩) (Whole.kind (B3.out.keeps KK3.out id) hGW (by decide)) (.slice A3 (putR r at_ card).length c3'))
       have T5 := Lib.hid ((T3.out.keeps KK3.out id).putFar (p := ⟨gy, z, none⟩) (Whole.kind (T3.out.keeps KK3.out id) hGW (by decide)) (.slice A3 (putR r at_ card).length c3'))
       have K5 : Hid (Keeps (fun _ => False) w (w5.setCell ⟨gy, z, none⟩ (.slice A3 (putR r at_ card).length c3'))) := Lib.hid ((K3.out.trans KK3.out).setCell (p := ⟨gy, z, none⟩) (fun h => absurd h (by show ¬ gy < _; have := Z3.out; omega)) _)
       clear own3 hg3 O2 KK2 b0 b1 b2 b3 b4 b5 b6 e0 e1 e2 e3 e4 e5 e6 cy1 cy0 a0 a1 a2 a3 a4 a5 a6 f0 f1 f2 f3 f4 f5 f6 C5 hC6 hGW hgy'
       obtain ⟨b0, b1, b2, b3, b4, b5, b6, e0, e1, e2, e3, e4, e5, e6⟩ := seven (B3.out.keeps KK3.out id))
    | (refine wpList_load_whole rfl 27 _ rfl gt rfl 27 #[.slice Aq s.players.length cq, .slice Ad s.cards.length cd, .slice (some ⟨gy, 0, none⟩) s.zones.length cy, .int .i32 s.turn, .int .i64 s.whose, .int .i8 s.fin, .int .i64 s.winner] _ B5.out Try.underlying27 rfl size_st ?_)
    | (refine wpList_store_whole rfl 27 _ _ rfl rfl (w.heap.size + 1 + 1) rfl #[.slice Aq s.players.length cq, .slice Ad s.cards.length cd, .slice (some ⟨gy, 0, none⟩) s.zones.length cy, .int .i32 s.turn, .int .i64 s.whose, .int .i8 s.fin, .int .i64 s.winner] rfl 27 #[.slice none 0 0, .slice none 0 0, .slice none 0 0, .int .i32 0, .int .i64 0, .int .i8 0, .int .i64 0] T5.out size_st rfl (by simp [Value.oneCell']) ?_))
  have hzz : (rowS s z (putR r at_ card)).zones.length = s.zones.length := by simp [rowS]
  refine bodyPost_ret (results_cell (by rfl) _ (w.heap.size + 1 + 1) (by rfl) #[.slice Aq s.players.length cq, .slice Ad s.cards.length cd, .slice (some ⟨gy, 0, none⟩) s.zones.length cy, .int .i32 s.turn, .int .i64 s.whose, .int .i8 s.fin, .int .i64 s.winner] _ (heap_setRow_same T5.out _) _ Try.underlying27 rfl size_st) rfl ?_
  refine ⟨Aq, Ad, some ⟨gy, 0, none⟩, cq, cd, cy, by rw [hzz]; rfl, ?_, K5.out.setRow (fun h => absurd h (by omega)) _⟩
  have hS : Keeps (fun b => b = w.heap.size + 1 + 1) (w5.setCell ⟨gy, z, none⟩ (.slice A3 (putR r at_ card).length c3')) ((w5.setCell ⟨gy, z, none⟩ (.slice A3 (putR r at_ card).length c3')).setRow (w.heap.size + 1 + 1) #[.slice Aq s.players.length cq, .slice Ad s.cards.length cd, .slice (some ⟨gy, 0, none⟩) s.zones.length cy, .int .i32 s.turn, .int .i64 s.whose, .int .i8 s.fin, .int .i64 s.winner]) := (Keeps.refl (fun b => b = w.heap.size + 1 + 1) _).setRow (fun _ => rfl) _
  exact (C6.out.keeps hS (fun b hb e => by have := Z3.out; omega)).lies
end Go.Proofs.Ytgbikcliembkcaa
