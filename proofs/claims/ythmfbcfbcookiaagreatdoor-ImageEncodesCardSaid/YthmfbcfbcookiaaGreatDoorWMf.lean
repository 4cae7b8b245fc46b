/-
  The document's entries of a state: the walk. Conditions: lengths within 10 ^ 9.
-/
import Derived.Test.YthmfbcfbcookiaaGreatDoorChA
import Derived.Test.YthmfbcfbcookiaaGreatDoorChB
import Derived.Deep.RegionHeld3
namespace Go.Proofs.YthmfbcfbcookiaaGreatDoor
open Go.RowKit
set_option maxHeartbeats 1000000 in
theorem entries_any (s : St) (Ap Ac Az : Option Addr) (B cp cc cz : Nat) (w : World) (hx : StIn w B s Ap Ac Az) (hB : B ≤ w.heap.size) (hs : StSmall s) (hf : s.zones.flatten.length ≤ 1000000000) :
    Calls Tryz.prog 99 #[stV s Ap Ac Az cp cc cz] w fun e w' => ∃ A cap, e = .returned (.slice A s.zones.flatten.length cap) ∧ w'.ownsRow w.heap.size 3 1 (.slice A s.zones.flatten.length cap) s.zones.flatten.length (s.zones.flatten.map (Value.int .i64)) ∧ Keeps (fun _ => False) w w' := by
  unfold stV
  have HM := Lib.hid (Whole.made w 27 #[.slice Ap s.players.length cp, .slice Ac s.cards.length cc, .slice Az s.zones.length cz, .int .i32 s.turn, .int .i64 s.whose, .int .i8 s.fin, .int .i64 s.winner])
  have KK := Lib.hid ((Keeps.refl (fun _ => False) w).alloc (.cells #[.slice Ap s.players.length cp, .slice Ac s.cards.length cc, .slice Az s.zones.length cz, .int .i32 s.turn, .int .i64 s.whose, .int .i8 s.fin, .int .i64 s.winner] 27))
  have NN := Lib.hid (show w.heap.size + 1 ≤ (w.alloc (.cells #[.slice Ap s.players.length cp, .slice Ac s.cards.length cc, .slice Az s.zones.length cz, .int .i32 s.turn, .int .i64 s.whose, .int .i8 s.fin, .int .i64 s.winner] 27)).heap.size by simp)
  have hzl := hs.zones
  go_enter Tryz.func99, Tryz.ntmps99
  go_wp2_with fail
  generalize w.alloc (.cells #[.slice Ap s.players.length cp, .slice Ac s.cards.length cc, .slice Az s.zones.length cz, .int .i32 s.turn, .int .i64 s.whose, .int .i8 s.fin, .int .i64 s.winner] 27) = w0 at *
  go_loopw [3, 4] (fun vl vi wr => ∃ (i n c : Nat) (A : Option Addr), i ≤ s.zones.length ∧ vi = .int .i64 i ∧ vl = .slice A n c ∧ Hid (n = (s.zones.take i).flatten.length) ∧ Hid (wr.ownsRow (w.heap.size + 1) 3 1 (.slice A n c) n ((s.zones.take i).flatten.map (Value.int .i64))) ∧ Hid (Whole wr w.heap.size 27 #[.slice Ap s.players.length cp, .slice Ac s.cards.length cc, .slice Az s.zones.length cz, .int .i32 s.turn, .int .i64 s.whose, .int .i8 s.fin, .int .i64 s.winner]) ∧ Hid (Keeps (fun _ => False) w wr) ∧ Hid (w.heap.size + 1 ≤ wr.heap.size)) (fun _ vi _ => s.zones.length - (intOf vi).toNat)
  case atStart => exact ⟨0, 0, 0, none, by omega, rfl, rfl, Lib.hid (by simp), Lib.hid (by simpa using World.ownsRow_nil w0 _ _ _), HM, KK, NN⟩
  case round =>
    clear HM KK NN
    obtain ⟨i, n, c, A, hi, rfl, rfl, HN, HO, HM, HK, NN⟩ := hrel
    obtain ⟨a0, a1, a2, a3, a4, a5, a6, f0, f1, f2, f3, f4, f5, f6⟩ := seven HM.out
    by_cases hlt : i < s.zones.length
    · obtain ⟨g, off, Ai, ci, hAz, hg, hc0, hl0⟩ := hx.zones i s.zones[i] (List.getElem?_eq_getElem hlt)
      subst hAz
      have hc := (HK.out.cell (b := g) (o := off + i) (by omega) id).trans hc0
      have HL := Lib.hid (hl0.keeps HK.out (fun _ _ => id) hB)
      have HF := Lib.hid (flat_take_next s.zones i s.zones[i] (List.getElem?_eq_getElem hlt))
      have hb := flat_take_le s.zones (i + 1)
      rw [HF.out, List.length_append, ← HN.out] at hb
      generalize s.zones[i] = r at *
      clear hc0 hl0
      go_wp2_with (first
        | (at_builtin
           refine wpList_append_cells _ rfl _ _ 90 rfl (w.heap.size + 1) 3 (.int .i64 0) 1 8 Tryz.underlying90 info_int rfl (by decide) (.slice A n c) n ((s.zones.take i).flatten.map (Value.int .i64)) rfl HO.out B Ai r.length ci (r.map (Value.int .i64)) rfl HL.out (by simp) (cells_one_int r) (by simp only [maxLen]; omega) (by omega) NN.out ?_
           intro A2 c2 w2 hown hg2 _ _ _))
      have hgk : Keeps (fun b => (Value.slice A n c).ownBlock = some b) wr w2 := (Keeps.refl _ wr).grown hg2 (fun k hk _ => hk)
      refine ⟨⟨i + 1, n + r.length, c2, A2, by omega, by go_num, rfl, Lib.hid (by rw [HF.out, List.length_append, ← HN.out]), Lib.hid ?_, Lib.hid (HM.out.keeps hgk (fun e => by have := (HO.out.lt _ e).1; omega)), Lib.hid (HK.out.grown hg2 (fun k hk h0 => absurd (HO.out.lt k hk).1 (by omega))), Lib.hid (Nat.le_trans NN.out hgk.size)⟩, by simp [intOf]; omega⟩
      rw [HF.out, List.map_append]
      exact hown
    · obtain rfl : i = s.zones.length := by omega
      rw [List.take_length] at HN HO
      go_wp2_with fail
      go_ret
      have hn := HN.out
      subst hn
      exact ⟨A, c, rfl, HO.out.mono (by omega), HK.out⟩
end Go.Proofs.YthmfbcfbcookiaaGreatDoor
/-
  The document's list of things of a state: the walk. Conditions: lengths within 10 ^ 9.
-/
namespace Go.Proofs.YthmfbcfbcookiaaGreatDoor
open Go.RowKit
theorem info_bool : (Tryz.prog.info? 4).map (fun i => (i.zero, i.size, i.bytes)) = some (some (.bool false), 1, 1) := by kernel_rfl
/-- A list of bools, its cells. -/
def bools (l : List Bool) : List Value := l.map Value.bool
theorem bools_one (l : List Bool) : ∀ u ∈ bools l, u.oneCell' = true := fun u hu => by
  obtain ⟨c, _, rfl⟩ := List.mem_map.1 hu; rfl
/-- The list that grows: its row, the state's box, what stays. -/
structure OutIn (w wr : World) (SA : Array Value) (T : Nat → Prop) (L : List Bool) (A : Option Addr) (n c : Nat) : Prop where
  len : n = L.length
  own : wr.ownsRow (w.heap.size + 1) 4 1 (.slice A n c) n (bools L)
  off : ∀ b, (Value.slice A n c).ownBlock = some b → ¬ T b
  whole : Whole wr w.heap.size 27 SA
  keeps : Keeps (fun _ => False) w wr
  size : w.heap.size + 1 ≤ wr.heap.size
theorem OutIn.on {S : Nat → Prop} {w wr w' : World} {SA : Array Value} {T : Nat → Prop} {L : List Bool} {A : Option Addr} {n c : Nat} (h : OutIn w wr SA T L A n c) (hk : Keeps S wr w') (hS : ∀ b, S b → w.heap.size + 1 ≤ b ∧ T b) : OutIn w w' SA T L A n c :=
  ⟨h.len, own_keepsS h.own hk fun b hb hs => h.off b hb (hS b hs).2, h.off, h.whole.keeps hk fun hs => by have := (hS _ hs).1; omega, h.keeps.and hk (fun b hb hs => by have := (hS b hs).1; omega), Nat.le_trans h.size hk.size⟩
theorem OutIn.calm {w wr w' : World} {SA : Array Value} {T : Nat → Prop} {L : List Bool} {A : Option Addr} {n c : Nat} (h : OutIn w wr SA T L A n c) (hk : Keeps (fun _ => False) wr w') : OutIn w w' SA T L A n c := h.on hk fun _ h => h.elim
theorem OutIn.turn {w wr : World} {SA : Array Value} {T T' : Nat → Prop} {L : List Bool} {A : Option Addr} {n c : Nat} (h : OutIn w wr SA T L A n c) (hT : ∀ b, b < wr.heap.size → T' b → T b) : OutIn w wr SA T' L A n c :=
  ⟨h.len, h.own, fun b hb ht => h.off b hb (hT b (h.own.lt b hb).2 ht), h.whole, h.keeps, h.size⟩
/-- More of them put behind. -/
theorem OutIn.push {w wr w2 : World} {SA : Array Value} {T : Nat → Prop} {L M : List Bool} {A A2 : Option Addr} {n m c c2 : Nat} (h : OutIn w wr SA T L A n c) (hT : ∀ b, T b → b < wr.heap.size) (hm : m = M.length) (hg : wr.grownBy w2 (Value.slice A n c).ownBlock)
    (hown : w2.ownsRow (w.heap.size + 1) 4 1 (.slice A2 (n + m) c2) (n + m) (bools L ++ bools M)) (hor : (Value.slice A2 (n + m) c2).ownBlock = (Value.slice A n c).ownBlock ∨ (Value.slice A2 (n + m) c2).ownBlock = some wr.heap.size) : OutIn w w2 SA T (L ++ M) A2 (n + m) c2 := by
  have hgk : Keeps (fun b => (Value.slice A n c).ownBlock = some b) wr w2 := (Keeps.refl _ wr).grown hg (fun k hk _ => hk)
  refine ⟨by rw [List.length_append, h.len, hm], by rw [bools, List.map_append]; exact hown, fun b hb ht => ?_, h.whole.keeps hgk (fun e => by have := (h.own.lt _ e).1; omega), h.keeps.grown hg (fun k hk h0 => absurd (h.own.lt k hk).1 (by omega)), Nat.le_trans h.size hgk.size⟩
  rcases hor with e | e
  · exact h.off b (e ▸ hb) ht
  · rw [e] at hb
    injection hb with hb
    have := hT b ht
    omega
/-- Which numbers below m stand in a list. -/
def stoodM (m : Nat) (p : List Int) : Array Value := full m (fun i => .bool (decide ((i : Int) ∈ p)))
theorem made_stood (m : Nat) : madeCells #[.bool false] m = stoodM m [] := by
  rw [fillTo_zero m (fun _ => .bool false) (.bool false)]
  unfold fillTo stoodM full
  congr 1
theorem stoodM_get (m : Nat) (p : List Int) (i : Nat) (h : i < m) : (stoodM m p)[i]? = some (.bool (decide ((i : Int) ∈ p))) := full_get m _ i h
theorem stoodM_put (m : Nat) (p : List Int) (i : Nat) : (stoodM m p).setIfInBounds i (.bool true) = stoodM m (p ++ [(i : Int)]) := by
  unfold stoodM
  rw [full_put]
  refine full_congr fun k _ => ?_
  by_cases e : k = i
  · subst e; simp
  · rw [if_neg e]
    have : ((k : Int) ∈ p ++ [(i : Int)]) = ((k : Int) ∈ p) := by
      apply propext
      simp only [List.mem_append, List.mem_singleton]
      exact ⟨fun h => h.resolve_right (by omega), .inl⟩
    simp only [this]
/-- The list where i entries were good. -/
def beforeL (s : St) (i : Nat) : List Bool := true :: (s.players.map plB ++ (s.cards.map (cardB s.players.length) ++ List.replicate i true))
theorem beforeL_next (s : St) (i : Nat) : beforeL s (i + 1) = beforeL s i ++ [true] := by
  simp only [beforeL, List.cons_append, List.append_assoc, List.replicate_succ']
theorem beforeL_length (s : St) (i : Nat) : (beforeL s i).length = 1 + s.players.length + s.cards.length + i := by simp [beforeL]; omega
theorem things_bad {s : St} {p r : List Int} {x : Int} (h : headB s = true) (e : s.zones.flatten = p ++ x :: r) (hg : AllGood s.cards.length p) (hx : ¬ (0 ≤ x ∧ x < (s.cards.length : Int) ∧ x ∉ p)) : thingsB s = beforeL s p.length ++ [false] := by
  unfold thingsB beforeL
  rw [if_pos h, e, lead_bad hg hx, if_pos (by simp)]
  simp only [List.cons_append, List.append_assoc]
theorem things_full {s : St} (h : headB s = true) (hg : AllGood s.cards.length s.zones.flatten) : thingsB s = beforeL s s.zones.flatten.length ++ [decide (s.zones.flatten.length = s.cards.length), turnB s, whoseB s, endB s, winB s] := by
  unfold thingsB beforeL
  rw [if_pos h, lead_all hg, if_neg (Nat.lt_irrefl _)]
  simp only [List.cons_append, List.append_assoc]
theorem own_kind {w : World} {B B' s s' n n' b : Nat} {e e' : TypeId} {v v' : Value} {xs xs' : List Value} (h : w.ownsRow B e s v n xs) (h' : w.ownsRow B' e' s' v' n' xs') (hne : e ≠ e') (hb : v.ownBlock = some b) : v'.ownBlock ≠ some b := fun hb' => by
  rcases h.2 with ⟨rfl, _⟩ | ⟨g, _, cur, rfl, _, hg, _⟩
  · cases hb
  · rcases h'.2 with ⟨rfl, _⟩ | ⟨g', _, cur', rfl, _, hg', _⟩
    · cases hb'
    · simp only [Value.ownBlock, Option.some.injEq] at hb hb'
      subst hb hb'
      rw [hg] at hg'
      injection hg' with hg'
      injection hg' with _ hg' _
      exact hne hg'
theorem whole_kind_own {w : World} {B s n b : Nat} {e t : TypeId} {v : Value} {xs : List Value} {cs : Array Value} (h : w.ownsRow B e s v n xs) (hw : Whole w b t cs) (hne : t ≠ e) : v.ownBlock ≠ some b := fun hb => by
  rcases h.2 with ⟨rfl, _⟩ | ⟨g, _, cur, rfl, _, hg, _⟩
  · cases hb
  · simp only [Value.ownBlock, Option.some.injEq] at hb
    subst hb
    have e := hw.symm.trans hg
    injection e with e
    injection e with _ e _
    exact hne e
theorem OutIn.done {w wr : World} {SA : Array Value} {T : Nat → Prop} {L M : List Bool} {A : Option Addr} {n c : Nat} (h : OutIn w wr SA T L A n c) (hM : M = L) : ∃ A' cap, Ending.returned (.slice A n c) = Ending.returned (.slice A' M.length cap) ∧ wr.ownsRow w.heap.size 4 1 (.slice A' M.length cap) M.length (bools M) ∧ Keeps (fun _ => False) w wr := by
  subst hM
  have hl := h.len
  subst hl
  exact ⟨A, c, rfl, h.own.mono (by omega), h.keeps⟩
theorem step_if {c : Bool} {A B : Prop} (hc : c = true) (h : A) : if c = true then A else B := by rw [if_pos hc]; exact h
theorem head_no {s : St} (h : ¬ (2 ≤ s.players.length ∧ s.players.length ≤ 4 ∧ 1 ≤ s.cards.length ∧ s.cards.length ≤ 256 ∧ s.zones.length = 4 * s.players.length)) : headB s = false := by
  cases hb : headB s
  · rfl
  · exact absurd ((head_iff s).1 hb) h
theorem things_short {s : St} (h : headB s = false) : thingsB s = [false] := by rw [thingsB, if_neg (by rw [h]; decide)]
set_option maxHeartbeats 4000000 in
set_option maxRecDepth 100000 in
theorem things_any (s : St) (Ap Ac Az : Option Addr) (B cp cc cz : Nat) (w : World) (hx : StIn w B s Ap Ac Az) (hB : B ≤ w.heap.size) (hs : StSmall s) (hf : s.zones.flatten.length ≤ 1000000000) :
    Calls Tryz.prog 91 #[stV s Ap Ac Az cp cc cz] w fun e w' => ∃ A cap, e = .returned (.slice A (thingsB s).length cap) ∧ w'.ownsRow w.heap.size 4 1 (.slice A (thingsB s).length cap) (thingsB s).length (bools (thingsB s)) ∧ Keeps (fun _ => False) w w' := by
  unfold stV
  have HM := Lib.hid (Whole.made w 27 #[.slice Ap s.players.length cp, .slice Ac s.cards.length cc, .slice Az s.zones.length cz, .int .i32 s.turn, .int .i64 s.whose, .int .i8 s.fin, .int .i64 s.winner])
  have KK := Lib.hid ((Keeps.refl (fun _ => False) w).alloc (.cells #[.slice Ap s.players.length cp, .slice Ac s.cards.length cc, .slice Az s.zones.length cz, .int .i32 s.turn, .int .i64 s.whose, .int .i8 s.fin, .int .i64 s.winner] 27))
  have NN := Lib.hid (show w.heap.size + 1 ≤ (w.alloc (.cells #[.slice Ap s.players.length cp, .slice Ac s.cards.length cc, .slice Az s.zones.length cz, .int .i32 s.turn, .int .i64 s.whose, .int .i8 s.fin, .int .i64 s.winner] 27)).heap.size by simp)
  have hpl := hs.players
  have hcl := hs.cards
  have hzl := hs.zones
  have SS := Lib.hid hs
  have XX := Lib.hid hx
  obtain ⟨l, hfl⟩ : ∃ l, s.zones.flatten = l := ⟨_, rfl⟩
  rw [hfl] at hf
  have HFL := Lib.hid hfl
  clear hx hs hfl
  have hsz1 : (w.alloc (.cells #[.slice Ap s.players.length cp, .slice Ac s.cards.length cc, .slice Az s.zones.length cz, .int .i32 s.turn, .int .i64 s.whose, .int .i8 s.fin, .int .i64 s.winner] 27)).heap.size = w.heap.size + 1 := by simp
  have OF : Hid (∀ b, ((w.alloc (.cells #[.slice Ap s.players.length cp, .slice Ac s.cards.length cc, .slice Az s.zones.length cz, .int .i32 s.turn, .int .i64 s.whose, .int .i8 s.fin, .int .i64 s.winner] 27)).alloc (.cells #[.bool b] 4)).ownsRow w.heap.size 4 1 (.slice (some ⟨w.heap.size + 1, 0, none⟩) 1 1) 1 (bools [b])) := Lib.hid (fun b => by
    have h := World.ownsRow_lit (base := w.heap.size) (e := 4) (size := 1) (w.alloc (.cells #[.slice Ap s.players.length cp, .slice Ac s.cards.length cc, .slice Az s.zones.length cz, .int .i32 s.turn, .int .i64 s.whose, .int .i8 s.fin, .int .i64 s.winner] 27)) #[.bool b] 1 (by rw [hsz1]; omega) (by decide) rfl
    rw [hsz1] at h; exact h)
  have OF1 : Hid (∀ b, ((w.alloc (.cells #[.slice Ap s.players.length cp, .slice Ac s.cards.length cc, .slice Az s.zones.length cz, .int .i32 s.turn, .int .i64 s.whose, .int .i8 s.fin, .int .i64 s.winner] 27)).alloc (.cells #[.bool b] 4)).ownsRow (w.heap.size + 1) 4 1 (.slice (some ⟨w.heap.size + 1, 0, none⟩) 1 1) 1 (bools [b])) := Lib.hid (fun b => by
    have h := World.ownsRow_lit (base := w.heap.size + 1) (e := 4) (size := 1) (w.alloc (.cells #[.slice Ap s.players.length cp, .slice Ac s.cards.length cc, .slice Az s.zones.length cz, .int .i32 s.turn, .int .i64 s.whose, .int .i8 s.fin, .int .i64 s.winner] 27)) #[.bool b] 1 (by rw [hsz1]; omega) (by decide) rfl
    rw [hsz1] at h; exact h)
  clear hsz1
  go_enter Tryz.func91, Tryz.ntmps91
  go_wp2_with fail
  refine (from_any s.players.length 2 4 _).mono ?_
  rintro e w1 ⟨rfl, rfl⟩
  cases hb1 : decide ((2 : Int) ≤ s.players.length) && decide ((s.players.length : Int) ≤ 4)
  · have HH : Hid (headB s = false) := Lib.hid (head_no (fun h => by simp at hb1; omega))
    have HT := Lib.hid (things_short HH.out)
    clear hb1
    go_wp2_with fail
    go_ret
    rw [HT.out]
    exact ⟨some ⟨w.heap.size + 1, 0, none⟩, 1, rfl, OF.out false, KK.out.alloc _⟩
  have ⟨hn2, hn4⟩ : 2 ≤ s.players.length ∧ s.players.length ≤ 4 := by simp at hb1; omega
  clear hb1
  go_wp2_with fail
  refine (from_any s.cards.length 1 256 _).mono ?_
  rintro e w1 ⟨rfl, rfl⟩
  cases hb2 : decide ((1 : Int) ≤ s.cards.length) && decide ((s.cards.length : Int) ≤ 256)
  · have HH : Hid (headB s = false) := Lib.hid (head_no (fun h => by simp at hb2; omega))
    have HT := Lib.hid (things_short HH.out)
    clear hb2
    go_wp2_with fail
    go_ret
    rw [HT.out]
    exact ⟨some ⟨w.heap.size + 1, 0, none⟩, 1, rfl, OF.out false, KK.out.alloc _⟩
  have ⟨hm1, hm256⟩ : 1 ≤ s.cards.length ∧ s.cards.length ≤ 256 := by simp at hb2; omega
  clear hb2
  cases hz : decide (s.zones.length = 4 * s.players.length)
  · have hz' := of_decide_eq_false hz
    have HZ := Lib.hid hz'
    have HH : Hid (headB s = false) := Lib.hid (head_no (fun h => hz' h.2.2.2.2))
    have HT := Lib.hid (things_short HH.out)
    have hq : ((s.zones.length : Int) == 4 * (s.players.length : Int)) = false := beq_eq_false_iff_ne.2 (by omega)
    clear hz hz'
    go_wp2_with fail
    go_ret
    rw [HT.out]
    exact ⟨some ⟨w.heap.size + 1, 0, none⟩, 1, rfl, OF.out false, KK.out.alloc _⟩
  have hz' := of_decide_eq_true hz
  have HH : Hid (headB s = true) := Lib.hid ((head_iff s).2 ⟨hn2, hn4, hm1, hm256, hz'⟩)
  have hq : ((s.zones.length : Int) == 4 * (s.players.length : Int)) = true := beq_iff_eq.2 (by omega)
  have HZ := Lib.hid hz'
  clear hz hz'
  go_wp2_with fail
  clear hq
  have O1 : Hid (OutIn w ((w.alloc (.cells #[.slice Ap s.players.length cp, .slice Ac s.cards.length cc, .slice Az s.zones.length cz, .int .i32 s.turn, .int .i64 s.whose, .int .i8 s.fin, .int .i64 s.winner] 27)).alloc (.cells #[.bool true] 4)) #[.slice Ap s.players.length cp, .slice Ac s.cards.length cc, .slice Az s.zones.length cz, .int .i32 s.turn, .int .i64 s.whose, .int .i8 s.fin, .int .i64 s.winner] (fun _ => False) (true :: (s.players.take 0).map plB) (some ⟨w.heap.size + 1, 0, none⟩) 1 1) := Lib.hid ⟨rfl, OF1.out true, fun _ _ h => h, HM.out.alloc _, KK.out.alloc _, by simp⟩
  clear HM KK NN OF OF1
  generalize (w.alloc (.cells #[.slice Ap s.players.length cp, .slice Ac s.cards.length cc, .slice Az s.zones.length cz, .int .i32 s.turn, .int .i64 s.whose, .int .i8 s.fin, .int .i64 s.winner] 27)).alloc (.cells #[.bool true] 4) = w0 at *
  go_loopw [5, 6] (fun vo vi wr => ∃ (i n c : Nat) (A : Option Addr), i ≤ s.players.length ∧ vi = .int .i64 i ∧ vo = .slice A n c ∧ Hid (OutIn w wr #[.slice Ap s.players.length cp, .slice Ac s.cards.length cc, .slice Az s.zones.length cz, .int .i32 s.turn, .int .i64 s.whose, .int .i8 s.fin, .int .i64 s.winner] (fun _ => False) (true :: (s.players.take i).map plB) A n c)) (fun _ vi _ => s.players.length - (intOf vi).toNat)
  case atStart => exact ⟨0, 1, 1, some ⟨w.heap.size + 1, 0, none⟩, by omega, rfl, rfl, O1⟩
  case round =>
    clear O1
    obtain ⟨i, n, c, A, hi, rfl, rfl, HO⟩ := hrel
    obtain ⟨a0, a1, a2, a3, a4, a5, a6, f0, f1, f2, f3, f4, f5, f6⟩ := seven HO.out.whole
    by_cases hlt : i < s.players.length
    · obtain ⟨g, off, hA, hg, k0, k1, k2⟩ := PlLies.cells (FLies.keeps XX.out.players HO.out.keeps (fun _ _ => id) hB) i s.players[i] (List.getElem?_eq_getElem hlt)
      subst hA
      have HN : Hid (true :: (s.players.take (i + 1)).map plB = (true :: (s.players.take i).map plB) ++ [plB s.players[i]]) := Lib.hid (by rw [List.take_succ_eq_append_getElem hlt, List.map_append]; rfl)
      have hno : n ≤ 1000000001 := by have := HO.out.len; simp at this; omega
      generalize s.players[i] = x at *
      go_wp2_with fail
      refine (refStat_any x.life _).mono ?_
      rintro e w1 ⟨rfl, rfl⟩
      cases hs0 : statB x.life
      · have HV : Hid (plB x = false) := Lib.hid (by simp [plB, hs0])
        clear hs0
        have HA := Lib.hid (HO.out.calm ((Keeps.refl _ w1).alloc (.cells #[.bool (false)] 4)))
        have HL : Hid (Lies (w1.alloc (.cells #[.bool (false)] 4)) (w1.heap.size + 1) (some ⟨w1.heap.size, 0, none⟩) (bools [false])) := Lib.hid (Lies.row (fr := (0, 0)) (Whole.made w1 4 #[.bool (false)]) (Nat.lt_succ_self _))
        go_wp2_with (first
          | (at_builtin
             refine wpList_append_cells _ rfl _ _ 162 rfl (w.heap.size + 1) 4 (.bool false) 1 1 Tryz.underlying162 info_bool rfl (by decide) (.slice A n c) n (bools (true :: (s.players.take i).map plB)) rfl HA.out.own _ (some ⟨w1.heap.size, 0, none⟩) 1 1 (bools [false]) rfl HL.out rfl (bools_one [false]) (by simp only [maxLen]; omega) (by omega) HA.out.size ?_
             intro A2 c2 w2 hown hg2 hor _ _))
        have HP := HA.out.push (M := [false]) (m := 1) (fun _ h => h.elim) rfl hg2 hown hor
        rw [← HV.out, ← HN.out] at HP
        exact ⟨⟨i + 1, n + 1, c2, A2, by omega, by go_num, rfl, Lib.hid HP⟩, by simp [intOf]; omega⟩
      · go_wp2_with fail
        refine (refStat_any x.energy _).mono ?_
        rintro e w1 ⟨rfl, rfl⟩
        have HV : Hid (plB x = statB x.energy) := Lib.hid (by simp [plB, hs0])
        clear hs0
        generalize statB x.energy = bv at *
        have HA := Lib.hid (HO.out.calm ((Keeps.refl _ w1).alloc (.cells #[.bool (bv)] 4)))
        have HL : Hid (Lies (w1.alloc (.cells #[.bool (bv)] 4)) (w1.heap.size + 1) (some ⟨w1.heap.size, 0, none⟩) (bools [bv])) := Lib.hid (Lies.row (fr := (0, 0)) (Whole.made w1 4 #[.bool (bv)]) (Nat.lt_succ_self _))
        go_wp2_with (first
          | (at_builtin
             refine wpList_append_cells _ rfl _ _ 162 rfl (w.heap.size + 1) 4 (.bool false) 1 1 Tryz.underlying162 info_bool rfl (by decide) (.slice A n c) n (bools (true :: (s.players.take i).map plB)) rfl HA.out.own _ (some ⟨w1.heap.size, 0, none⟩) 1 1 (bools [bv]) rfl HL.out rfl (bools_one [bv]) (by simp only [maxLen]; omega) (by omega) HA.out.size ?_
             intro A2 c2 w2 hown hg2 hor _ _))
        have HP := HA.out.push (M := [bv]) (m := 1) (fun _ h => h.elim) rfl hg2 hown hor
        rw [← HV.out, ← HN.out] at HP
        exact ⟨⟨i + 1, n + 1, c2, A2, by omega, by go_num, rfl, Lib.hid HP⟩, by simp [intOf]; omega⟩
    · obtain rfl : i = s.players.length := by omega
      rw [List.take_length] at HO
      go_wp2_with fail
      clear a0 a1 a2 a3 a4 a5 a6 f0 f1 f2 f3 f4 f5 f6
      go_loopw [5, 7] (fun vo vi wr => ∃ (i n c : Nat) (A : Option Addr), i ≤ s.cards.length ∧ vi = .int .i64 i ∧ vo = .slice A n c ∧ Hid (OutIn w wr #[.slice Ap s.players.length cp, .slice Ac s.cards.length cc, .slice Az s.zones.length cz, .int .i32 s.turn, .int .i64 s.whose, .int .i8 s.fin, .int .i64 s.winner] (fun _ => False) (true :: (s.players.map plB ++ (s.cards.take i).map (cardB s.players.length))) A n c)) (fun _ vi _ => s.cards.length - (intOf vi).toNat)
      case atStart => exact ⟨0, n, c, A, by omega, rfl, rfl, by simpa using HO⟩
      case round =>
        clear HO
        obtain ⟨i, n, c, A, hi, rfl, rfl, HO⟩ := hrel
        obtain ⟨a0, a1, a2, a3, a4, a5, a6, f0, f1, f2, f3, f4, f5, f6⟩ := seven HO.out.whole
        by_cases hlt : i < s.cards.length
        · obtain ⟨g, off, hA, hg, k0, k1, k2, k3, k4, k5⟩ := CdLies.cells (FLies.keeps XX.out.cards HO.out.keeps (fun _ _ => id) hB) i s.cards[i] (List.getElem?_eq_getElem hlt)
          subst hA
          have HN : Hid (true :: (s.players.map plB ++ (s.cards.take (i + 1)).map (cardB s.players.length)) = (true :: (s.players.map plB ++ (s.cards.take i).map (cardB s.players.length))) ++ [cardB s.players.length s.cards[i]]) := Lib.hid (by rw [List.take_succ_eq_append_getElem hlt, List.map_append, ← List.append_assoc]; rfl)
          have hno : n ≤ 1000000001 := by have := HO.out.len; simp at this; omega
          generalize s.cards[i] = x at *
          go_wp2_with fail
          refine (refCard_any x s.players.length _ (by omega)).mono ?_
          rintro e w1 ⟨rfl, kw1⟩
          have HO1 := Lib.hid (HO.out.calm kw1)
          have hin := HO1.out.whole.inside
          clear HO a0 a1 a2 a3 a4 a5 a6 f0 f1 f2 f3 f4 f5 f6 k0 k1 k2 k3 k4 k5 kw1
          generalize cardB s.players.length x = bv at *
          have HA := Lib.hid (HO1.out.calm ((Keeps.refl _ w1).alloc (.cells #[.bool (bv)] 4)))
          have HL : Hid (Lies (w1.alloc (.cells #[.bool (bv)] 4)) (w1.heap.size + 1) (some ⟨w1.heap.size, 0, none⟩) (bools [bv])) := Lib.hid (Lies.row (fr := (0, 0)) (Whole.made w1 4 #[.bool (bv)]) (Nat.lt_succ_self _))
          go_wp2_with (first
            | (at_builtin
               refine wpList_append_cells _ rfl _ _ 162 rfl (w.heap.size + 1) 4 (.bool false) 1 1 Tryz.underlying162 info_bool rfl (by decide) (.slice A n c) n (bools (true :: (s.players.map plB ++ (s.cards.take i).map (cardB s.players.length)))) rfl HA.out.own _ (some ⟨w1.heap.size, 0, none⟩) 1 1 (bools [bv]) rfl HL.out rfl (bools_one [bv]) (by simp only [maxLen]; omega) (by omega) HA.out.size ?_
               intro A2 c2 w2 hown hg2 hor _ _))
          have HP := HA.out.push (M := [bv]) (m := 1) (fun _ h => h.elim) rfl hg2 hown hor
          rw [← HN.out] at HP
          exact ⟨⟨i + 1, n + 1, c2, A2, by omega, by go_num, rfl, Lib.hid HP⟩, by simp [intOf]; omega⟩
        · obtain rfl : i = s.cards.length := by omega
          rw [List.take_length] at HO
          clear hi hlt
          have HO1 : Hid (OutIn w wr #[.slice Ap s.players.length cp, .slice Ac s.cards.length cc, .slice Az s.zones.length cz, .int .i32 s.turn, .int .i64 s.whose, .int .i8 s.fin, .int .i64 s.winner] (fun _ => False) (beforeL s 0) A n c) := Lib.hid (by have := HO.out; simpa [beforeL] using this)
          clear HO
          have HW := Lib.hid (Whole.made wr 162 #[])
          have hmk : ∀ w : World, (Instr.makeSlice 162 (.int .i64 (s.cards.length : Int)) (.int .i64 (s.cards.length : Int))).run Tryz.prog w = .ok (.slice (some ⟨w.heap.size, 0, none⟩) s.cards.length s.cards.length) (w.alloc (.cells (madeCells #[.bool false] s.cards.length) 4)) := fun w => run_make_row' 162 4 (.bool false) 1 Tryz.underlying162 info_bool rfl .i64 .i64 s.cards.length (by omega) (by omega) w
          clear HW
          have hin := HO1.out.whole.inside
          have HS0 : Hid (Whole (wr.alloc (.cells (madeCells #[.bool false] s.cards.length) 4)) wr.heap.size 4 (stoodM s.cards.length [])) := Lib.hid (by rw [← made_stood]; exact Whole.made wr _ _)
          have HO2 := Lib.hid ((HO1.out.turn (T' := fun b => b = wr.heap.size) (fun b hb e => by omega)).calm ((Keeps.refl _ wr).alloc (.cells (madeCells #[.bool false] s.cards.length) 4)))
          have HQ : Hid (w.heap.size < wr.heap.size) := Lib.hid hin
          clear HO1
          go_wp2_with fail
          clear hmk
          clear a0 a1 a2 a3 a4 a5 a6 f0 f1 f2 f3 f4 f5 f6
          generalize (wr.alloc (.cells (madeCells #[.bool false] s.cards.length) 4)) = v0 at *
          clear hin
          generalize wr.heap.size = q at *
          have HC := entries_any s Ap Ac Az B cp cc cz v0 (XX.out.keeps HO2.out.keeps (fun _ _ => id) hB) (Nat.le_trans hB HO2.out.keeps.size) SS.out (by rw [HFL.out]; exact hf)
          rw [HFL.out] at HC
          refine HC.mono ?_
          clear HC
          rintro e v1 ⟨Al, cl, rfl, hown, hk1⟩
          have HO3 := Lib.hid (HO2.out.calm hk1)
          have HS1 := Lib.hid (HS0.out.keeps hk1 id)
          have HE1 := Lib.hid (hown.mono (base' := 0) (Nat.zero_le _))
          clear HO2 HS0 hown hk1
          have hin := HO3.out.whole.inside
          obtain ⟨a0, a1, a2, a3, a4, a5, a6, f0, f1, f2, f3, f4, f5, f6⟩ := seven HO3.out.whole
          go_wp2_with fail
          clear a0 a1 a2 a3 a4 a5 a6 f0 f1 f2 f3 f4 f5 f6 hin
          go_loopw [5, 10] (fun vo vi wr => ∃ (i n c : Nat) (A : Option Addr), i ≤ l.length ∧ vi = .int .i64 i ∧ vo = .slice A n c ∧ Hid (AllGood s.cards.length (l.take i)) ∧ Hid (OutIn w wr #[.slice Ap s.players.length cp, .slice Ac s.cards.length cc, .slice Az s.zones.length cz, .int .i32 s.turn, .int .i64 s.whose, .int .i8 s.fin, .int .i64 s.winner] (fun b => b = q) (beforeL s i) A n c) ∧ Hid (Whole wr q 4 (stoodM s.cards.length (l.take i))) ∧ Hid (wr.ownsRow 0 3 1 (.slice Al l.length cl) l.length (l.map (Value.int .i64)))) (fun _ vi _ => l.length - (intOf vi).toNat)
          case atStart => exact ⟨0, n, c, A, by omega, rfl, rfl, Lib.hid (by simpa using AllGood.nil _), HO3, by simpa using HS1, HE1⟩
          case round =>
            clear HO3 HS1 HE1
            obtain ⟨i, n, c, A, hi, rfl, rfl, HG, HO, HS, HE⟩ := hrel
            by_cases hlt : i < l.length
            · obtain ⟨gr, offr, hAr, hgr, hcr⟩ := own_lies_n HE.out i (.int .i64 l[i]) (by simp [hlt])
              subst hAr
              have hno : n ≤ 2000000000 := by have := HO.out.len; rw [beforeL_length] at this; omega
              have HN := Lib.hid (beforeL_next s i)
              have HB : Hid (¬ (0 ≤ l[i] ∧ l[i] < (s.cards.length : Int) ∧ l[i] ∉ l.take i) → thingsB s = beforeL s i ++ [false]) := Lib.hid (fun h => by
                have := things_bad HH.out (HFL.out.trans (take_split hlt)) HG.out h
                rwa [List.length_take, Nat.min_eq_left hi] at this)
              have HT : Hid ((0 ≤ l[i] ∧ l[i] < (s.cards.length : Int) ∧ l[i] ∉ l.take i) → AllGood s.cards.length (l.take (i + 1))) := Lib.hid (fun h => by rw [List.take_succ_eq_append_getElem hlt]; exact HG.out.snoc h)
              have HTK := Lib.hid (List.take_succ_eq_append_getElem hlt)
              have HLI : Hid (l[i]? = some l[i]) := Lib.hid (List.getElem?_eq_getElem hlt)
              generalize l[i] = x at *
              generalize l.take i = p at *
              generalize hpe : l.take (i + 1) = p' at *
              have HPE := Lib.hid hpe
              clear hpe
              go_wp2_with fail
              refine (from_any x 0 ((s.cards.length : Int) - 1) _).mono ?_
              rintro e w1 ⟨rfl, rfl⟩
              have hfr : (decide (0 ≤ x) && decide (x ≤ (s.cards.length : Int) - 1)) = decide (0 ≤ x ∧ x < (s.cards.length : Int)) := by
                rw [← Bool.decide_and]; congr 1; exact propext ⟨fun h => ⟨h.1, by omega⟩, fun h => ⟨h.1, by omega⟩⟩
              rw [hfr]
              clear hfr
              by_cases x0 : 0 ≤ x ∧ x < (s.cards.length : Int)
              rotate_left
              · have HB' := Lib.hid (HB.out (fun h => x0 ⟨h.1, h.2.1⟩))
                rw [decide_eq_false x0]
                clear HB HT x0
                have HA := Lib.hid (HO.out.calm ((Keeps.refl _ w1).alloc (.cells #[.bool (false)] 4)))
                have HL : Hid (Lies (w1.alloc (.cells #[.bool (false)] 4)) (w1.heap.size + 1) (some ⟨w1.heap.size, 0, none⟩) (bools [false])) := Lib.hid (Lies.row (fr := (0, 0)) (Whole.made w1 4 #[.bool (false)]) (Nat.lt_succ_self _))
                go_wp2_with (first
                  | (at_builtin
                     refine wpList_append_cells _ rfl _ _ 162 rfl (w.heap.size + 1) 4 (.bool false) 1 1 Tryz.underlying162 info_bool rfl (by decide) (.slice A n c) n (bools (beforeL s i)) rfl HA.out.own _ (some ⟨w1.heap.size, 0, none⟩) 1 1 (bools [false]) rfl HL.out rfl (bools_one [false]) (by simp only [maxLen]; omega) (by omega) HA.out.size ?_
                     intro A2 c2 w2 hown hg2 hor _ _))
                have HP := HA.out.push (M := [false]) (m := 1) (fun b hb => by subst hb; exact (HS.out.alloc _).inside) rfl hg2 hown hor
                go_ret
                exact HP.done HB'.out
              rw [decide_eq_true x0]
              obtain ⟨y, rfl⟩ : ∃ y : Nat, x = (y : Int) := ⟨x.toNat, by omega⟩
              have hy : y < s.cards.length := by omega
              have hcy := (HS.out.cellAt y).trans (stoodM_get s.cards.length p y hy)
              by_cases x2 : (y : Int) ∈ p
              · have HB' := Lib.hid (HB.out (fun h => h.2.2 x2))
                rw [decide_eq_true x2] at hcy
                clear HB HT x0 x2
                have HA := Lib.hid (HO.out.calm ((Keeps.refl _ w1).alloc (.cells #[.bool (false)] 4)))
                have HL : Hid (Lies (w1.alloc (.cells #[.bool (false)] 4)) (w1.heap.size + 1) (some ⟨w1.heap.size, 0, none⟩) (bools [false])) := Lib.hid (Lies.row (fr := (0, 0)) (Whole.made w1 4 #[.bool (false)]) (Nat.lt_succ_self _))
                go_wp2_with (first
                  | (at_builtin
                     refine wpList_append_cells _ rfl _ _ 162 rfl (w.heap.size + 1) 4 (.bool false) 1 1 Tryz.underlying162 info_bool rfl (by decide) (.slice A n c) n (bools (beforeL s i)) rfl HA.out.own _ (some ⟨w1.heap.size, 0, none⟩) 1 1 (bools [false]) rfl HL.out rfl (bools_one [false]) (by simp only [maxLen]; omega) (by omega) HA.out.size ?_
                     intro A2 c2 w2 hown hg2 hor _ _))
                have HP := HA.out.push (M := [false]) (m := 1) (fun b hb => by subst hb; exact (HS.out.alloc _).inside) rfl hg2 hown hor
                go_ret
                exact HP.done HB'.out
              · have HT' := Lib.hid (HT.out ⟨x0.1, x0.2, x2⟩)
                rw [decide_eq_false x2] at hcy
                have X2 := Lib.hid (decide_eq_false x2)
                clear HB HT x0 x2
                have FACT : Hid (∀ w2, (w1.alloc (.cells #[.bool (true)] 4)).grownBy w2 (Value.slice A n c).ownBlock → Whole w2 q 4 (stoodM s.cards.length p)) := Lib.hid (fun w2 hg => (HS.out.alloc (.cells #[.bool (true)] 4)).keeps ((Keeps.refl _ _).grown hg (fun k hk _ => hk)) (fun e => HO.out.off q e rfl))
                have FACT3 : Hid (∀ w2, (w1.alloc (.cells #[.bool (true)] 4)).grownBy w2 (Value.slice A n c).ownBlock → w2.ownsRow 0 3 1 (.slice (some ⟨gr, offr, none⟩) l.length cl) l.length (l.map (Value.int .i64))) := Lib.hid (fun w2 hg => own_keepsS (HE.out.alloc (.cells #[.bool (true)] 4)) ((Keeps.refl _ _).grown hg (fun k hk _ => hk)) (fun b hb e => own_kind HE.out HO.out.own (by decide) hb e))
                have FACT2 : Hid (∀ w2, (w1.alloc (.cells #[.bool (true)] 4)).grownBy w2 (Value.slice A n c).ownBlock → w2.cell? ⟨gr, offr + i, none⟩ = some (.int .i64 y)) := Lib.hid (fun w2 hg => by
                  obtain ⟨g', off', e1, _, e2⟩ := own_lies_n (FACT3.out w2 hg) i (.int .i64 y) (by rw [List.getElem?_map, HLI.out]; rfl)
                  injection e1 with e1
                  injection e1 with e1 e1'
                  subst e1 e1'
                  exact e2)
                have HA := Lib.hid (HO.out.calm ((Keeps.refl _ w1).alloc (.cells #[.bool (true)] 4)))
                have HL : Hid (Lies (w1.alloc (.cells #[.bool (true)] 4)) (w1.heap.size + 1) (some ⟨w1.heap.size, 0, none⟩) (bools [true])) := Lib.hid (Lies.row (fr := (0, 0)) (Whole.made w1 4 #[.bool (true)]) (Nat.lt_succ_self _))
                go_wp2_with (first
                  | (at_builtin
                     refine wpList_append_cells _ rfl _ _ 162 rfl (w.heap.size + 1) 4 (.bool false) 1 1 Tryz.underlying162 info_bool rfl (by decide) (.slice A n c) n (bools (beforeL s i)) rfl HA.out.own _ (some ⟨w1.heap.size, 0, none⟩) 1 1 (bools [true]) rfl HL.out rfl (bools_one [true]) (by simp only [maxLen]; omega) (by omega) HA.out.size ?_
                     intro A2 c2 w2 hown hg2 hor _ _
                     have hcy2 := ((FACT.out w2 hg2).cellAt y).trans (stoodM_get s.cards.length p y hy)
                     have hfy2 := (FACT.out w2 hg2).free y
                     have hcr2 := FACT2.out w2 hg2))
                have HP := HA.out.push (M := [true]) (m := 1) (fun b hb => by subst hb; exact (HS.out.alloc _).inside) rfl hg2 hown hor
                rw [← HN.out] at HP
                have HP' := HP.on ((Keeps.refl (fun b => b = q) w2).setCell (p := ⟨q, y, none⟩) (fun _ => rfl) (.bool true)) (fun b hb => ⟨by have := HQ.out; omega, hb⟩)
                have HW' : Whole (w2.setCell ⟨q, y, none⟩ (.bool true)) q 4 (stoodM s.cards.length (l.take (i + 1))) := by
                  rw [HPE.out, HTK.out, ← stoodM_put]; exact (FACT.out w2 hg2).put y _
                have HE' := own_keepsS (FACT3.out w2 hg2) ((Keeps.refl (fun b => b = q) w2).setCell (p := ⟨q, y, none⟩) (fun _ => rfl) (.bool true)) (fun b hb e => by subst e; exact whole_kind_own (FACT3.out w2 hg2) (FACT.out w2 hg2) (by decide) hb)
                exact ⟨⟨i + 1, n + 1, c2, A2, by omega, by go_num, rfl, by rw [HPE.out]; exact HT', Lib.hid HP', Lib.hid HW', Lib.hid HE'⟩, by simp [intOf]; omega⟩
            · obtain rfl : i = l.length := by omega
              rw [List.take_length] at HG HS
              go_wp2_with fail
              go_loopw [12, 13] (fun va vi wq => ∃ (i : Nat) (b : Bool), i ≤ s.cards.length ∧ vi = .int .i64 i ∧ va = .bool b ∧ Hid (b = true ↔ ∀ k : Nat, k < i → (k : Int) ∈ l) ∧ wq = wr) (fun _ vi _ => s.cards.length - (intOf vi).toNat)
              case atStart => exact ⟨0, true, by omega, rfl, rfl, Lib.hid (by simp), rfl⟩
              case round =>
                obtain ⟨i, b, hi', rfl, rfl, Hb, rfl⟩ := hrel
                by_cases hlt' : i < s.cards.length
                · have hcy := (HS.out.cellAt i).trans (stoodM_get s.cards.length l i hlt')
                  have Hn : Hid ((b && decide ((i : Int) ∈ l)) = true ↔ ∀ k : Nat, k < i + 1 → (k : Int) ∈ l) := Lib.hid (by
                    rw [Bool.and_eq_true, Hb.out, decide_eq_true_eq]
                    exact ⟨fun h k hk => by
                      by_cases e : k = i
                      · subst e; exact h.2
                      · exact h.1 k (by omega), fun h => ⟨fun k hk => h k (by omega), h i (by omega)⟩⟩)
                  cases b
                  · go_wp2_with fail
                    first
                      | (go_roundw
                         case rel => exact ⟨i + 1, false, by omega, by go_num, rfl, by simpa using Hn, rfl⟩
                         case measure => simp [intOf]; omega)
                      | exact ⟨⟨i + 1, false, by omega, by go_num, rfl, by simpa using Hn, trivial⟩, by simp [intOf]; omega⟩
                  · generalize decide ((i : Int) ∈ l) = d at *
                    go_wp2_with fail
                    first
                      | (go_roundw
                         case rel => exact ⟨i + 1, d, by omega, by go_num, rfl, by simpa using Hn, rfl⟩
                         case measure => simp [intOf]; omega)
                      | exact ⟨⟨i + 1, d, by omega, by go_num, rfl, by simpa using Hn, trivial⟩, by simp [intOf]; omega⟩
                · obtain rfl : i = s.cards.length := by omega
                  have HA0 : Hid (b = decide (s.zones.flatten.length = s.cards.length)) := Lib.hid (by
                    have h1 := Hb.out
                    rw [← (AllGood.full HG.out).2] at h1
                    rw [HFL.out]
                    cases b
                    · symm; rw [decide_eq_false_iff_not]; exact fun e => by have := h1.2 e; cases this
                    · symm; rw [decide_eq_true_eq]; exact h1.1 rfl)
                  obtain ⟨a0, a1, a2, a3, a4, a5, a6, f0, f1, f2, f3, f4, f5, f6⟩ := seven HO.out.whole
                  go_wp2_with fail
                  clear a0 a1 a2 a6 f0 f1 f2 f3 f4 f5 f6
                  have hfr : (decide (0 ≤ s.whose) && decide (s.whose ≤ (s.players.length : Int) - 1)) = whoseB s := by
                    unfold whoseB; congr 1; congr 1; exact propext ⟨fun h => by omega, fun h => by omega⟩
                  have HWR : Hid (IntKind.i64.wrap ((s.players.length : Int) - 1) = (s.players.length : Int) - 1) := Lib.hid (by rw [IntKind.wrap_i64]; omega)
                  have HFR := Lib.hid hfr
                  clear hfr
                  have hno : n ≤ 2000000000 := by have := HO.out.len; rw [beforeL_length] at this; omega
                  rcases Classical.em (s.fin = 0) with e0 | e0 <;> rcases Classical.em (s.fin = 1) with e1 | e1 <;> rcases Classical.em (s.fin = 2) with e2 | e2
                  · exfalso; omega
                  · exfalso; omega
                  · exfalso; omega
                  · skip
                    have q0 : (s.fin == 0) = true := beq_iff_eq.2 (by omega)
                    have q1 : (s.fin == 1) = false := beq_eq_false_iff_ne.2 (by omega)
                    have q2 : (s.fin == 2) = false := beq_eq_false_iff_ne.2 (by omega)
                    have E1 : Hid (¬ s.fin = 1) := Lib.hid (by omega)
                    have EE : Hid (endB s = true) := Lib.hid (by rw [endB, decide_eq_true e0, decide_eq_false e1, decide_eq_false e2]; rfl)
                    clear e0 e1 e2
                    refine wp_region_held_drew (S := fun W => W.cell? ⟨w.heap.size, 3, none⟩ = some (.int .i32 s.turn) ∧ W.cell? ⟨w.heap.size, 4, none⟩ = some (.int .i64 s.whose) ∧ W.cell? ⟨w.heap.size, 5, none⟩ = some (.int .i8 s.fin)) (by kernel_rfl) (⟨a3, a4, a5⟩) ?_
                    intro hSn
                    have HOd := Lib.hid (HO.out.calm ((Keeps.refl _ wr).drew))
                    have HSd := Lib.hid (HS.out.drew)
                    clear a3 a4 a5
                    generalize wr.drew = wd at *
                    refine wpAnyH_take (i := 0) (v := ?v1) rfl (by kernel_rfl) (by kernel_rfl) (by kernel_rfl) (fun _ _ _ h => h) (Or.inl ⟨by rfl, ?hy1⟩) (by assumption) ?rest1
                    case hy1 =>
                      intro w hSw
                      obtain ⟨s3, s4, s5⟩ := hSw
                      go_simp
                      try with_reducible rfl
                    go_simp
                    refine wpAnyH_take (i := 1) (v := ?v2) rfl (by kernel_rfl) (by kernel_rfl) (by kernel_rfl) (fun _ _ _ h => h) (Or.inl ⟨by rfl, ?hy2⟩) (by assumption) ?rest2
                    case hy2 =>
                      intro w hSw
                      obtain ⟨s3, s4, s5⟩ := hSw
                      go_simp
                      try with_reducible rfl
                    go_simp
                    refine wpAnyH_take (i := 2) (v := ?v3) rfl (by kernel_rfl) (by kernel_rfl) (by kernel_rfl) (fun _ _ _ h => h) (Or.inl ⟨by rfl, ?hy3⟩) (by assumption) ?rest3
                    case hy3 =>
                      intro w hSw
                      obtain ⟨s3, s4, s5⟩ := hSw
                      go_simp
                      try with_reducible rfl
                    go_simp
                    refine wpAnyH_take (i := 3) (v := ?v4) rfl (by kernel_rfl) (by kernel_rfl) (by kernel_rfl) (fun _ _ _ h => h) (Or.inl ⟨by rfl, ?hy4⟩) (by assumption) ?rest4
                    case hy4 =>
                      intro w hSw
                      obtain ⟨s3, s4, s5⟩ := hSw
                      go_simp
                      try with_reducible rfl
                    go_simp
                    refine wpAnyH_take (i := 4) (v := ?v5) rfl (by kernel_rfl) (by kernel_rfl) (by kernel_rfl) (fun _ _ _ h => h) (Or.inl ⟨by rfl, ?hy5⟩) (by assumption) ?rest5
                    case hy5 =>
                      intro w hSw
                      obtain ⟨s3, s4, s5⟩ := hSw
                      go_simp
                      try with_reducible rfl
                    go_simp
                    refine wpAnyH_take (i := 5) (v := ?v6) rfl (by kernel_rfl) (by kernel_rfl) (by kernel_rfl) (fun _ _ _ h => h) (Or.inl ⟨by rfl, ?hy6⟩) (by assumption) ?rest6
                    case hy6 =>
                      intro w hSw
                      obtain ⟨s3, s4, s5⟩ := hSw
                      go_simp
                      try with_reducible rfl
                    go_simp
                    refine wpAnyH_take (i := 6) (v := ?v7) rfl (by kernel_rfl) (by kernel_rfl) (by kernel_rfl) (fun _ _ _ h => h) (Or.inl ⟨by rfl, ?hy7⟩) (by assumption) ?rest7
                    case hy7 =>
                      intro w hSw
                      obtain ⟨s3, s4, s5⟩ := hSw
                      go_simp
                      try with_reducible rfl
                    go_simp
                    refine wpAnyH_take (i := 7) (v := ?v8) rfl (by kernel_rfl) (by kernel_rfl) (by kernel_rfl) (fun _ _ _ h => h) (Or.inl ⟨by rfl, ?hy8⟩) (by assumption) ?rest8
                    case hy8 =>
                      intro w hSw
                      obtain ⟨s3, s4, s5⟩ := hSw
                      go_simp
                      try with_reducible rfl
                    go_simp
                    refine wpAnyH_take (i := 8) (v := ?v9) rfl (by kernel_rfl) (by kernel_rfl) (by kernel_rfl) (fun _ _ _ h => h) (Or.inl ⟨by rfl, ?hy9⟩) (by assumption) ?rest9
                    case hy9 =>
                      intro w hSw
                      obtain ⟨s3, s4, s5⟩ := hSw
                      go_simp
                      try with_reducible rfl
                    go_simp
                    refine wpAnyH_take (i := 10) (v := ?v10) rfl (by kernel_rfl) (by kernel_rfl) (by kernel_rfl) (fun _ _ _ h => h) (Or.inl ⟨by rfl, ?hy10⟩) (by assumption) ?rest10
                    case hy10 =>
                      intro w hSw
                      obtain ⟨s3, s4, s5⟩ := hSw
                      go_simp
                      try with_reducible rfl
                    go_simp
                    refine wpAnyH_take (i := 11) (v := ?v11) rfl (by kernel_rfl) (by kernel_rfl) (by kernel_rfl) (fun _ _ _ h => h) (Or.inl ⟨by rfl, ?hy11⟩) (by assumption) ?rest11
                    case hy11 =>
                      intro w hSw
                      obtain ⟨s3, s4, s5⟩ := hSw
                      go_simp
                      try with_reducible rfl
                    go_simp
                    refine wpAnyH_take (i := 12) (v := ?v12) rfl (by kernel_rfl) (by kernel_rfl) (by kernel_rfl) (fun _ _ _ h => h) (Or.inl ⟨by rfl, ?hy12⟩) (by assumption) ?rest12
                    case hy12 =>
                      intro w hSw
                      obtain ⟨s3, s4, s5⟩ := hSw
                      go_simp
                      try with_reducible rfl
                    go_simp
                    refine wpAnyH_ready (rs := [9]) (by kernel_rfl) (by simp) ?_
                    refine AllReadyH.cons rfl (fun K hK => ?_) AllReadyH.nil
                    go_simp
                    rw [HWR.out]
                    refine (from_any s.whose 0 ((s.players.length : Int) - 1) _).mono ?_
                    rintro e w1 ⟨rfl, rfl⟩
                    rw [HFR.out]
                    refine hK.out _ _ (hSn) (fun hSn => ?_)
                    clear hK K
                    go_simp
                    refine wpAnyH_take (i := 13) (v := ?v13) rfl (by kernel_rfl) (by kernel_rfl) (by kernel_rfl) (fun _ _ _ h => h) (Or.inl ⟨by rfl, ?hy13⟩) (by assumption) ?rest13
                    case hy13 =>
                      intro w hSw
                      obtain ⟨s3, s4, s5⟩ := hSw
                      go_simp
                      try with_reducible rfl
                    go_simp
                    refine wpAnyH_take (i := 14) (v := undef) rfl (by kernel_rfl) (by kernel_rfl) (by kernel_rfl) (fun _ _ _ h => h) (Or.inr ⟨by rfl, rfl⟩) (by assumption) ?rest14
                    go_simp
                    refine wpAnyH_take (i := 15) (v := undef) rfl (by kernel_rfl) (by kernel_rfl) (by kernel_rfl) (fun _ _ _ h => h) (Or.inr ⟨by rfl, rfl⟩) (by assumption) ?rest15
                    go_simp
                    refine wpAnyH_take (i := 16) (v := undef) rfl (by kernel_rfl) (by kernel_rfl) (by kernel_rfl) (fun _ _ _ h => h) (Or.inr ⟨by rfl, rfl⟩) (by assumption) ?rest16
                    go_simp
                    refine wpAnyH_take (i := 17) (v := ?v17) rfl (by kernel_rfl) (by kernel_rfl) (by kernel_rfl) (fun _ _ _ h => h) (Or.inl ⟨by rfl, ?hy17⟩) (by assumption) ?rest17
                    case hy17 =>
                      intro w hSw
                      obtain ⟨s3, s4, s5⟩ := hSw
                      go_simp
                      try with_reducible rfl
                    go_simp
                    refine wpAnyH_take (i := 18) (v := ?v18) rfl (by kernel_rfl) (by kernel_rfl) (by kernel_rfl) (fun _ _ _ h => h) (Or.inl ⟨by rfl, ?hy18⟩) (by assumption) ?rest18
                    case hy18 =>
                      intro w hSw
                      obtain ⟨s3, s4, s5⟩ := hSw
                      go_simp
                      try with_reducible rfl
                    go_simp
                    refine wpAnyH_take (i := 19) (v := undef) rfl (by kernel_rfl) (by kernel_rfl) (by kernel_rfl) (fun _ _ _ h => h) (Or.inr ⟨by rfl, rfl⟩) (by assumption) ?rest19
                    go_simp
                    refine wpAnyH_take (i := 20) (v := undef) rfl (by kernel_rfl) (by kernel_rfl) (by kernel_rfl) (fun _ _ _ h => h) (Or.inr ⟨by rfl, rfl⟩) (by assumption) ?rest20
                    go_simp
                    refine wpAnyH_take (i := 21) (v := undef) rfl (by kernel_rfl) (by kernel_rfl) (by kernel_rfl) (fun _ _ _ h => h) (Or.inr ⟨by rfl, rfl⟩) (by assumption) ?rest21
                    go_simp
                    refine wpAnyH_take (i := 22) (v := ?v22) rfl (by kernel_rfl) (by kernel_rfl) (by kernel_rfl) (fun _ _ _ h => h) (Or.inl ⟨by rfl, ?hy22⟩) (by assumption) ?rest22
                    case hy22 =>
                      intro w hSw
                      obtain ⟨s3, s4, s5⟩ := hSw
                      go_simp
                      try with_reducible rfl
                    go_simp
                    have HA := Lib.hid (HOd.out.calm ((Keeps.refl _ w1).alloc (.cells #[.bool b, .bool (decide (1 ≤ s.turn)), .bool (whoseB s), .bool true] 4)))
                    have HL : Hid (Lies (w1.alloc (.cells #[.bool b, .bool (decide (1 ≤ s.turn)), .bool (whoseB s), .bool true] 4)) (w1.heap.size + 1) (some ⟨w1.heap.size, 0, none⟩) (bools [b, decide (1 ≤ s.turn), whoseB s, true])) := Lib.hid (Lies.row (fr := (0, 0)) (Whole.made w1 4 #[.bool b, .bool (decide (1 ≤ s.turn)), .bool (whoseB s), .bool true]) (Nat.lt_succ_self _))
                    refine wpAnyH_ready (rs := [23]) (by kernel_rfl) (by simp) ?_
                    refine AllReadyH.cons rfl (fun K hK => ?_) AllReadyH.nil
                    go_simp
                    refine hK.out _ _ (⟨(HA.out.whole.cellAt 3).trans rfl, (HA.out.whole.cellAt 4).trans rfl, (HA.out.whole.cellAt 5).trans rfl⟩) (fun hSn => ?_)
                    clear hK K
                    go_simp
                    refine wpAnyH_ready (rs := [24]) (by kernel_rfl) (by simp) ?_
                    refine AllReadyH.cons rfl (fun K hK => ?_) AllReadyH.nil
                    refine step_if (by rfl) ?_
                    refine wp_append_cells _ _ _ 162 rfl (w.heap.size + 1) 4 (.bool false) 1 1 Tryz.underlying162 info_bool rfl (by decide) (.slice A n c) n (bools (beforeL s l.length)) rfl HA.out.own _ (some ⟨w1.heap.size, 0, none⟩) 4 4 (bools [b, decide (1 ≤ s.turn), whoseB s, true]) rfl HL.out rfl (bools_one [b, decide (1 ≤ s.turn), whoseB s, true]) (by simp only [maxLen]; omega) (by omega) HA.out.size ?_
                    intro A2 c2 w2 hown hg2 hor _ _
                    have HP := Lib.hid (HA.out.push (M := [b, decide (1 ≤ s.turn), whoseB s, true]) (m := 4) (fun b hb => by subst hb; exact (HSd.out.alloc _).inside) rfl hg2 hown hor)
                    have HQ2 : Hid (q < w2.heap.size) := Lib.hid (Nat.lt_of_lt_of_le (HSd.out.alloc (.cells #[.bool b, .bool (decide (1 ≤ s.turn)), .bool (whoseB s), .bool true] 4)).inside ((Keeps.refl (fun b => (Value.slice A n c).ownBlock = some b) _).grown hg2 (fun k hk _ => hk)).size)
                    refine hK.out _ _ (⟨(HP.out.whole.cellAt 3).trans rfl, (HP.out.whole.cellAt 4).trans rfl, (HP.out.whole.cellAt 5).trans rfl⟩) (fun hSn => ?_)
                    clear hK K
                    go_simp
                    refine wpAnyH_ready (rs := [25]) (by kernel_rfl) (by simp) ?_
                    refine AllReadyH.cons rfl (fun K hK => ?_) AllReadyH.nil
                    go_simp
                    refine hK.out _ _ (hSn) (fun hSn => ?_)
                    clear hK K
                    go_simp
                    refine wpAnyH_done (by kernel_rfl) ?_ _
                    clear hSn HA HL hown hg2 hor
                    have HT : Hid (thingsB s = (beforeL s l.length ++ [b, decide (1 ≤ s.turn), whoseB s, true]) ++ [winB s]) := Lib.hid (by rw [things_full HH.out (by rw [HFL.out]; exact HG.out), ← HA0.out, EE.out, HFL.out, List.append_assoc]; rfl)
                    obtain ⟨a0, a1, a2, a3, a4, a5, a6, f0, f1, f2, f3, f4, f5, f6⟩ := seven HP.out.whole
                    have q1n : (s.fin != 1) = true := by rw [bne, q1]; rfl
                    have hz0 : (s.winner == 0) = winB s := by
                      rw [winB, if_neg E1.out]; rfl
                    have HA := Lib.hid (HP.out.calm ((Keeps.refl _ w2).alloc (.cells #[.bool (winB s)] 4)))
                    have HL : Hid (Lies (w2.alloc (.cells #[.bool (winB s)] 4)) (w2.heap.size + 1) (some ⟨w2.heap.size, 0, none⟩) (bools [winB s])) := Lib.hid (Lies.row (fr := (0, 0)) (Whole.made w2 4 #[.bool (winB s)]) (Nat.lt_succ_self _))
                    go_wp2_with (first
                      | (at_builtin
                         refine wpList_append_cells _ rfl _ _ 162 rfl (w.heap.size + 1) 4 (.bool false) 1 1 Tryz.underlying162 info_bool rfl (by decide) (.slice A2 (n + 4) c2) (n + 4) (bools (beforeL s l.length ++ [b, decide (1 ≤ s.turn), whoseB s, true])) rfl HA.out.own _ (some ⟨w2.heap.size, 0, none⟩) 1 1 (bools [winB s]) rfl HL.out rfl (bools_one [winB s]) (by simp only [maxLen]; omega) (by omega) HA.out.size ?_
                         intro A3 c3 w4 hown hg2 hor _ _))
                    have HQ := HA.out.push (M := [winB s]) (m := 1) (fun b hb => by subst hb; have := HQ2.out; simp; omega) rfl hg2 hown hor
                    go_ret
                    exact HQ.done HT.out
                  · exfalso; omega
                  · skip
                    have q0 : (s.fin == 0) = false := beq_eq_false_iff_ne.2 (by omega)
                    have q1 : (s.fin == 1) = true := beq_iff_eq.2 (by omega)
                    have q2 : (s.fin == 2) = false := beq_eq_false_iff_ne.2 (by omega)
                    have E1 : Hid (s.fin = 1) := Lib.hid (by omega)
                    have EE : Hid (endB s = true) := Lib.hid (by rw [endB, decide_eq_false e0, decide_eq_true e1, decide_eq_false e2]; rfl)
                    clear e0 e1 e2
                    refine wp_region_held_drew (S := fun W => W.cell? ⟨w.heap.size, 3, none⟩ = some (.int .i32 s.turn) ∧ W.cell? ⟨w.heap.size, 4, none⟩ = some (.int .i64 s.whose) ∧ W.cell? ⟨w.heap.size, 5, none⟩ = some (.int .i8 s.fin)) (by kernel_rfl) (⟨a3, a4, a5⟩) ?_
                    intro hSn
                    have HOd := Lib.hid (HO.out.calm ((Keeps.refl _ wr).drew))
                    have HSd := Lib.hid (HS.out.drew)
                    clear a3 a4 a5
                    generalize wr.drew = wd at *
                    refine wpAnyH_take (i := 0) (v := ?v23) rfl (by kernel_rfl) (by kernel_rfl) (by kernel_rfl) (fun _ _ _ h => h) (Or.inl ⟨by rfl, ?hy23⟩) (by assumption) ?rest23
                    case hy23 =>
                      intro w hSw
                      obtain ⟨s3, s4, s5⟩ := hSw
                      go_simp
                      try with_reducible rfl
                    go_simp
                    refine wpAnyH_take (i := 1) (v := ?v24) rfl (by kernel_rfl) (by kernel_rfl) (by kernel_rfl) (fun _ _ _ h => h) (Or.inl ⟨by rfl, ?hy24⟩) (by assumption) ?rest24
                    case hy24 =>
                      intro w hSw
                      obtain ⟨s3, s4, s5⟩ := hSw
                      go_simp
                      try with_reducible rfl
                    go_simp
                    refine wpAnyH_take (i := 2) (v := ?v25) rfl (by kernel_rfl) (by kernel_rfl) (by kernel_rfl) (fun _ _ _ h => h) (Or.inl ⟨by rfl, ?hy25⟩) (by assumption) ?rest25
                    case hy25 =>
                      intro w hSw
                      obtain ⟨s3, s4, s5⟩ := hSw
                      go_simp
                      try with_reducible rfl
                    go_simp
                    refine wpAnyH_take (i := 3) (v := ?v26) rfl (by kernel_rfl) (by kernel_rfl) (by kernel_rfl) (fun _ _ _ h => h) (Or.inl ⟨by rfl, ?hy26⟩) (by assumption) ?rest26
                    case hy26 =>
                      intro w hSw
                      obtain ⟨s3, s4, s5⟩ := hSw
                      go_simp
                      try with_reducible rfl
                    go_simp
                    refine wpAnyH_take (i := 4) (v := ?v27) rfl (by kernel_rfl) (by kernel_rfl) (by kernel_rfl) (fun _ _ _ h => h) (Or.inl ⟨by rfl, ?hy27⟩) (by assumption) ?rest27
                    case hy27 =>
                      intro w hSw
                      obtain ⟨s3, s4, s5⟩ := hSw
                      go_simp
                      try with_reducible rfl
                    go_simp
                    refine wpAnyH_take (i := 5) (v := ?v28) rfl (by kernel_rfl) (by kernel_rfl) (by kernel_rfl) (fun _ _ _ h => h) (Or.inl ⟨by rfl, ?hy28⟩) (by assumption) ?rest28
                    case hy28 =>
                      intro w hSw
                      obtain ⟨s3, s4, s5⟩ := hSw
                      go_simp
                      try with_reducible rfl
                    go_simp
                    refine wpAnyH_take (i := 6) (v := ?v29) rfl (by kernel_rfl) (by kernel_rfl) (by kernel_rfl) (fun _ _ _ h => h) (Or.inl ⟨by rfl, ?hy29⟩) (by assumption) ?rest29
                    case hy29 =>
                      intro w hSw
                      obtain ⟨s3, s4, s5⟩ := hSw
                      go_simp
                      try with_reducible rfl
                    go_simp
                    refine wpAnyH_take (i := 7) (v := ?v30) rfl (by kernel_rfl) (by kernel_rfl) (by kernel_rfl) (fun _ _ _ h => h) (Or.inl ⟨by rfl, ?hy30⟩) (by assumption) ?rest30
                    case hy30 =>
                      intro w hSw
                      obtain ⟨s3, s4, s5⟩ := hSw
                      go_simp
                      try with_reducible rfl
                    go_simp
                    refine wpAnyH_take (i := 8) (v := ?v31) rfl (by kernel_rfl) (by kernel_rfl) (by kernel_rfl) (fun _ _ _ h => h) (Or.inl ⟨by rfl, ?hy31⟩) (by assumption) ?rest31
                    case hy31 =>
                      intro w hSw
                      obtain ⟨s3, s4, s5⟩ := hSw
                      go_simp
                      try with_reducible rfl
                    go_simp
                    refine wpAnyH_take (i := 10) (v := ?v32) rfl (by kernel_rfl) (by kernel_rfl) (by kernel_rfl) (fun _ _ _ h => h) (Or.inl ⟨by rfl, ?hy32⟩) (by assumption) ?rest32
                    case hy32 =>
                      intro w hSw
                      obtain ⟨s3, s4, s5⟩ := hSw
                      go_simp
                      try with_reducible rfl
                    go_simp
                    refine wpAnyH_take (i := 11) (v := ?v33) rfl (by kernel_rfl) (by kernel_rfl) (by kernel_rfl) (fun _ _ _ h => h) (Or.inl ⟨by rfl, ?hy33⟩) (by assumption) ?rest33
                    case hy33 =>
                      intro w hSw
                      obtain ⟨s3, s4, s5⟩ := hSw
                      go_simp
                      try with_reducible rfl
                    go_simp
                    refine wpAnyH_take (i := 12) (v := ?v34) rfl (by kernel_rfl) (by kernel_rfl) (by kernel_rfl) (fun _ _ _ h => h) (Or.inl ⟨by rfl, ?hy34⟩) (by assumption) ?rest34
                    case hy34 =>
                      intro w hSw
                      obtain ⟨s3, s4, s5⟩ := hSw
                      go_simp
                      try with_reducible rfl
                    go_simp
                    refine wpAnyH_ready (rs := [9]) (by kernel_rfl) (by simp) ?_
                    refine AllReadyH.cons rfl (fun K hK => ?_) AllReadyH.nil
                    go_simp
                    rw [HWR.out]
                    refine (from_any s.whose 0 ((s.players.length : Int) - 1) _).mono ?_
                    rintro e w1 ⟨rfl, rfl⟩
                    rw [HFR.out]
                    refine hK.out _ _ (hSn) (fun hSn => ?_)
                    clear hK K
                    go_simp
                    refine wpAnyH_take (i := 13) (v := ?v35) rfl (by kernel_rfl) (by kernel_rfl) (by kernel_rfl) (fun _ _ _ h => h) (Or.inl ⟨by rfl, ?hy35⟩) (by assumption) ?rest35
                    case hy35 =>
                      intro w hSw
                      obtain ⟨s3, s4, s5⟩ := hSw
                      go_simp
                      try with_reducible rfl
                    go_simp
                    refine wpAnyH_take (i := 14) (v := ?v36) rfl (by kernel_rfl) (by kernel_rfl) (by kernel_rfl) (fun _ _ _ h => h) (Or.inl ⟨by rfl, ?hy36⟩) (by assumption) ?rest36
                    case hy36 =>
                      intro w hSw
                      obtain ⟨s3, s4, s5⟩ := hSw
                      go_simp
                      try with_reducible rfl
                    go_simp
                    refine wpAnyH_take (i := 15) (v := ?v37) rfl (by kernel_rfl) (by kernel_rfl) (by kernel_rfl) (fun _ _ _ h => h) (Or.inl ⟨by rfl, ?hy37⟩) (by assumption) ?rest37
                    case hy37 =>
                      intro w hSw
                      obtain ⟨s3, s4, s5⟩ := hSw
                      go_simp
                      try with_reducible rfl
                    go_simp
                    refine wpAnyH_take (i := 16) (v := ?v38) rfl (by kernel_rfl) (by kernel_rfl) (by kernel_rfl) (fun _ _ _ h => h) (Or.inl ⟨by rfl, ?hy38⟩) (by assumption) ?rest38
                    case hy38 =>
                      intro w hSw
                      obtain ⟨s3, s4, s5⟩ := hSw
                      go_simp
                      try with_reducible rfl
                    go_simp
                    refine wpAnyH_take (i := 17) (v := ?v39) rfl (by kernel_rfl) (by kernel_rfl) (by kernel_rfl) (fun _ _ _ h => h) (Or.inl ⟨by rfl, ?hy39⟩) (by assumption) ?rest39
                    case hy39 =>
                      intro w hSw
                      obtain ⟨s3, s4, s5⟩ := hSw
                      go_simp
                      try with_reducible rfl
                    go_simp
                    refine wpAnyH_take (i := 18) (v := ?v40) rfl (by kernel_rfl) (by kernel_rfl) (by kernel_rfl) (fun _ _ _ h => h) (Or.inl ⟨by rfl, ?hy40⟩) (by assumption) ?rest40
                    case hy40 =>
                      intro w hSw
                      obtain ⟨s3, s4, s5⟩ := hSw
                      go_simp
                      try with_reducible rfl
                    go_simp
                    refine wpAnyH_take (i := 19) (v := undef) rfl (by kernel_rfl) (by kernel_rfl) (by kernel_rfl) (fun _ _ _ h => h) (Or.inr ⟨by rfl, rfl⟩) (by assumption) ?rest41
                    go_simp
                    refine wpAnyH_take (i := 20) (v := undef) rfl (by kernel_rfl) (by kernel_rfl) (by kernel_rfl) (fun _ _ _ h => h) (Or.inr ⟨by rfl, rfl⟩) (by assumption) ?rest42
                    go_simp
                    refine wpAnyH_take (i := 21) (v := undef) rfl (by kernel_rfl) (by kernel_rfl) (by kernel_rfl) (fun _ _ _ h => h) (Or.inr ⟨by rfl, rfl⟩) (by assumption) ?rest43
                    go_simp
                    refine wpAnyH_take (i := 22) (v := ?v44) rfl (by kernel_rfl) (by kernel_rfl) (by kernel_rfl) (fun _ _ _ h => h) (Or.inl ⟨by rfl, ?hy44⟩) (by assumption) ?rest44
                    case hy44 =>
                      intro w hSw
                      obtain ⟨s3, s4, s5⟩ := hSw
                      go_simp
                      try with_reducible rfl
                    go_simp
                    have HA := Lib.hid (HOd.out.calm ((Keeps.refl _ w1).alloc (.cells #[.bool b, .bool (decide (1 ≤ s.turn)), .bool (whoseB s), .bool true] 4)))
                    have HL : Hid (Lies (w1.alloc (.cells #[.bool b, .bool (decide (1 ≤ s.turn)), .bool (whoseB s), .bool true] 4)) (w1.heap.size + 1) (some ⟨w1.heap.size, 0, none⟩) (bools [b, decide (1 ≤ s.turn), whoseB s, true])) := Lib.hid (Lies.row (fr := (0, 0)) (Whole.made w1 4 #[.bool b, .bool (decide (1 ≤ s.turn)), .bool (whoseB s), .bool true]) (Nat.lt_succ_self _))
                    refine wpAnyH_ready (rs := [23]) (by kernel_rfl) (by simp) ?_
                    refine AllReadyH.cons rfl (fun K hK => ?_) AllReadyH.nil
                    go_simp
                    refine hK.out _ _ (⟨(HA.out.whole.cellAt 3).trans rfl, (HA.out.whole.cellAt 4).trans rfl, (HA.out.whole.cellAt 5).trans rfl⟩) (fun hSn => ?_)
                    clear hK K
                    go_simp
                    refine wpAnyH_ready (rs := [24]) (by kernel_rfl) (by simp) ?_
                    refine AllReadyH.cons rfl (fun K hK => ?_) AllReadyH.nil
                    refine step_if (by rfl) ?_
                    refine wp_append_cells _ _ _ 162 rfl (w.heap.size + 1) 4 (.bool false) 1 1 Tryz.underlying162 info_bool rfl (by decide) (.slice A n c) n (bools (beforeL s l.length)) rfl HA.out.own _ (some ⟨w1.heap.size, 0, none⟩) 4 4 (bools [b, decide (1 ≤ s.turn), whoseB s, true]) rfl HL.out rfl (bools_one [b, decide (1 ≤ s.turn), whoseB s, true]) (by simp only [maxLen]; omega) (by omega) HA.out.size ?_
                    intro A2 c2 w2 hown hg2 hor _ _
                    have HP := Lib.hid (HA.out.push (M := [b, decide (1 ≤ s.turn), whoseB s, true]) (m := 4) (fun b hb => by subst hb; exact (HSd.out.alloc _).inside) rfl hg2 hown hor)
                    have HQ2 : Hid (q < w2.heap.size) := Lib.hid (Nat.lt_of_lt_of_le (HSd.out.alloc (.cells #[.bool b, .bool (decide (1 ≤ s.turn)), .bool (whoseB s), .bool true] 4)).inside ((Keeps.refl (fun b => (Value.slice A n c).ownBlock = some b) _).grown hg2 (fun k hk _ => hk)).size)
                    refine hK.out _ _ (⟨(HP.out.whole.cellAt 3).trans rfl, (HP.out.whole.cellAt 4).trans rfl, (HP.out.whole.cellAt 5).trans rfl⟩) (fun hSn => ?_)
                    clear hK K
                    go_simp
                    refine wpAnyH_ready (rs := [25]) (by kernel_rfl) (by simp) ?_
                    refine AllReadyH.cons rfl (fun K hK => ?_) AllReadyH.nil
                    go_simp
                    refine hK.out _ _ (hSn) (fun hSn => ?_)
                    clear hK K
                    go_simp
                    refine wpAnyH_done (by kernel_rfl) ?_ _
                    clear hSn HA HL hown hg2 hor
                    have HT : Hid (thingsB s = (beforeL s l.length ++ [b, decide (1 ≤ s.turn), whoseB s, true]) ++ [winB s]) := Lib.hid (by rw [things_full HH.out (by rw [HFL.out]; exact HG.out), ← HA0.out, EE.out, HFL.out, List.append_assoc]; rfl)
                    obtain ⟨a0, a1, a2, a3, a4, a5, a6, f0, f1, f2, f3, f4, f5, f6⟩ := seven HP.out.whole
                    have q1n : (s.fin != 1) = false := by rw [bne, q1]; rfl
                    have hfw : (decide (0 ≤ s.winner) && decide (s.winner ≤ (s.players.length : Int) - 1)) = winB s := by
                      rw [winB, if_pos E1.out]; congr 1; congr 1; exact propext ⟨fun h => by omega, fun h => by omega⟩
                    have HFW := Lib.hid hfw
                    clear hfw
                    go_wp2_with fail
                    refine (from_any s.winner 0 ((s.players.length : Int) - 1) _).mono ?_
                    rintro e w3 ⟨rfl, rfl⟩
                    rw [HFW.out]
                    cases hw : winB s
                    · rw [hw] at HT
                      clear hw HFW
                      have HA := Lib.hid (HP.out.calm ((Keeps.refl _ w3).alloc (.cells #[.bool (false)] 4)))
                      have HL : Hid (Lies (w3.alloc (.cells #[.bool (false)] 4)) (w3.heap.size + 1) (some ⟨w3.heap.size, 0, none⟩) (bools [false])) := Lib.hid (Lies.row (fr := (0, 0)) (Whole.made w3 4 #[.bool (false)]) (Nat.lt_succ_self _))
                      go_wp2_with (first
                        | (at_builtin
                           refine wpList_append_cells _ rfl _ _ 162 rfl (w.heap.size + 1) 4 (.bool false) 1 1 Tryz.underlying162 info_bool rfl (by decide) (.slice A2 (n + 4) c2) (n + 4) (bools (beforeL s l.length ++ [b, decide (1 ≤ s.turn), whoseB s, true])) rfl HA.out.own _ (some ⟨w3.heap.size, 0, none⟩) 1 1 (bools [false]) rfl HL.out rfl (bools_one [false]) (by simp only [maxLen]; omega) (by omega) HA.out.size ?_
                           intro A3 c3 w4 hown hg2 hor _ _))
                      have HQ := HA.out.push (M := [false]) (m := 1) (fun b hb => by subst hb; have := HQ2.out; simp; omega) rfl hg2 hown hor
                      go_ret
                      exact HQ.done HT.out
                    · rw [hw] at HT
                      clear hw HFW
                      have HA := Lib.hid (HP.out.calm ((Keeps.refl _ w3).alloc (.cells #[.bool (true)] 4)))
                      have HL : Hid (Lies (w3.alloc (.cells #[.bool (true)] 4)) (w3.heap.size + 1) (some ⟨w3.heap.size, 0, none⟩) (bools [true])) := Lib.hid (Lies.row (fr := (0, 0)) (Whole.made w3 4 #[.bool (true)]) (Nat.lt_succ_self _))
                      go_wp2_with (first
                        | (at_builtin
                           refine wpList_append_cells _ rfl _ _ 162 rfl (w.heap.size + 1) 4 (.bool false) 1 1 Tryz.underlying162 info_bool rfl (by decide) (.slice A2 (n + 4) c2) (n + 4) (bools (beforeL s l.length ++ [b, decide (1 ≤ s.turn), whoseB s, true])) rfl HA.out.own _ (some ⟨w3.heap.size, 0, none⟩) 1 1 (bools [true]) rfl HL.out rfl (bools_one [true]) (by simp only [maxLen]; omega) (by omega) HA.out.size ?_
                           intro A3 c3 w4 hown hg2 hor _ _))
                      have HQ := HA.out.push (M := [true]) (m := 1) (fun b hb => by subst hb; have := HQ2.out; simp; omega) rfl hg2 hown hor
                      go_ret
                      exact HQ.done HT.out
                  · skip
                    have q0 : (s.fin == 0) = false := beq_eq_false_iff_ne.2 (by omega)
                    have q1 : (s.fin == 1) = false := beq_eq_false_iff_ne.2 (by omega)
                    have q2 : (s.fin == 2) = true := beq_iff_eq.2 (by omega)
                    have E1 : Hid (¬ s.fin = 1) := Lib.hid (by omega)
                    have EE : Hid (endB s = true) := Lib.hid (by rw [endB, decide_eq_false e0, decide_eq_false e1, decide_eq_true e2]; rfl)
                    clear e0 e1 e2
                    refine wp_region_held_drew (S := fun W => W.cell? ⟨w.heap.size, 3, none⟩ = some (.int .i32 s.turn) ∧ W.cell? ⟨w.heap.size, 4, none⟩ = some (.int .i64 s.whose) ∧ W.cell? ⟨w.heap.size, 5, none⟩ = some (.int .i8 s.fin)) (by kernel_rfl) (⟨a3, a4, a5⟩) ?_
                    intro hSn
                    have HOd := Lib.hid (HO.out.calm ((Keeps.refl _ wr).drew))
                    have HSd := Lib.hid (HS.out.drew)
                    clear a3 a4 a5
                    generalize wr.drew = wd at *
                    refine wpAnyH_take (i := 0) (v := ?v45) rfl (by kernel_rfl) (by kernel_rfl) (by kernel_rfl) (fun _ _ _ h => h) (Or.inl ⟨by rfl, ?hy45⟩) (by assumption) ?rest45
                    case hy45 =>
                      intro w hSw
                      obtain ⟨s3, s4, s5⟩ := hSw
                      go_simp
                      try with_reducible rfl
                    go_simp
                    refine wpAnyH_take (i := 1) (v := ?v46) rfl (by kernel_rfl) (by kernel_rfl) (by kernel_rfl) (fun _ _ _ h => h) (Or.inl ⟨by rfl, ?hy46⟩) (by assumption) ?rest46
                    case hy46 =>
                      intro w hSw
                      obtain ⟨s3, s4, s5⟩ := hSw
                      go_simp
                      try with_reducible rfl
                    go_simp
                    refine wpAnyH_take (i := 2) (v := ?v47) rfl (by kernel_rfl) (by kernel_rfl) (by kernel_rfl) (fun _ _ _ h => h) (Or.inl ⟨by rfl, ?hy47⟩) (by assumption) ?rest47
                    case hy47 =>
                      intro w hSw
                      obtain ⟨s3, s4, s5⟩ := hSw
                      go_simp
                      try with_reducible rfl
                    go_simp
                    refine wpAnyH_take (i := 3) (v := ?v48) rfl (by kernel_rfl) (by kernel_rfl) (by kernel_rfl) (fun _ _ _ h => h) (Or.inl ⟨by rfl, ?hy48⟩) (by assumption) ?rest48
                    case hy48 =>
                      intro w hSw
                      obtain ⟨s3, s4, s5⟩ := hSw
                      go_simp
                      try with_reducible rfl
                    go_simp
                    refine wpAnyH_take (i := 4) (v := ?v49) rfl (by kernel_rfl) (by kernel_rfl) (by kernel_rfl) (fun _ _ _ h => h) (Or.inl ⟨by rfl, ?hy49⟩) (by assumption) ?rest49
                    case hy49 =>
                      intro w hSw
                      obtain ⟨s3, s4, s5⟩ := hSw
                      go_simp
                      try with_reducible rfl
                    go_simp
                    refine wpAnyH_take (i := 5) (v := ?v50) rfl (by kernel_rfl) (by kernel_rfl) (by kernel_rfl) (fun _ _ _ h => h) (Or.inl ⟨by rfl, ?hy50⟩) (by assumption) ?rest50
                    case hy50 =>
                      intro w hSw
                      obtain ⟨s3, s4, s5⟩ := hSw
                      go_simp
                      try with_reducible rfl
                    go_simp
                    refine wpAnyH_take (i := 6) (v := ?v51) rfl (by kernel_rfl) (by kernel_rfl) (by kernel_rfl) (fun _ _ _ h => h) (Or.inl ⟨by rfl, ?hy51⟩) (by assumption) ?rest51
                    case hy51 =>
                      intro w hSw
                      obtain ⟨s3, s4, s5⟩ := hSw
                      go_simp
                      try with_reducible rfl
                    go_simp
                    refine wpAnyH_take (i := 7) (v := ?v52) rfl (by kernel_rfl) (by kernel_rfl) (by kernel_rfl) (fun _ _ _ h => h) (Or.inl ⟨by rfl, ?hy52⟩) (by assumption) ?rest52
                    case hy52 =>
                      intro w hSw
                      obtain ⟨s3, s4, s5⟩ := hSw
                      go_simp
                      try with_reducible rfl
                    go_simp
                    refine wpAnyH_take (i := 8) (v := ?v53) rfl (by kernel_rfl) (by kernel_rfl) (by kernel_rfl) (fun _ _ _ h => h) (Or.inl ⟨by rfl, ?hy53⟩) (by assumption) ?rest53
                    case hy53 =>
                      intro w hSw
                      obtain ⟨s3, s4, s5⟩ := hSw
                      go_simp
                      try with_reducible rfl
                    go_simp
                    refine wpAnyH_take (i := 10) (v := ?v54) rfl (by kernel_rfl) (by kernel_rfl) (by kernel_rfl) (fun _ _ _ h => h) (Or.inl ⟨by rfl, ?hy54⟩) (by assumption) ?rest54
                    case hy54 =>
                      intro w hSw
                      obtain ⟨s3, s4, s5⟩ := hSw
                      go_simp
                      try with_reducible rfl
                    go_simp
                    refine wpAnyH_take (i := 11) (v := ?v55) rfl (by kernel_rfl) (by kernel_rfl) (by kernel_rfl) (fun _ _ _ h => h) (Or.inl ⟨by rfl, ?hy55⟩) (by assumption) ?rest55
                    case hy55 =>
                      intro w hSw
                      obtain ⟨s3, s4, s5⟩ := hSw
                      go_simp
                      try with_reducible rfl
                    go_simp
                    refine wpAnyH_take (i := 12) (v := ?v56) rfl (by kernel_rfl) (by kernel_rfl) (by kernel_rfl) (fun _ _ _ h => h) (Or.inl ⟨by rfl, ?hy56⟩) (by assumption) ?rest56
                    case hy56 =>
                      intro w hSw
                      obtain ⟨s3, s4, s5⟩ := hSw
                      go_simp
                      try with_reducible rfl
                    go_simp
                    refine wpAnyH_ready (rs := [9]) (by kernel_rfl) (by simp) ?_
                    refine AllReadyH.cons rfl (fun K hK => ?_) AllReadyH.nil
                    go_simp
                    rw [HWR.out]
                    refine (from_any s.whose 0 ((s.players.length : Int) - 1) _).mono ?_
                    rintro e w1 ⟨rfl, rfl⟩
                    rw [HFR.out]
                    refine hK.out _ _ (hSn) (fun hSn => ?_)
                    clear hK K
                    go_simp
                    refine wpAnyH_take (i := 13) (v := ?v57) rfl (by kernel_rfl) (by kernel_rfl) (by kernel_rfl) (fun _ _ _ h => h) (Or.inl ⟨by rfl, ?hy57⟩) (by assumption) ?rest57
                    case hy57 =>
                      intro w hSw
                      obtain ⟨s3, s4, s5⟩ := hSw
                      go_simp
                      try with_reducible rfl
                    go_simp
                    refine wpAnyH_take (i := 14) (v := ?v58) rfl (by kernel_rfl) (by kernel_rfl) (by kernel_rfl) (fun _ _ _ h => h) (Or.inl ⟨by rfl, ?hy58⟩) (by assumption) ?rest58
                    case hy58 =>
                      intro w hSw
                      obtain ⟨s3, s4, s5⟩ := hSw
                      go_simp
                      try with_reducible rfl
                    go_simp
                    refine wpAnyH_take (i := 15) (v := ?v59) rfl (by kernel_rfl) (by kernel_rfl) (by kernel_rfl) (fun _ _ _ h => h) (Or.inl ⟨by rfl, ?hy59⟩) (by assumption) ?rest59
                    case hy59 =>
                      intro w hSw
                      obtain ⟨s3, s4, s5⟩ := hSw
                      go_simp
                      try with_reducible rfl
                    go_simp
                    refine wpAnyH_take (i := 16) (v := ?v60) rfl (by kernel_rfl) (by kernel_rfl) (by kernel_rfl) (fun _ _ _ h => h) (Or.inl ⟨by rfl, ?hy60⟩) (by assumption) ?rest60
                    case hy60 =>
                      intro w hSw
                      obtain ⟨s3, s4, s5⟩ := hSw
                      go_simp
                      try with_reducible rfl
                    go_simp
                    refine wpAnyH_take (i := 17) (v := ?v61) rfl (by kernel_rfl) (by kernel_rfl) (by kernel_rfl) (fun _ _ _ h => h) (Or.inl ⟨by rfl, ?hy61⟩) (by assumption) ?rest61
                    case hy61 =>
                      intro w hSw
                      obtain ⟨s3, s4, s5⟩ := hSw
                      go_simp
                      try with_reducible rfl
                    go_simp
                    refine wpAnyH_take (i := 18) (v := ?v62) rfl (by kernel_rfl) (by kernel_rfl) (by kernel_rfl) (fun _ _ _ h => h) (Or.inl ⟨by rfl, ?hy62⟩) (by assumption) ?rest62
                    case hy62 =>
                      intro w hSw
                      obtain ⟨s3, s4, s5⟩ := hSw
                      go_simp
                      try with_reducible rfl
                    go_simp
                    refine wpAnyH_take (i := 19) (v := ?v63) rfl (by kernel_rfl) (by kernel_rfl) (by kernel_rfl) (fun _ _ _ h => h) (Or.inl ⟨by rfl, ?hy63⟩) (by assumption) ?rest63
                    case hy63 =>
                      intro w hSw
                      obtain ⟨s3, s4, s5⟩ := hSw
                      go_simp
                      try with_reducible rfl
                    go_simp
                    refine wpAnyH_take (i := 20) (v := ?v64) rfl (by kernel_rfl) (by kernel_rfl) (by kernel_rfl) (fun _ _ _ h => h) (Or.inl ⟨by rfl, ?hy64⟩) (by assumption) ?rest64
                    case hy64 =>
                      intro w hSw
                      obtain ⟨s3, s4, s5⟩ := hSw
                      go_simp
                      try with_reducible rfl
                    go_simp
                    refine wpAnyH_take (i := 21) (v := ?v65) rfl (by kernel_rfl) (by kernel_rfl) (by kernel_rfl) (fun _ _ _ h => h) (Or.inl ⟨by rfl, ?hy65⟩) (by assumption) ?rest65
                    case hy65 =>
                      intro w hSw
                      obtain ⟨s3, s4, s5⟩ := hSw
                      go_simp
                      try with_reducible rfl
                    go_simp
                    refine wpAnyH_take (i := 22) (v := ?v66) rfl (by kernel_rfl) (by kernel_rfl) (by kernel_rfl) (fun _ _ _ h => h) (Or.inl ⟨by rfl, ?hy66⟩) (by assumption) ?rest66
                    case hy66 =>
                      intro w hSw
                      obtain ⟨s3, s4, s5⟩ := hSw
                      go_simp
                      try with_reducible rfl
                    go_simp
                    have HA := Lib.hid (HOd.out.calm ((Keeps.refl _ w1).alloc (.cells #[.bool b, .bool (decide (1 ≤ s.turn)), .bool (whoseB s), .bool true] 4)))
                    have HL : Hid (Lies (w1.alloc (.cells #[.bool b, .bool (decide (1 ≤ s.turn)), .bool (whoseB s), .bool true] 4)) (w1.heap.size + 1) (some ⟨w1.heap.size, 0, none⟩) (bools [b, decide (1 ≤ s.turn), whoseB s, true])) := Lib.hid (Lies.row (fr := (0, 0)) (Whole.made w1 4 #[.bool b, .bool (decide (1 ≤ s.turn)), .bool (whoseB s), .bool true]) (Nat.lt_succ_self _))
                    refine wpAnyH_ready (rs := [23]) (by kernel_rfl) (by simp) ?_
                    refine AllReadyH.cons rfl (fun K hK => ?_) AllReadyH.nil
                    go_simp
                    refine hK.out _ _ (⟨(HA.out.whole.cellAt 3).trans rfl, (HA.out.whole.cellAt 4).trans rfl, (HA.out.whole.cellAt 5).trans rfl⟩) (fun hSn => ?_)
                    clear hK K
                    go_simp
                    refine wpAnyH_ready (rs := [24]) (by kernel_rfl) (by simp) ?_
                    refine AllReadyH.cons rfl (fun K hK => ?_) AllReadyH.nil
                    refine step_if (by rfl) ?_
                    refine wp_append_cells _ _ _ 162 rfl (w.heap.size + 1) 4 (.bool false) 1 1 Tryz.underlying162 info_bool rfl (by decide) (.slice A n c) n (bools (beforeL s l.length)) rfl HA.out.own _ (some ⟨w1.heap.size, 0, none⟩) 4 4 (bools [b, decide (1 ≤ s.turn), whoseB s, true]) rfl HL.out rfl (bools_one [b, decide (1 ≤ s.turn), whoseB s, true]) (by simp only [maxLen]; omega) (by omega) HA.out.size ?_
                    intro A2 c2 w2 hown hg2 hor _ _
                    have HP := Lib.hid (HA.out.push (M := [b, decide (1 ≤ s.turn), whoseB s, true]) (m := 4) (fun b hb => by subst hb; exact (HSd.out.alloc _).inside) rfl hg2 hown hor)
                    have HQ2 : Hid (q < w2.heap.size) := Lib.hid (Nat.lt_of_lt_of_le (HSd.out.alloc (.cells #[.bool b, .bool (decide (1 ≤ s.turn)), .bool (whoseB s), .bool true] 4)).inside ((Keeps.refl (fun b => (Value.slice A n c).ownBlock = some b) _).grown hg2 (fun k hk _ => hk)).size)
                    refine hK.out _ _ (⟨(HP.out.whole.cellAt 3).trans rfl, (HP.out.whole.cellAt 4).trans rfl, (HP.out.whole.cellAt 5).trans rfl⟩) (fun hSn => ?_)
                    clear hK K
                    go_simp
                    refine wpAnyH_ready (rs := [25]) (by kernel_rfl) (by simp) ?_
                    refine AllReadyH.cons rfl (fun K hK => ?_) AllReadyH.nil
                    go_simp
                    refine hK.out _ _ (hSn) (fun hSn => ?_)
                    clear hK K
                    go_simp
                    refine wpAnyH_done (by kernel_rfl) ?_ _
                    clear hSn HA HL hown hg2 hor
                    have HT : Hid (thingsB s = (beforeL s l.length ++ [b, decide (1 ≤ s.turn), whoseB s, true]) ++ [winB s]) := Lib.hid (by rw [things_full HH.out (by rw [HFL.out]; exact HG.out), ← HA0.out, EE.out, HFL.out, List.append_assoc]; rfl)
                    obtain ⟨a0, a1, a2, a3, a4, a5, a6, f0, f1, f2, f3, f4, f5, f6⟩ := seven HP.out.whole
                    have q1n : (s.fin != 1) = true := by rw [bne, q1]; rfl
                    have hz0 : (s.winner == 0) = winB s := by
                      rw [winB, if_neg E1.out]; rfl
                    have HA := Lib.hid (HP.out.calm ((Keeps.refl _ w2).alloc (.cells #[.bool (winB s)] 4)))
                    have HL : Hid (Lies (w2.alloc (.cells #[.bool (winB s)] 4)) (w2.heap.size + 1) (some ⟨w2.heap.size, 0, none⟩) (bools [winB s])) := Lib.hid (Lies.row (fr := (0, 0)) (Whole.made w2 4 #[.bool (winB s)]) (Nat.lt_succ_self _))
                    go_wp2_with (first
                      | (at_builtin
                         refine wpList_append_cells _ rfl _ _ 162 rfl (w.heap.size + 1) 4 (.bool false) 1 1 Tryz.underlying162 info_bool rfl (by decide) (.slice A2 (n + 4) c2) (n + 4) (bools (beforeL s l.length ++ [b, decide (1 ≤ s.turn), whoseB s, true])) rfl HA.out.own _ (some ⟨w2.heap.size, 0, none⟩) 1 1 (bools [winB s]) rfl HL.out rfl (bools_one [winB s]) (by simp only [maxLen]; omega) (by omega) HA.out.size ?_
                         intro A3 c3 w4 hown hg2 hor _ _))
                    have HQ := HA.out.push (M := [winB s]) (m := 1) (fun b hb => by subst hb; have := HQ2.out; simp; omega) rfl hg2 hown hor
                    go_ret
                    exact HQ.done HT.out
                  · skip
                    have q0 : (s.fin == 0) = false := beq_eq_false_iff_ne.2 (by omega)
                    have q1 : (s.fin == 1) = false := beq_eq_false_iff_ne.2 (by omega)
                    have q2 : (s.fin == 2) = false := beq_eq_false_iff_ne.2 (by omega)
                    have E1 : Hid (¬ s.fin = 1) := Lib.hid (by omega)
                    have EE : Hid (endB s = false) := Lib.hid (by rw [endB, decide_eq_false e0, decide_eq_false e1, decide_eq_false e2]; rfl)
                    clear e0 e1 e2
                    refine wp_region_held_drew (S := fun W => W.cell? ⟨w.heap.size, 3, none⟩ = some (.int .i32 s.turn) ∧ W.cell? ⟨w.heap.size, 4, none⟩ = some (.int .i64 s.whose) ∧ W.cell? ⟨w.heap.size, 5, none⟩ = some (.int .i8 s.fin)) (by kernel_rfl) (⟨a3, a4, a5⟩) ?_
                    intro hSn
                    have HOd := Lib.hid (HO.out.calm ((Keeps.refl _ wr).drew))
                    have HSd := Lib.hid (HS.out.drew)
                    clear a3 a4 a5
                    generalize wr.drew = wd at *
                    refine wpAnyH_take (i := 0) (v := ?v67) rfl (by kernel_rfl) (by kernel_rfl) (by kernel_rfl) (fun _ _ _ h => h) (Or.inl ⟨by rfl, ?hy67⟩) (by assumption) ?rest67
                    case hy67 =>
                      intro w hSw
                      obtain ⟨s3, s4, s5⟩ := hSw
                      go_simp
                      try with_reducible rfl
                    go_simp
                    refine wpAnyH_take (i := 1) (v := ?v68) rfl (by kernel_rfl) (by kernel_rfl) (by kernel_rfl) (fun _ _ _ h => h) (Or.inl ⟨by rfl, ?hy68⟩) (by assumption) ?rest68
                    case hy68 =>
                      intro w hSw
                      obtain ⟨s3, s4, s5⟩ := hSw
                      go_simp
                      try with_reducible rfl
                    go_simp
                    refine wpAnyH_take (i := 2) (v := ?v69) rfl (by kernel_rfl) (by kernel_rfl) (by kernel_rfl) (fun _ _ _ h => h) (Or.inl ⟨by rfl, ?hy69⟩) (by assumption) ?rest69
                    case hy69 =>
                      intro w hSw
                      obtain ⟨s3, s4, s5⟩ := hSw
                      go_simp
                      try with_reducible rfl
                    go_simp
                    refine wpAnyH_take (i := 3) (v := ?v70) rfl (by kernel_rfl) (by kernel_rfl) (by kernel_rfl) (fun _ _ _ h => h) (Or.inl ⟨by rfl, ?hy70⟩) (by assumption) ?rest70
                    case hy70 =>
                      intro w hSw
                      obtain ⟨s3, s4, s5⟩ := hSw
                      go_simp
                      try with_reducible rfl
                    go_simp
                    refine wpAnyH_take (i := 4) (v := ?v71) rfl (by kernel_rfl) (by kernel_rfl) (by kernel_rfl) (fun _ _ _ h => h) (Or.inl ⟨by rfl, ?hy71⟩) (by assumption) ?rest71
                    case hy71 =>
                      intro w hSw
                      obtain ⟨s3, s4, s5⟩ := hSw
                      go_simp
                      try with_reducible rfl
                    go_simp
                    refine wpAnyH_take (i := 5) (v := ?v72) rfl (by kernel_rfl) (by kernel_rfl) (by kernel_rfl) (fun _ _ _ h => h) (Or.inl ⟨by rfl, ?hy72⟩) (by assumption) ?rest72
                    case hy72 =>
                      intro w hSw
                      obtain ⟨s3, s4, s5⟩ := hSw
                      go_simp
                      try with_reducible rfl
                    go_simp
                    refine wpAnyH_take (i := 6) (v := ?v73) rfl (by kernel_rfl) (by kernel_rfl) (by kernel_rfl) (fun _ _ _ h => h) (Or.inl ⟨by rfl, ?hy73⟩) (by assumption) ?rest73
                    case hy73 =>
                      intro w hSw
                      obtain ⟨s3, s4, s5⟩ := hSw
                      go_simp
                      try with_reducible rfl
                    go_simp
                    refine wpAnyH_take (i := 7) (v := ?v74) rfl (by kernel_rfl) (by kernel_rfl) (by kernel_rfl) (fun _ _ _ h => h) (Or.inl ⟨by rfl, ?hy74⟩) (by assumption) ?rest74
                    case hy74 =>
                      intro w hSw
                      obtain ⟨s3, s4, s5⟩ := hSw
                      go_simp
                      try with_reducible rfl
                    go_simp
                    refine wpAnyH_take (i := 8) (v := ?v75) rfl (by kernel_rfl) (by kernel_rfl) (by kernel_rfl) (fun _ _ _ h => h) (Or.inl ⟨by rfl, ?hy75⟩) (by assumption) ?rest75
                    case hy75 =>
                      intro w hSw
                      obtain ⟨s3, s4, s5⟩ := hSw
                      go_simp
                      try with_reducible rfl
                    go_simp
                    refine wpAnyH_take (i := 10) (v := ?v76) rfl (by kernel_rfl) (by kernel_rfl) (by kernel_rfl) (fun _ _ _ h => h) (Or.inl ⟨by rfl, ?hy76⟩) (by assumption) ?rest76
                    case hy76 =>
                      intro w hSw
                      obtain ⟨s3, s4, s5⟩ := hSw
                      go_simp
                      try with_reducible rfl
                    go_simp
                    refine wpAnyH_take (i := 11) (v := ?v77) rfl (by kernel_rfl) (by kernel_rfl) (by kernel_rfl) (fun _ _ _ h => h) (Or.inl ⟨by rfl, ?hy77⟩) (by assumption) ?rest77
                    case hy77 =>
                      intro w hSw
                      obtain ⟨s3, s4, s5⟩ := hSw
                      go_simp
                      try with_reducible rfl
                    go_simp
                    refine wpAnyH_take (i := 12) (v := ?v78) rfl (by kernel_rfl) (by kernel_rfl) (by kernel_rfl) (fun _ _ _ h => h) (Or.inl ⟨by rfl, ?hy78⟩) (by assumption) ?rest78
                    case hy78 =>
                      intro w hSw
                      obtain ⟨s3, s4, s5⟩ := hSw
                      go_simp
                      try with_reducible rfl
                    go_simp
                    refine wpAnyH_ready (rs := [9]) (by kernel_rfl) (by simp) ?_
                    refine AllReadyH.cons rfl (fun K hK => ?_) AllReadyH.nil
                    go_simp
                    rw [HWR.out]
                    refine (from_any s.whose 0 ((s.players.length : Int) - 1) _).mono ?_
                    rintro e w1 ⟨rfl, rfl⟩
                    rw [HFR.out]
                    refine hK.out _ _ (hSn) (fun hSn => ?_)
                    clear hK K
                    go_simp
                    refine wpAnyH_take (i := 13) (v := ?v79) rfl (by kernel_rfl) (by kernel_rfl) (by kernel_rfl) (fun _ _ _ h => h) (Or.inl ⟨by rfl, ?hy79⟩) (by assumption) ?rest79
                    case hy79 =>
                      intro w hSw
                      obtain ⟨s3, s4, s5⟩ := hSw
                      go_simp
                      try with_reducible rfl
                    go_simp
                    refine wpAnyH_take (i := 14) (v := ?v80) rfl (by kernel_rfl) (by kernel_rfl) (by kernel_rfl) (fun _ _ _ h => h) (Or.inl ⟨by rfl, ?hy80⟩) (by assumption) ?rest80
                    case hy80 =>
                      intro w hSw
                      obtain ⟨s3, s4, s5⟩ := hSw
                      go_simp
                      try with_reducible rfl
                    go_simp
                    refine wpAnyH_take (i := 15) (v := ?v81) rfl (by kernel_rfl) (by kernel_rfl) (by kernel_rfl) (fun _ _ _ h => h) (Or.inl ⟨by rfl, ?hy81⟩) (by assumption) ?rest81
                    case hy81 =>
                      intro w hSw
                      obtain ⟨s3, s4, s5⟩ := hSw
                      go_simp
                      try with_reducible rfl
                    go_simp
                    refine wpAnyH_take (i := 16) (v := ?v82) rfl (by kernel_rfl) (by kernel_rfl) (by kernel_rfl) (fun _ _ _ h => h) (Or.inl ⟨by rfl, ?hy82⟩) (by assumption) ?rest82
                    case hy82 =>
                      intro w hSw
                      obtain ⟨s3, s4, s5⟩ := hSw
                      go_simp
                      try with_reducible rfl
                    go_simp
                    refine wpAnyH_take (i := 17) (v := ?v83) rfl (by kernel_rfl) (by kernel_rfl) (by kernel_rfl) (fun _ _ _ h => h) (Or.inl ⟨by rfl, ?hy83⟩) (by assumption) ?rest83
                    case hy83 =>
                      intro w hSw
                      obtain ⟨s3, s4, s5⟩ := hSw
                      go_simp
                      try with_reducible rfl
                    go_simp
                    refine wpAnyH_take (i := 18) (v := ?v84) rfl (by kernel_rfl) (by kernel_rfl) (by kernel_rfl) (fun _ _ _ h => h) (Or.inl ⟨by rfl, ?hy84⟩) (by assumption) ?rest84
                    case hy84 =>
                      intro w hSw
                      obtain ⟨s3, s4, s5⟩ := hSw
                      go_simp
                      try with_reducible rfl
                    go_simp
                    refine wpAnyH_take (i := 19) (v := ?v85) rfl (by kernel_rfl) (by kernel_rfl) (by kernel_rfl) (fun _ _ _ h => h) (Or.inl ⟨by rfl, ?hy85⟩) (by assumption) ?rest85
                    case hy85 =>
                      intro w hSw
                      obtain ⟨s3, s4, s5⟩ := hSw
                      go_simp
                      try with_reducible rfl
                    go_simp
                    refine wpAnyH_take (i := 20) (v := ?v86) rfl (by kernel_rfl) (by kernel_rfl) (by kernel_rfl) (fun _ _ _ h => h) (Or.inl ⟨by rfl, ?hy86⟩) (by assumption) ?rest86
                    case hy86 =>
                      intro w hSw
                      obtain ⟨s3, s4, s5⟩ := hSw
                      go_simp
                      try with_reducible rfl
                    go_simp
                    refine wpAnyH_take (i := 21) (v := ?v87) rfl (by kernel_rfl) (by kernel_rfl) (by kernel_rfl) (fun _ _ _ h => h) (Or.inl ⟨by rfl, ?hy87⟩) (by assumption) ?rest87
                    case hy87 =>
                      intro w hSw
                      obtain ⟨s3, s4, s5⟩ := hSw
                      go_simp
                      try with_reducible rfl
                    go_simp
                    refine wpAnyH_take (i := 22) (v := ?v88) rfl (by kernel_rfl) (by kernel_rfl) (by kernel_rfl) (fun _ _ _ h => h) (Or.inl ⟨by rfl, ?hy88⟩) (by assumption) ?rest88
                    case hy88 =>
                      intro w hSw
                      obtain ⟨s3, s4, s5⟩ := hSw
                      go_simp
                      try with_reducible rfl
                    go_simp
                    have HA := Lib.hid (HOd.out.calm ((Keeps.refl _ w1).alloc (.cells #[.bool b, .bool (decide (1 ≤ s.turn)), .bool (whoseB s), .bool false] 4)))
                    have HL : Hid (Lies (w1.alloc (.cells #[.bool b, .bool (decide (1 ≤ s.turn)), .bool (whoseB s), .bool false] 4)) (w1.heap.size + 1) (some ⟨w1.heap.size, 0, none⟩) (bools [b, decide (1 ≤ s.turn), whoseB s, false])) := Lib.hid (Lies.row (fr := (0, 0)) (Whole.made w1 4 #[.bool b, .bool (decide (1 ≤ s.turn)), .bool (whoseB s), .bool false]) (Nat.lt_succ_self _))
                    refine wpAnyH_ready (rs := [23]) (by kernel_rfl) (by simp) ?_
                    refine AllReadyH.cons rfl (fun K hK => ?_) AllReadyH.nil
                    go_simp
                    refine hK.out _ _ (⟨(HA.out.whole.cellAt 3).trans rfl, (HA.out.whole.cellAt 4).trans rfl, (HA.out.whole.cellAt 5).trans rfl⟩) (fun hSn => ?_)
                    clear hK K
                    go_simp
                    refine wpAnyH_ready (rs := [24]) (by kernel_rfl) (by simp) ?_
                    refine AllReadyH.cons rfl (fun K hK => ?_) AllReadyH.nil
                    refine step_if (by rfl) ?_
                    refine wp_append_cells _ _ _ 162 rfl (w.heap.size + 1) 4 (.bool false) 1 1 Tryz.underlying162 info_bool rfl (by decide) (.slice A n c) n (bools (beforeL s l.length)) rfl HA.out.own _ (some ⟨w1.heap.size, 0, none⟩) 4 4 (bools [b, decide (1 ≤ s.turn), whoseB s, false]) rfl HL.out rfl (bools_one [b, decide (1 ≤ s.turn), whoseB s, false]) (by simp only [maxLen]; omega) (by omega) HA.out.size ?_
                    intro A2 c2 w2 hown hg2 hor _ _
                    have HP := Lib.hid (HA.out.push (M := [b, decide (1 ≤ s.turn), whoseB s, false]) (m := 4) (fun b hb => by subst hb; exact (HSd.out.alloc _).inside) rfl hg2 hown hor)
                    have HQ2 : Hid (q < w2.heap.size) := Lib.hid (Nat.lt_of_lt_of_le (HSd.out.alloc (.cells #[.bool b, .bool (decide (1 ≤ s.turn)), .bool (whoseB s), .bool false] 4)).inside ((Keeps.refl (fun b => (Value.slice A n c).ownBlock = some b) _).grown hg2 (fun k hk _ => hk)).size)
                    refine hK.out _ _ (⟨(HP.out.whole.cellAt 3).trans rfl, (HP.out.whole.cellAt 4).trans rfl, (HP.out.whole.cellAt 5).trans rfl⟩) (fun hSn => ?_)
                    clear hK K
                    go_simp
                    refine wpAnyH_ready (rs := [25]) (by kernel_rfl) (by simp) ?_
                    refine AllReadyH.cons rfl (fun K hK => ?_) AllReadyH.nil
                    go_simp
                    refine hK.out _ _ (hSn) (fun hSn => ?_)
                    clear hK K
                    go_simp
                    refine wpAnyH_done (by kernel_rfl) ?_ _
                    clear hSn HA HL hown hg2 hor
                    have HT : Hid (thingsB s = (beforeL s l.length ++ [b, decide (1 ≤ s.turn), whoseB s, false]) ++ [winB s]) := Lib.hid (by rw [things_full HH.out (by rw [HFL.out]; exact HG.out), ← HA0.out, EE.out, HFL.out, List.append_assoc]; rfl)
                    obtain ⟨a0, a1, a2, a3, a4, a5, a6, f0, f1, f2, f3, f4, f5, f6⟩ := seven HP.out.whole
                    have q1n : (s.fin != 1) = true := by rw [bne, q1]; rfl
                    have hz0 : (s.winner == 0) = winB s := by
                      rw [winB, if_neg E1.out]; rfl
                    have HA := Lib.hid (HP.out.calm ((Keeps.refl _ w2).alloc (.cells #[.bool (winB s)] 4)))
                    have HL : Hid (Lies (w2.alloc (.cells #[.bool (winB s)] 4)) (w2.heap.size + 1) (some ⟨w2.heap.size, 0, none⟩) (bools [winB s])) := Lib.hid (Lies.row (fr := (0, 0)) (Whole.made w2 4 #[.bool (winB s)]) (Nat.lt_succ_self _))
                    go_wp2_with (first
                      | (at_builtin
                         refine wpList_append_cells _ rfl _ _ 162 rfl (w.heap.size + 1) 4 (.bool false) 1 1 Tryz.underlying162 info_bool rfl (by decide) (.slice A2 (n + 4) c2) (n + 4) (bools (beforeL s l.length ++ [b, decide (1 ≤ s.turn), whoseB s, false])) rfl HA.out.own _ (some ⟨w2.heap.size, 0, none⟩) 1 1 (bools [winB s]) rfl HL.out rfl (bools_one [winB s]) (by simp only [maxLen]; omega) (by omega) HA.out.size ?_
                         intro A3 c3 w4 hown hg2 hor _ _))
                    have HQ := HA.out.push (M := [winB s]) (m := 1) (fun b hb => by subst hb; have := HQ2.out; simp; omega) rfl hg2 hown hor
                    go_ret
                    exact HQ.done HT.out
end Go.Proofs.YthmfbcfbcookiaaGreatDoor
/-
  The document's Check, May, Where and the program's Where: the walks. Conditions: lengths within 10 ^ 9.
-/
namespace Go.Proofs.YthmfbcfbcookiaaGreatDoor
open Go.RowKit
theorem bools_get (l : List Bool) (i : Nat) (h : i < l.length) : (bools l)[i]? = some (.bool l[i]) := by simp [bools, h]
set_option maxHeartbeats 1000000 in
theorem refCheck_any (s : St) (Ap Ac Az : Option Addr) (B cp cc cz : Nat) (w : World) (hx : StIn w B s Ap Ac Az) (hB : B ≤ w.heap.size) (hs : StSmall s) (hf : s.zones.flatten.length ≤ 1000000000) :
    Calls Tryz.prog 72 #[stV s Ap Ac Az cp cc cz] w fun e w' => e = .returned (.tuple #[.int .i64 (checkP s).1, .int .i64 (checkP s).2]) ∧ Keeps (fun _ => False) w w' := by
  have HC := fun w (hx : StIn w B s Ap Ac Az) (hB : B ≤ w.heap.size) => things_any s Ap Ac Az B cp cc cz w hx hB hs hf
  unfold stV at *
  have hx1 := hx.keeps ((Keeps.refl (fun _ => False) w).alloc (.cells #[.slice Ap s.players.length cp, .slice Ac s.cards.length cc, .slice Az s.zones.length cz, .int .i32 s.turn, .int .i64 s.whose, .int .i8 s.fin, .int .i64 s.winner] 27)) (fun _ _ => id) hB
  have HC1 := HC _ hx1 (Nat.le_trans hB (by simp))
  have K0 := Lib.hid ((Keeps.refl (fun _ => False) w).alloc (.cells #[.slice Ap s.players.length cp, .slice Ac s.cards.length cc, .slice Az s.zones.length cz, .int .i32 s.turn, .int .i64 s.whose, .int .i8 s.fin, .int .i64 s.winner] 27))
  have HD : Hid (checkP s = answer (firstF (thingsB s))) := Lib.hid rfl
  generalize thingsB s = l at *
  clear HC hx1 hx
  go_enter Tryz.func72, Tryz.ntmps72
  go_wp2_with fail
  refine HC1.mono ?_
  rintro e w1 ⟨A, cap, rfl, hown, hk⟩
  clear HC1
  have HO := Lib.hid hown
  have HK := Lib.hid (K0.out.trans hk)
  clear hown hk K0
  have hll : l.length ≤ 9223372036854775807 := by
    rcases HO.out.2 with ⟨_, h⟩ | ⟨_, _, _, _, _, _, h1, h2, _⟩
    · omega
    · unfold maxLen at h2; omega
  go_wp2_with fail
  go_loopw [5] (fun vi wr => ∃ (i : Nat), i ≤ l.length ∧ vi = .int .i64 i ∧ Hid (∀ b ∈ l.take i, b = true) ∧ wr = w1) (fun vi _ => l.length - (intOf vi).toNat)
  case atStart => exact ⟨0, by omega, rfl, Lib.hid (by simp), rfl⟩
  case round =>
    obtain ⟨i, hi, rfl, HA, rfl⟩ := hrel
    by_cases hlt : i < l.length
    · obtain ⟨g, off, rfl, hg, hc⟩ := own_lies_n HO.out i _ (bools_get l i hlt)
      have HN : Hid (l[i] = true → ∀ b ∈ l.take (i + 1), b = true) := Lib.hid (fun h b hb => by
        rw [List.take_succ_eq_append_getElem hlt] at hb
        rcases List.mem_append.1 hb with h1 | h1
        · exact HA.out b h1
        · rw [List.mem_singleton.1 h1]; exact h)
      have HB : Hid (l[i] = false → checkP s = (10, (i : Int))) := Lib.hid (fun h => by
        rw [HD.out]
        conv => lhs; rw [take_split hlt, h]
        rw [firstF_bad _ _ HA.out, List.length_take, Nat.min_eq_left hi]; rfl)
      generalize l[i] = b at *
      cases b
      · have HB' := Lib.hid (HB.out rfl)
        clear HB HN
        go_wp2_with fail
        go_ret2
        exact ⟨by rw [HB'.out]; rfl, HK.out⟩
      · have HN' := Lib.hid (HN.out rfl)
        clear HB HN
        go_wp2_with fail
        go_roundw
        case rel => exact ⟨i + 1, by omega, by go_num, HN', trivial⟩
        case measure => simp [intOf]; omega
    · obtain rfl : i = l.length := by omega
      have HE : Hid (checkP s = (0, 0)) := Lib.hid (by
        have h := HA.out
        rw [List.take_length] at h
        have := firstF_true l [] h
        rw [HD.out]
        rw [List.append_nil] at this
        rw [this]; rfl)
      clear HA
      go_wp2_with fail
      go_ret2
      exact ⟨by rw [HE.out]; rfl, HK.out⟩
theorem may_any (s : St) (Ap Ac Az : Option Addr) (B cp cc cz : Nat) (w : World) (hx : StIn w B s Ap Ac Az) (hB : B ≤ w.heap.size) (hs : StSmall s) (hf : s.zones.flatten.length ≤ 1000000000) :
    Calls Tryz.prog 31 #[stV s Ap Ac Az cp cc cz] w fun e w' => e = .returned (.bool (decide ((checkP s).1 = 0))) ∧ Keeps (fun _ => False) w w' := by
  have HC := fun w (hx : StIn w B s Ap Ac Az) (hB : B ≤ w.heap.size) => refCheck_any s Ap Ac Az B cp cc cz w hx hB hs hf
  unfold stV at *
  have hx1 := hx.keeps ((Keeps.refl (fun _ => False) w).alloc (.cells #[.slice Ap s.players.length cp, .slice Ac s.cards.length cc, .slice Az s.zones.length cz, .int .i32 s.turn, .int .i64 s.whose, .int .i8 s.fin, .int .i64 s.winner] 27)) (fun _ _ => id) hB
  have HC1 := HC _ hx1 (Nat.le_trans hB (by simp))
  have K0 := Lib.hid ((Keeps.refl (fun _ => False) w).alloc (.cells #[.slice Ap s.players.length cp, .slice Ac s.cards.length cc, .slice Az s.zones.length cz, .int .i32 s.turn, .int .i64 s.whose, .int .i8 s.fin, .int .i64 s.winner] 27))
  clear HC hx1 hx
  generalize checkP s = c at *
  obtain ⟨c1, c2⟩ := c
  go_enter Tryz.func31, Tryz.ntmps31
  go_wp2_with fail
  refine HC1.mono ?_
  rintro e w1 ⟨rfl, hk⟩
  clear HC1
  go_wp2_with fail
  go_ret
  exact ⟨rfl, K0.out.trans hk⟩
end Go.Proofs.YthmfbcfbcookiaaGreatDoor
