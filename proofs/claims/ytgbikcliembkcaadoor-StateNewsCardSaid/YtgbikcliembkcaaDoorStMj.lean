/-
  Decks with marks behind them in a row of their own; what both New answer; a bag for two states and decks: plain laws. Conditions: none.
-/
import Derived.Test.YtgbikcliembkcaaDoorStMi
import Derived.Test.YtgbikcliembkcaaDoorStMd
import Derived.Test.YtgbikcliembkcaaDoorSb
import Derived.Test.YtgbikcliembkcaaDoorWk
namespace Go.Proofs.YtgbikcliembkcaaDoor
open Go.RowKit
def deckSl (b : Nat) (d : List Cd) : Sl := ⟨some ⟨b, 0, none⟩, d.length, d.length + 64⟩
/-- Decks, each in a block of its own with marks behind it; their slices in a row of its own. -/
structure WDecks (w : World) (lo : Nat) (v : Value) (decks : List (List Cd)) (ins : List Sl) : Prop where
  own : w.ownsRow lo 26 1 v decks.length (vals ins)
  len : ins.length = decks.length
  row : ∀ (i : Nat) (d : List Cd), decks[i]? = some d → ∃ b, ins[i]? = some (deckSl b d) ∧ lo ≤ b ∧ Whole w b 68 (flat Cd.cells (wideCd d)).toArray
  ap : ∀ (i j : Nat) (q r : Sl) (b : Nat), ins[i]? = some q → ins[j]? = some r → q.blk = some b → r.blk = some b → i = j
section
variable {w w' : World} {lo : Nat} {v : Value} {decks : List (List Cd)} {ins : List Sl}
theorem WDecks.nil (w : World) (lo : Nat) : WDecks w lo (.slice none 0 0) [] [] := ⟨World.ownsRow_nil _ _ _ _, rfl, fun i d h => by simp at h, fun i j q r b h => by simp at h⟩
theorem WDecks.calm (h : WDecks w lo v decks ins) (hk : Keeps (fun _ => False) w w') : WDecks w' lo v decks ins :=
  ⟨own_keepsS h.own hk fun _ _ => id, h.len, fun i d hd => by obtain ⟨b, h1, h2, h3⟩ := h.row i d hd; exact ⟨b, h1, h2, h3.keeps hk id⟩, h.ap⟩
theorem WDecks.lie {A : Option Addr} {cap : Nat} (h : WDecks w lo (.slice A decks.length cap) decks ins) : DecksLie w w.heap.size A decks := fun i d hi => by
  obtain ⟨b, h1, _, h3⟩ := h.row i d hi
  obtain ⟨g, off, e, hg, h4⟩ := own_lies_n h.own i _ (vals_get h1)
  exact ⟨g, off, some ⟨b, 0, none⟩, d.length + 64, e, hg, h4, FLies.whole (f := Cd.cells) (k := 6) (fun _ => rfl) h3 (wideCd_head _) h3.inside⟩
theorem WDecks.of_sl (h : WDecks w lo v decks ins) {i : Nat} {q : Sl} (hq : ins[i]? = some q) : ∃ d b, decks[i]? = some d ∧ q = deckSl b d ∧ lo ≤ b ∧ Whole w b 68 (flat Cd.cells (wideCd d)).toArray := by
  have hi := (List.getElem?_eq_some_iff.1 hq).1
  rw [h.len] at hi
  obtain ⟨b, h1, h2, h3⟩ := h.row i _ (List.getElem?_eq_getElem hi)
  rw [hq] at h1
  injection h1 with h1
  exact ⟨_, b, List.getElem?_eq_getElem hi, h1, h2, h3⟩
theorem WDecks.lt (h : WDecks w lo v decks ins) {b : Nat} (hb : blks ins b) : lo ≤ b ∧ b < w.heap.size := by
  obtain ⟨k, r, hr, hb⟩ := hb
  obtain ⟨d, b', _, rfl, h2, h3⟩ := h.of_sl hr
  have hb : b' = b := by injection hb
  subst hb
  exact ⟨h2, h3.inside⟩
theorem WDecks.sl (h : WDecks w lo v decks ins) (hl : ∀ d ∈ decks, d.length ≤ 1000000000) : SlRows 68 6 ins w :=
  ⟨fun k r hr => by
    obtain ⟨d, b, hd, rfl, h2, h3⟩ := h.of_sl hr
    have := hl d (List.mem_of_getElem? hd)
    exact own_whole_ex h3 (by rw [List.size_toArray, flat_length (k := 6) (fun _ => rfl), wideCd_length]; rfl) (Nat.le_add_right _ _) (by show d.length + 64 ≤ maxLen; simp only [maxLen]; omega), fun j k q r b hq hr hb hb' => h.ap j k q r b hq hr hb hb'⟩
theorem WDecks.lens (h : WDecks w lo v decks ins) (hl : ∀ d ∈ decks, d.length ≤ 1000000000) (k : Nat) (r : Sl) (hr : ins[k]? = some r) : r.len ≤ 1000000000 := by
  obtain ⟨d, b, hd, rfl, _, _⟩ := h.of_sl hr
  exact hl d (List.mem_of_getElem? hd)
/-- One more. -/
theorem WDecks.push {A2 : Option Addr} {c2 b : Nat} {x : List Cd} (h : WDecks w lo v decks ins) (hb : Whole w b 68 (flat Cd.cells (wideCd x)).toArray) (hlo : lo ≤ b) (hnew : ∀ k, blks ins k → k ≠ b)
    (hg : w.grownBy w' v.ownBlock) (hown : w'.ownsRow lo 26 1 (.slice A2 (decks.length + 1) c2) (decks.length + 1) (vals ins ++ [(deckSl b x).val])) : WDecks w' lo (.slice A2 (decks ++ [x]).length c2) (decks ++ [x]) (ins ++ [deckSl b x]) := by
  have hK : Keeps (fun b => v.ownBlock = some b) w w' := (Keeps.refl _ w).grown hg (fun k hk _ => hk)
  have hkept : ∀ {g : Nat} {c : Array Value}, Whole w g 68 c → Whole w' g 68 c := fun hw => hw.keeps hK (fun e => whole_kind_own h.own hw (by decide) e)
  have hl := h.len
  refine ⟨by rw [List.length_append]; simpa [vals] using hown, by simp [hl], fun i d hi => ?_, fun i j q r k hq hr hk hk' => ?_⟩
  · rw [List.getElem?_append] at hi
    split at hi
    · rename_i hlt
      obtain ⟨b', h1, h2, h3⟩ := h.row i d hi
      exact ⟨b', by rw [List.getElem?_append_left (by omega)]; exact h1, h2, hkept h3⟩
    · rename_i hge
      have h0 : i - decks.length = 0 := by
        rcases Nat.eq_zero_or_pos (i - decks.length) with h | h
        · exact h
        · rw [List.getElem?_eq_none (by simp; omega)] at hi; cases hi
      rw [h0] at hi
      obtain rfl : x = d := by simpa using hi
      exact ⟨b, by rw [List.getElem?_append_right (by omega), hl, h0]; rfl, hlo, hkept hb⟩
  · have hc : ∀ {i : Nat} {q : Sl}, (ins ++ [deckSl b x])[i]? = some q → (ins[i]? = some q) ∨ (i = ins.length ∧ q = deckSl b x) := fun {i} {q} hq => by
      rcases Nat.lt_or_ge i ins.length with h | h
      · rw [List.getElem?_append_left h] at hq; exact .inl hq
      · rw [List.getElem?_append_right h] at hq
        rcases Nat.eq_zero_or_pos (i - ins.length) with h0 | h0
        · rw [h0] at hq
          refine .inr ⟨by omega, by simpa using hq.symm⟩
        · rw [List.getElem?_eq_none (by simp; omega)] at hq; cases hq
    have hbb : ∀ {k : Nat}, (deckSl b x).blk = some k → b = k := fun h => by injection h
    rcases hc hq with h1 | ⟨h1, h2⟩ <;> rcases hc hr with h3 | ⟨h3, h4⟩
    · exact h.ap i j q r k h1 h3 hk hk'
    · subst h4; exact absurd (hbb hk').symm (hnew k ⟨i, q, h1, hk⟩)
    · subst h2; exact absurd (hbb hk).symm (hnew k ⟨j, r, h3, hk'⟩)
    · omega
end
/-- What both New answer. -/
def nS (decks : List (List Cd)) (life energy : Int) : St := if newOk decks life energy = true then newS decks life energy else stZero
def nE (decks : List (List Cd)) (life energy : Int) : Int := if newOk decks life energy = true then 0 else 1
theorem nS_small (decks : List (List Cd)) (life energy : Int) : StSmall (nS decks life energy) := by
  unfold nS
  split
  · rename_i h; exact new_small0 h
  · exact ⟨by decide, by decide, by decide, fun r hr => by cases hr⟩
theorem copyIn_zero (w : World) (lo : Nat) : CopyIn w lo stZero none none none 0 0 0 [] := ⟨World.ownsRow_nil _ _ _ _, World.ownsRow_nil _ _ _ _, ⟨World.ownsRow_nil _ _ _ _, fun i r h => by simp [stZero] at h⟩⟩
theorem apt_of {cells : List Value} (h : CellsApart cells) : Apt cells := fun i j u v b hu hv hb hb' => by
  rcases Nat.lt_trichotomy i j with h1 | h1 | h1
  · exact absurd hb' (h i j u v (by omega) hu hv b hb)
  · exact h1
  · exact absurd hb (h j i v u (by omega) hv hu b hb')
theorem newAll_any (decks : List (List Cd)) (life energy : Int) (A : Option Addr) (B cap : Nat) (w : World) (hx : DecksLie w B A decks) (hB : B ≤ w.heap.size) (hl : decks.length ≤ 1000000000) (hr : ∀ d ∈ decks, d.length ≤ 1000000000) :
    Calls Tryd.prog 7 #[.slice A decks.length cap, .int .i32 life, .int .i32 energy] w fun e w' => ∃ Ap Ac Az cp cc cz cells, e = .returned (.tuple #[stV (nS decks life energy) Ap Ac Az cp cc cz, .int .i64 (nE decks life energy)]) ∧ CopyIn w' w.heap.size (nS decks life energy) Ap Ac Az cp cc cz cells ∧ Apt cells ∧ Keeps (fun _ => False) w w' := by
  refine (new_any decks life energy A B cap w hx hB hl hr).mono ?_
  rintro e w1 ⟨h1, h2, hk⟩
  cases hok : newOk decks life energy
  · exact ⟨none, none, none, 0, 0, 0, [], by rw [h1 hok]; simp [nS, nE, hok], by simpa [nS, hok] using copyIn_zero _ _, fun i j u v b hu => by simp at hu, hk⟩
  · obtain ⟨Ap, Ac, Az, cp, cc, cz, cells, he, hc, ha⟩ := h2 hok
    exact ⟨Ap, Ac, Az, cp, cc, cz, cells, by rw [he]; simp [nS, nE, hok], by simpa [nS, hok] using hc, apt_of ha, hk⟩
theorem refNewAll_any (decks : List (List Cd)) (life energy : Int) (A : Option Addr) (B cap : Nat) (w : World) (hx : DecksLie w B A decks) (hB : B ≤ w.heap.size) (hr : ∀ d ∈ decks, d.length ≤ 1000000000) (hl : decks.length ≤ 1000000000) :
    Calls Tryd.prog 8 #[.slice A decks.length cap, .int .i32 life, .int .i32 energy] w fun e w' => ∃ Ap Ac Az cp cc cz, e = .returned (.tuple #[stV (nS decks life energy) Ap Ac Az cp cc cz, .int .i64 (nE decks life energy)]) ∧ StIn w' w'.heap.size (nS decks life energy) Ap Ac Az ∧ Keeps (fun _ => False) w w' := by
  refine (refNew_any decks life energy A B cap w hx hB hr hl).mono ?_
  rintro e w1 ⟨h1, h2, hk⟩
  cases hok : newOk decks life energy
  · exact ⟨none, none, none, 0, 0, 0, by rw [h1 hok]; simp [nS, nE, hok], by simpa [nS, hok] using (copyIn_zero w1 0).lies, hk⟩
  · obtain ⟨Ap, Ac, Az, cp, cc, cz, he, hc⟩ := h2 hok
    exact ⟨Ap, Ac, Az, cp, cc, cz, by rw [he]; simp [nS, nE, hok], by simpa [nS, hok] using hc, hk⟩
/-- A new bag, two states and decks. -/
theorem SlRows.none (t : TypeId) (s : Nat) (w : World) : SlRows t s [] w := ⟨fun k r h => by simp at h, fun j k r q b h => by simp at h⟩
theorem blks_none {P : Nat → Prop} : ∀ b, blks [] b → P b := fun b h => by obtain ⟨k, r, h, _⟩ := h; simp at h
theorem Bag4.start2 {w : World} {la ha lb hb lc hc : Nat} {a b : Lists} {ins : List Sl} (A : ListsAt w la ha a) (B : ListsAt w lb hb b) (C : SlRows 68 6 ins w) (iC : ∀ b, blks ins b → lc ≤ b ∧ b < hc) (nC : ∀ (k : Nat) (r : Sl), ins[k]? = some r → r.len ≤ 1000000000) (h1 : hc ≤ la) (h2 : ha ≤ lb) (h0 : hc ≤ lb) (h3 : hb ≤ w.heap.size) (h4 : ha ≤ w.heap.size) (h5 : hc ≤ w.heap.size) :
    Bag4 (w.alloc (.cells (bag4 (.slice none 0 0) (.slice none 0 0) (.slice none 0 0) (.slice none 0 0)) 60)) w.heap.size (a.rows ++ (b.rows ++ [])) ([a.ps] ++ ([b.ps] ++ [])) ([a.cs] ++ ([b.cs] ++ ins)) ([a.zs] ++ ([b.zs] ++ [])) [] [] [] [] none none none none 0 0 0 0 := by
  have hk : Keeps (fun _ => False) w (w.alloc (.cells (bag4 (.slice none 0 0) (.slice none 0 0) (.slice none 0 0) (.slice none 0 0)) 60)) := (Keeps.refl _ _).alloc _
  have A' := A.calm hk h4
  have B' := B.calm hk h3
  have C' := C.keeps hk (fun _ _ _ _ _ h => h)
  have o : ∀ {lo hi : Nat} {r : Sl}, (∀ b, r.blk = some b → lo ≤ b ∧ b < hi) → ∀ b, blks [r] b → lo ≤ b ∧ b < hi := fun h b hb => h b (blks_one hb)
  have nn : ∀ b, blks [] b → lc ≤ b ∧ b < hc := blks_none
  have ln : ∀ (k : Nat) (r : Sl), ([] : List Sl)[k]? = some r → r.len ≤ 1000000000 := fun k r h => by simp at h
  exact ⟨Whole.made _ _ _,
    BagK1.nil _ _ _ _ _ _ (rows3 A'.sRows B'.sRows (SlRows.none _ _ _) A.iRows B.iRows nn h1 h2 h0) (low3 A.iRows B.iRows nn h4 h3 h5) (len3 (P := fun r => r.len ≤ 1000000000) (fun k r hr => (A.rows k r hr).2.2) (fun k r hr => (B.rows k r hr).2.2) ln),
    BagK1.nil _ _ _ _ _ _ (rows3 (SlRows.one A'.ps) (SlRows.one B'.ps) (SlRows.none _ _ _) (o A.bps) (o B.bps) nn h1 h2 h0) (low3 (o A.bps) (o B.bps) nn h4 h3 h5) (len3 (P := fun r => r.len ≤ 1000000000) (one_all A.lps) (one_all B.lps) ln),
    BagK1.nil _ _ _ _ _ _ (rows3 (SlRows.one A'.cs) (SlRows.one B'.cs) C' (o A.bcs) (o B.bcs) iC h1 h2 h0) (low3 (o A.bcs) (o B.bcs) iC h4 h3 h5) (len3 (P := fun r => r.len ≤ 1000000000) (one_all A.lcs) (one_all B.lcs) nC),
    BagK1.nil _ _ _ _ _ _ (rows3 (SlRows.one A'.zs) (SlRows.one B'.zs) (SlRows.none _ _ _) (o A.bzs) (o B.bzs) nn h1 h2 h0) (low3 (o A.bzs) (o B.bzs) nn h4 h3 h5) (len3 (P := fun r => r.len ≤ 1000000000) (one_all A.lzs) (one_all B.lzs) ln)⟩
/-- What lies in the bag lies in memory from n on. -/
theorem Bag4.keep2 {w w0 w1 : World} {p n la ha lb hb lc hc : Nat} {ri rp rc rr : List Sl} {Ai Ap Ac Ar : Option Addr} {ci cp cc cr : Nat} {a b : Lists} {ins : List Sl} (h : Bag4 w p (a.rows ++ (b.rows ++ [])) ([a.ps] ++ ([b.ps] ++ [])) ([a.cs] ++ ([b.cs] ++ ins)) ([a.zs] ++ ([b.zs] ++ [])) ri rp rc rr Ai Ap Ac Ar ci cp cc cr)
    {wa : World} (A : ListsAt wa la ha a) (B : ListsAt wa lb hb b) (iC : ∀ b, blks ins b → lc ≤ b ∧ b < hc) (h1 : n ≤ la) (h2 : n ≤ lb) (h3 : n ≤ lc) (k : Keeps (fun _ => False) w0 w) (k1 : Keeps (aparts ri rp rc rr) w w1) (hn : w0.heap.size ≤ n) : Keeps (fun _ => False) w0 w1 := by
  have o : ∀ {lo hi : Nat} {r : Sl}, (∀ b, r.blk = some b → lo ≤ b ∧ b < hi) → ∀ b, blks [r] b → lo ≤ b ∧ b < hi := fun h b hb => h b (blks_one hb)
  have nn : ∀ b, blks [] b → lc ≤ b ∧ b < hc := blks_none
  exact k.and k1 (fun b hb hs => by have := h.above (above3 A.iRows B.iRows nn h1 h2 h3) (above3 (o A.bps) (o B.bps) nn h1 h2 h3) (above3 (o A.bcs) (o B.bcs) iC h1 h2 h3) (above3 (o A.bzs) (o B.bzs) nn h1 h2 h3) b hs; omega)
def stA (s : St) (Ap Ac Az : Option Addr) (cp cc cz : Nat) : Array Value := #[.slice Ap s.players.length cp, .slice Ac s.cards.length cc, .slice Az s.zones.length cz, .int .i32 s.turn, .int .i64 s.whose, .int .i8 s.fin, .int .i64 s.winner]
def lsA (s : St) (Ap Ac Az : Option Addr) (cp cc cz : Nat) (cells : List Value) : Lists := ⟨⟨Ap, s.players.length, cp⟩, ⟨Ac, s.cards.length, cc⟩, ⟨Az, s.zones.length, cz⟩, cells.map slOf⟩
/-- A state in a box, and its lists in a stretch of memory. -/
structure Bx (W : World) (b lo hi : Nat) (s : St) (Ap Ac Az : Option Addr) (cp cc cz : Nat) (x : Lists) : Prop where
  box : Whole W b 32 (stA s Ap Ac Az cp cc cz)
  lists : ListsAt W lo hi x
  lies : StIn W W.heap.size s Ap Ac Az
  inside : hi ≤ W.heap.size
theorem Bx.calm {W W' : World} {b lo hi : Nat} {s : St} {Ap Ac Az : Option Addr} {cp cc cz : Nat} {x : Lists} (h : Bx W b lo hi s Ap Ac Az cp cc cz x) (hk : Keeps (fun _ => False) W W') : Bx W' b lo hi s Ap Ac Az cp cc cz x :=
  ⟨h.box.keeps hk id, h.lists.calm hk h.inside, h.lies.past hk, Nat.le_trans h.inside hk.size⟩
theorem Bx.made {W : World} {lo : Nat} {s : St} {Ap Ac Az : Option Addr} {cp cc cz : Nat} {x : Lists} (h : ListsAt W lo W.heap.size x) (hi : StIn W W.heap.size s Ap Ac Az) : Bx (W.alloc (.cells (stA s Ap Ac Az cp cc cz) 32)) W.heap.size lo W.heap.size s Ap Ac Az cp cc cz x := by
  have hk : Keeps (fun _ => False) W (W.alloc (.cells (stA s Ap Ac Az cp cc cz) 32)) := (Keeps.refl _ _).alloc _
  exact ⟨Whole.made _ _ _, h.calm hk (Nat.le_refl _), hi.past hk, hk.size⟩
/-- The deal, and the decks with marks. -/
structure InAt (w W : World) (decks : List (List Cd)) (A : Option Addr) (cap : Nat) (life energy : Int) (A' : Option Addr) (c' : Nat) (ins : List Sl) : Prop where
  deal : DealAt w W decks A cap life energy
  inn : WDecks W (w.heap.size + 1) (.slice A' decks.length c') decks ins
theorem InAt.calm {w W W' : World} {decks : List (List Cd)} {A : Option Addr} {cap : Nat} {life energy : Int} {A' : Option Addr} {c' : Nat} {ins : List Sl} (h : InAt w W decks A cap life energy A' c' ins) (hk : Keeps (fun _ => False) W W') : InAt w W' decks A cap life energy A' c' ins := ⟨h.deal.calm hk, h.inn.calm hk⟩
end Go.Proofs.YtgbikcliembkcaaDoor
/-
  The law StateNews: the walk. Conditions: lengths within 10 ^ 15.
-/
namespace Go.Proofs.YtgbikcliembkcaaDoor
open Go.RowKit
set_option maxRecDepth 100000 in
set_option maxHeartbeats 8000000 in
theorem stateNews_any (decks : List (List Cd)) (life energy : Int) (A : Option Addr) (cap : Nat) (w : World) (hx : DecksLie w w.heap.size A decks) (hb : DealBig decks) :
    Calls Tryd.prog 3 #[.agg #[.slice A decks.length cap, .int .i32 life, .int .i32 energy]] w fun e w' => e = .returned (.bool true) ∧ Keeps (fun _ => False) w w' := by
  have D0 : Hid (DealAt w (w.alloc (.cells #[.slice A decks.length cap, .int .i32 life, .int .i32 energy] 24)) decks A cap life energy) := Lib.hid ⟨(Keeps.refl _ w).alloc _, Whole.made w _ _, hx.keeps ((Keeps.refl (fun _ => False) w).alloc _) (fun _ _ => id) (Nat.le_refl _)⟩
  have hdl := hb.size
  have HR := Lib.hid hb.rows
  clear hx hb
  go_enter Tryd.func3, Tryd.ntmps3
  go_wp2_with fail
  generalize w.alloc (.cells #[.slice A decks.length cap, .int .i32 life, .int .i32 energy] 24) = w0 at *
  go_loopw [3, 4] (fun vn vi wr => ∃ (i n : Nat), i ≤ decks.length ∧ vi = .int .i64 i ∧ vn = .int .i64 n ∧ n ≤ 2000000000000000 ∧ Hid (sumTo n ((decks.drop i).map List.length) = sumTo decks.length (decks.map List.length)) ∧ Hid (DealAt w wr decks A cap life energy)) (fun _ vi _ => decks.length - (intOf vi).toNat)
  case atStart => exact ⟨0, decks.length, by omega, rfl, rfl, by omega, Lib.hid rfl, D0⟩
  case round =>
    clear D0
    obtain ⟨i, n, hi, rfl, rfl, hn, HN, DD⟩ := hrel
    obtain ⟨p0, p1, p2, g0, g1, g2⟩ := three DD.out.box
    by_cases hlt : i < decks.length
    · have hd : (decks.drop i).map List.length = decks[i].length :: (decks.drop (i + 1)).map List.length := by rw [List.drop_eq_getElem_cons hlt]; rfl
      have hri := HR.out decks[i] (List.getElem_mem hlt)
      obtain ⟨g, off, Ai, ci, hA, hg, hc, _⟩ := DD.out.src i decks[i] (List.getElem?_eq_getElem hlt)
      subst hA
      by_cases hb : n ≤ 16777216
      · have HS : Hid (sumTo (n + decks[i].length) ((decks.drop (i + 1)).map List.length) = sumTo decks.length (decks.map List.length)) := Lib.hid (by have := HN.out; rw [hd, sumTo, if_pos hb] at this; exact this)
        clear hd HN
        generalize decks[i] = x at *
        have hb' : ¬ ((16777216 : Int) < (n : Int)) := by omega
        have hl : (decide ((16777216 : Int) < (n : Int))) = false := decide_eq_false hb'
        go_wp2_with (first | (go_at_call 5; refine (long_any n _).mono ?_; rintro e w' ⟨rfl, rfl⟩; rw [hl]))
        exact ⟨⟨i + 1, n + x.length, by omega, by first | rfl | go_num, by first | rfl | go_num, by omega, HS, DD⟩, by simp [intOf]; omega⟩
      · clear hd HN
        have hl : (decide ((16777216 : Int) < (n : Int))) = true := decide_eq_true (by omega)
        go_wp2_with (first | (go_at_call 5; refine (long_any n _).mono ?_; rintro e w' ⟨rfl, rfl⟩; rw [hl]))
        go_ret
        exact ⟨rfl, DD.out.keeps⟩
    · obtain rfl : i = decks.length := by omega
      have hsm : n = sumTo decks.length (decks.map List.length) := by have := HN.out; rw [List.drop_length] at this; simpa [sumTo] using this
      have HL2 := fun w => long_any n w
      clear HN hlt
      by_cases hq : (16777216 : Int) < (n : Int)
      · rw [decide_eq_true hq] at HL2
        clear hsm
        go_wp2_with (first | (go_at_call 5; refine (HL2 _).mono ?_; rintro e w' ⟨rfl, rfl⟩))
        go_ret
        exact ⟨rfl, DD.out.keeps⟩
      rw [decide_eq_false hq] at HL2
      have hnf : n = decks.length + decks.flatten.length := by
        rw [hsm, sumTo_small _ _ (by omega), flat_sum]
      have hfl : decks.flatten.length ≤ 16777216 := by omega
      have hdl2 : decks.length ≤ 16777216 := by omega
      have HNF := Lib.hid hfl
      clear hsm hq hnf hfl
      go_wp2_with (first | (go_at_call 5; refine (HL2 _).mono ?_; rintro e w' ⟨rfl, rfl⟩))
      clear HL2 p0 p1 p2 g0 g1 g2
      have hro : ∀ d ∈ decks, d.length ≤ 1000000000 := fun d hd => by
        obtain ⟨z, hz⟩ := List.mem_iff_getElem?.1 hd
        have : d.length ≤ decks.flatten.length := by
          conv => rhs; rw [split_at hz]
          simp only [List.flatten_append, List.flatten_cons, List.length_append]; omega
        have := HNF.out
        omega
      have HRO := Lib.hid hro
      clear hro HNF HR
      go_loopw [5, 6] (fun vc vi wr => ∃ (i : Nat) (ins : List Sl) (A' : Option Addr) (c' : Nat), i ≤ decks.length ∧ vi = .int .i64 i ∧ vc = .slice A' i c' ∧ Hid (WDecks wr (w.heap.size + 1) (.slice A' i c') (decks.take i) ins) ∧ Hid (DealAt w wr decks A cap life energy)) (fun _ vi _ => decks.length - (intOf vi).toNat)
      case atStart => exact ⟨0, [], none, 0, by omega, rfl, rfl, Lib.hid (WDecks.nil _ _), DD⟩
      case round =>
        clear DD
        obtain ⟨i, ins, A', c', hi, rfl, rfl, HO, DD⟩ := hrel
        obtain ⟨p0, p1, p2, g0, g1, g2⟩ := three DD.out.box
        by_cases hlt : i < decks.length
        · have hxi : decks[i]? = some decks[i] := List.getElem?_eq_getElem hlt
          obtain ⟨g, off, Ai, ci, hA, hg, hc, hl2⟩ := DD.out.src i decks[i] hxi
          subst hA
          have hri := HRO.out decks[i] (List.getElem_mem hlt)
          have HS := Lib.hid DD.out.keeps.size
          generalize decks[i] = x at *
          have HXI := Lib.hid hxi
          have HB1 : Hid (w.heap.size + 1 ≤ wr.heap.size) := Lib.hid (Nat.succ_le_of_lt DD.out.box.inside)
          clear hxi
          go_wp2_with fail
          clear p0 p1 p2 g0 g1 g2 hc
          refine (wideCards_any x Ai ci wr (hl2.more HS.out) hri).mono ?_
          rintro e w1 ⟨rfl, hw1, hk1⟩
          have hka : Keeps (fun _ => False) w1 (w1.alloc (.cells #[.slice (some ⟨wr.heap.size, 0, none⟩) x.length (x.length + 64)] 26)) := (Keeps.refl (fun _ => False) _).alloc _
          have HA : Hid (WDecks (w1.alloc (.cells #[.slice (some ⟨wr.heap.size, 0, none⟩) x.length (x.length + 64)] 26)) (w.heap.size + 1) (.slice A' i c') (decks.take i) ins) := Lib.hid ((HO.out.calm hk1).calm hka)
          have hlen : (decks.take i).length = i := by rw [List.length_take]; omega
          have HA0 : Hid ((w1.alloc (.cells #[.slice (some ⟨wr.heap.size, 0, none⟩) x.length (x.length + 64)] 26)).ownsRow (w.heap.size + 1) 26 1 (.slice A' i c') i (vals ins)) := Lib.hid (by have := HA.out.own; rwa [hlen] at this)
          have HN : Hid (Lies (w1.alloc (.cells #[.slice (some ⟨wr.heap.size, 0, none⟩) x.length (x.length + 64)] 26)) (w1.heap.size + 1) (some ⟨w1.heap.size, 0, none⟩) [.slice (some ⟨wr.heap.size, 0, none⟩) x.length (x.length + 64)]) := Lib.hid (Lies.row (fr := (0, 0)) (Whole.made w1 26 #[.slice (some ⟨wr.heap.size, 0, none⟩) x.length (x.length + 64)]) (Nat.lt_succ_self _))
          have DD1 := Lib.hid ((DD.out.calm hk1).calm hka)
          have HB : Hid (w.heap.size + 1 ≤ (w1.alloc (.cells #[.slice (some ⟨wr.heap.size, 0, none⟩) x.length (x.length + 64)] 26)).heap.size) := Lib.hid (Nat.succ_le_of_lt DD1.out.box.inside)
          have HW := Lib.hid (hw1.keeps hka id)
          have HNW : Hid (∀ k, blks ins k → k ≠ wr.heap.size) := Lib.hid (fun k hk e => by have := (HO.out.lt hk).2; omega)
          clear hk1 HO DD hl2 hka hw1
          go_wp2_with (first
            | (at_builtin
               refine wpList_append_cells _ rfl _ _ 22 rfl (w.heap.size + 1) 26 (.slice none 0 0) 1 24 Tryd.underlying22 info_deck rfl (by decide) (.slice A' i c') i (vals ins) rfl HA0.out _ (some ⟨w1.heap.size, 0, none⟩) 1 1 [.slice (some ⟨wr.heap.size, 0, none⟩) x.length (x.length + 64)] rfl HN.out rfl (fun u hu => by obtain rfl : u = _ := List.mem_singleton.1 hu; rfl) (by simp only [maxLen]; omega) (by omega) HB.out ?_
               intro A2 c2 w2 hown hg2 _ _ _))
          have hp := HA.out.push (x := x) (b := wr.heap.size) HW.out HB1.out HNW.out hg2 (A2 := A2) (c2 := c2) (by rw [hlen]; exact hown)
          have ht : decks.take i ++ [x] = decks.take (i + 1) := by rw [List.take_add_one, HXI.out]; rfl
          rw [ht, show (decks.take (i + 1)).length = i + 1 by rw [List.length_take]; omega] at hp
          have kg : Keeps (fun b => w.heap.size + 1 ≤ b) (w1.alloc (.cells #[.slice (some ⟨wr.heap.size, 0, none⟩) x.length (x.length + 64)] 26)) w2 := (Keeps.refl _ _).grown hg2 (fun k hk _ => (HA0.out.lt k hk).1)
          exact ⟨⟨i + 1, _, A2, c2, by omega, by first | rfl | go_num, rfl, Lib.hid hp, Lib.hid ⟨DD1.out.keeps.and kg (fun k hk h => by omega), DD1.out.box.keeps kg (by omega), DD1.out.src.keeps kg (fun b hb h => by omega) DD1.out.keeps.size⟩⟩, by simp [intOf]; omega⟩
        · obtain rfl : i = decks.length := by omega
          have HO' := HO.out
          rw [List.take_length] at HO'
          have I0 : Hid (InAt w wr decks A cap life energy A' c' ins) := Lib.hid ⟨DD.out, HO'⟩
          clear HO HO' hlt DD hi hn
          have HIW := Lib.hid (I0.out.inn.lt (b := 0))
          clear HIW
          have HRR := Lib.hid (refNewAll_any decks life energy)
          have SM := Lib.hid (nS_small decks life energy)
          have HNW := Lib.hid (newAll_any decks life energy)
          generalize nS decks life energy = s at *
          generalize nE decks life energy = er at *
          go_wp2_with fail
          clear p0 p1 p2 g0 g1 g2
          refine (HNW.out A' wr.heap.size c' wr I0.out.inn.lie (Nat.le_refl _) (by omega) HRO.out).mono ?_
          rintro e w1 ⟨A1, D1, Z1, c1, d1, z1, cells1, rfl, hc1, hap1, k1⟩
          have I1 := Lib.hid (I0.out.calm k1)
          have L1 := Lib.hid (ListsAt.of_copy hc1 hap1 SM.out)
          have N1 := Lib.hid hc1.lies
          have hs1 : wr.heap.size ≤ w1.heap.size := k1.size
          have INB : Hid (∀ b, blks ins b → w.heap.size + 1 ≤ b ∧ b < wr.heap.size) := Lib.hid (fun b hb => I0.out.inn.lt hb)
          have hsw : w.heap.size + 1 ≤ wr.heap.size := Nat.succ_le_of_lt I0.out.deal.box.inside
          clear hc1 hap1 k1 I0
          obtain ⟨p0, p1, p2, g0, g1, g2⟩ := three (I1.out.calm ((Keeps.refl _ w1).alloc (.cells #[.slice A1 s.players.length c1, .slice D1 s.cards.length d1, .slice Z1 s.zones.length z1, .int .i32 s.turn, .int .i64 s.whose, .int .i8 s.fin, .int .i64 s.winner] 32))).deal.box
          unfold stV
          go_wp2_with fail
          clear p0 p1 p2 g0 g1 g2
          have B1 : Hid (Bx (w1.alloc (.cells #[.slice A1 s.players.length c1, .slice D1 s.cards.length d1, .slice Z1 s.zones.length z1, .int .i32 s.turn, .int .i64 s.whose, .int .i8 s.fin, .int .i64 s.winner] 32)) w1.heap.size wr.heap.size w1.heap.size s A1 D1 Z1 c1 d1 z1 (lsA s A1 D1 Z1 c1 d1 z1 cells1)) := Lib.hid (Bx.made L1.out N1.out)
          have I2 := Lib.hid (I1.out.calm ((Keeps.refl _ w1).alloc (.cells #[.slice A1 s.players.length c1, .slice D1 s.cards.length d1, .slice Z1 s.zones.length z1, .int .i32 s.turn, .int .i64 s.whose, .int .i8 s.fin, .int .i64 s.winner] 32)))
          have hs2 : w1.heap.size < (w1.alloc (.cells #[.slice A1 s.players.length c1, .slice D1 s.cards.length d1, .slice Z1 s.zones.length z1, .int .i32 s.turn, .int .i64 s.whose, .int .i8 s.fin, .int .i64 s.winner] 32)).heap.size := B1.out.box.inside
          clear L1 N1 I1
          generalize w1.alloc (.cells #[.slice A1 s.players.length c1, .slice D1 s.cards.length d1, .slice Z1 s.zones.length z1, .int .i32 s.turn, .int .i64 s.whose, .int .i8 s.fin, .int .i64 s.winner] 32) = w2 at *
          refine (HNW.out A' w2.heap.size c' w2 I2.out.inn.lie (Nat.le_refl _) (by omega) HRO.out).mono ?_
          rintro e w3 ⟨A2, D2, Z2, c2, d2, z2, cells2, rfl, hc1, hap1, k1⟩
          have I3 := Lib.hid (I2.out.calm k1)
          have B2 := Lib.hid (B1.out.calm k1)
          have L2 := Lib.hid (ListsAt.of_copy hc1 hap1 SM.out)
          have N2 := Lib.hid hc1.lies
          have hs3 : w2.heap.size ≤ w3.heap.size := k1.size
          clear hc1 hap1 k1 I2 B1 HNW
          obtain ⟨p0, p1, p2, g0, g1, g2⟩ := three (I3.out.calm ((Keeps.refl _ w3).alloc (.cells #[.slice A2 s.players.length c2, .slice D2 s.cards.length d2, .slice Z2 s.zones.length z2, .int .i32 s.turn, .int .i64 s.whose, .int .i8 s.fin, .int .i64 s.winner] 32))).deal.box
          unfold stV
          go_wp2_with fail
          clear p0 p1 p2 g0 g1 g2
          have BB1 : Hid (Bx (w3.alloc (.cells #[.slice A2 s.players.length c2, .slice D2 s.cards.length d2, .slice Z2 s.zones.length z2, .int .i32 s.turn, .int .i64 s.whose, .int .i8 s.fin, .int .i64 s.winner] 32)) w3.heap.size w2.heap.size w3.heap.size s A2 D2 Z2 c2 d2 z2 (lsA s A2 D2 Z2 c2 d2 z2 cells2)) := Lib.hid (Bx.made L2.out N2.out)
          have I4 := Lib.hid (I3.out.calm ((Keeps.refl _ w3).alloc (.cells #[.slice A2 s.players.length c2, .slice D2 s.cards.length d2, .slice Z2 s.zones.length z2, .int .i32 s.turn, .int .i64 s.whose, .int .i8 s.fin, .int .i64 s.winner] 32)))
          have B4 := Lib.hid (B2.out.calm ((Keeps.refl _ w3).alloc (.cells #[.slice A2 s.players.length c2, .slice D2 s.cards.length d2, .slice Z2 s.zones.length z2, .int .i32 s.turn, .int .i64 s.whose, .int .i8 s.fin, .int .i64 s.winner] 32)))
          have hs4 : w3.heap.size < (w3.alloc (.cells #[.slice A2 s.players.length c2, .slice D2 s.cards.length d2, .slice Z2 s.zones.length z2, .int .i32 s.turn, .int .i64 s.whose, .int .i8 s.fin, .int .i64 s.winner] 32)).heap.size := BB1.out.box.inside
          clear L2 N2 I3 B2
          generalize w3.alloc (.cells #[.slice A2 s.players.length c2, .slice D2 s.cards.length d2, .slice Z2 s.zones.length z2, .int .i32 s.turn, .int .i64 s.whose, .int .i8 s.fin, .int .i64 s.winner] 32) = w4 at *
          refine (HRR.out A w.heap.size cap w4 I4.out.deal.src (by omega) HRO.out (by omega)).mono ?_
          rintro e w5 ⟨A3, D3, Z3, c3, d3, z3, rfl, hc1, k1⟩
          have I5 := Lib.hid (I4.out.calm k1)
          have B5 := Lib.hid (B4.out.calm k1)
          have BB5 := Lib.hid (BB1.out.calm k1)
          have C5 := Lib.hid hc1
          have hs5 : w4.heap.size ≤ w5.heap.size := k1.size
          clear hc1 k1 I4 B4 BB1 HRR
          have hqe : (er != er) = false := by simp
          unfold stV
          have ka : Keeps (fun _ => False) w5 (w5.alloc (.cells #[.slice A3 s.players.length c3, .slice D3 s.cards.length d3, .slice Z3 s.zones.length z3, .int .i32 s.turn, .int .i64 s.whose, .int .i8 s.fin, .int .i64 s.winner] 32)) := (Keeps.refl _ w5).alloc _
          have hs6 : w5.heap.size < (w5.alloc (.cells #[.slice A3 s.players.length c3, .slice D3 s.cards.length d3, .slice Z3 s.zones.length z3, .int .i32 s.turn, .int .i64 s.whose, .int .i8 s.fin, .int .i64 s.winner] 32)).heap.size := (Whole.made w5 32 #[.slice A3 s.players.length c3, .slice D3 s.cards.length d3, .slice Z3 s.zones.length z3, .int .i32 s.turn, .int .i64 s.whose, .int .i8 s.fin, .int .i64 s.winner]).inside
          have I6 := Lib.hid (I5.out.calm ka)
          have B6 := Lib.hid (B5.out.calm ka)
          have BB6 := Lib.hid (BB5.out.calm ka)
          have W6 := Lib.hid (Whole.made w5 32 #[.slice A3 s.players.length c3, .slice D3 s.cards.length d3, .slice Z3 s.zones.length z3, .int .i32 s.turn, .int .i64 s.whose, .int .i8 s.fin, .int .i64 s.winner])
          have C6 := Lib.hid (C5.out.past ka)
          clear I5 B5 BB5 C5
          obtain ⟨a0, a1, a2, a3, a4, a5, a6, f0, f1, f2, f3, f4, f5, f6⟩ := seven B6.out.box
          clear f0 f1 f2 f3 f4 f5 f6
          go_wp2_with fail
          clear a0 a1 a2 a3 a4 a5 a6
          generalize w5.alloc (.cells #[.slice A3 s.players.length c3, .slice D3 s.cards.length d3, .slice Z3 s.zones.length z3, .int .i32 s.turn, .int .i64 s.whose, .int .i8 s.fin, .int .i64 s.winner] 32) = w6 at *
          have HEQ : Hid (∀ W (A D Z : Option Addr) (c d z : Nat), StIn W W.heap.size s A D Z → StIn W W.heap.size s A3 D3 Z3 → Calls Tryd.prog 9 #[.agg #[.slice A s.players.length c, .slice D s.cards.length d, .slice Z s.zones.length z, .int .i32 s.turn, .int .i64 s.whose, .int .i8 s.fin, .int .i64 s.winner], .agg #[.slice A3 s.players.length c3, .slice D3 s.cards.length d3, .slice Z3 s.zones.length z3, .int .i32 s.turn, .int .i64 s.whose, .int .i8 s.fin, .int .i64 s.winner]] W fun e w' => e = .returned (.bool true) ∧ Keeps (fun _ => False) W w') := Lib.hid (fun W A D Z c d z h1 h2 => by
            have h := eqState_any s s A D Z A3 D3 Z3 W.heap.size c d z c3 d3 z3 W h1 h2 (Nat.le_refl _) SM.out
            unfold stV at h
            simpa using h)
          refine (HEQ.out w6 _ _ _ _ _ _ B6.out.lies C6.out).mono ?_
          rintro e w7 ⟨rfl, k7⟩
          have I7 := Lib.hid (I6.out.calm k7)
          have B7 := Lib.hid (B6.out.calm k7)
          have BB7 := Lib.hid (BB6.out.calm k7)
          have W7 := Lib.hid (W6.out.keeps k7 id)
          have C7 := Lib.hid (C6.out.past k7)
          have hs7 : w6.heap.size ≤ w7.heap.size := k7.size
          clear I6 B6 BB6 W6 C6 k7
          obtain ⟨a0, a1, a2, a3, a4, a5, a6, f0, f1, f2, f3, f4, f5, f6⟩ := seven BB7.out.box
          obtain ⟨b0, b1, b2, b3, b4, b5, b6, e0, e1, e2, e3, e4, e5, e6⟩ := seven W7.out
          clear f0 f1 f2 f3 f4 f5 f6 e0 e1 e2 e3 e4 e5 e6
          go_wp2_with fail
          clear a0 a1 a2 a3 a4 a5 a6 b0 b1 b2 b3 b4 b5 b6
          refine (HEQ.out w7 _ _ _ _ _ _ BB7.out.lies C7.out).mono ?_
          rintro e w8 ⟨rfl, k7⟩
          have I8 := Lib.hid (I7.out.calm k7)
          have B8 := Lib.hid (B7.out.calm k7)
          have BB8 := Lib.hid (BB7.out.calm k7)
          have hs8 : w7.heap.size ≤ w8.heap.size := k7.size
          clear I7 B7 BB7 W7 C7 k7 HEQ hqe
          generalize w1.heap.size = n1 at *
          generalize w2.heap.size = n2 at *
          generalize w3.heap.size = n3 at *
          generalize wr.heap.size = n0 at *
          generalize w5.heap.size = n5 at *
          go_wp2_with fail
          go_loopw [13] (fun vi wr => ∃ i : Nat, i ≤ decks.length ∧ vi = .int .i64 i ∧ Hid (InAt w wr decks A cap life energy A' c' ins) ∧ Hid (Bx wr n1 n0 n1 s A1 D1 Z1 c1 d1 z1 (lsA s A1 D1 Z1 c1 d1 z1 cells1)) ∧ Hid (Bx wr n3 n2 n3 s A2 D2 Z2 c2 d2 z2 (lsA s A2 D2 Z2 c2 d2 z2 cells2))) (fun vi _ => decks.length - (intOf vi).toNat)
          case atStart => exact ⟨0, by omega, rfl, I8, B8, BB8⟩
          case round =>
            clear I8 B8 BB8
            obtain ⟨i, hi, rfl, II, BA, BB⟩ := hrel
            by_cases hlt : i < decks.length
            · obtain ⟨b, hb1, hb2, hb3⟩ := II.out.inn.row i _ (List.getElem?_eq_getElem hlt)
              obtain ⟨g, off, hA', hg, hcl⟩ := own_lies_n II.out.inn.own i _ (vals_get hb1)
              obtain ⟨g', off', Ai, ci, hA, hg', hcd, hld⟩ := II.out.deal.src i decks[i] (List.getElem?_eq_getElem hlt)
              subst hA hA'
              have hrd := HRO.out decks[i] (List.getElem_mem hlt)
              have hlow : w.heap.size ≤ wr.heap.size := II.out.deal.keeps.size
              have HF : ∀ W, Keeps (fun _ => False) wr W → W.cell? ⟨g, off + i, none⟩ = some (.slice (some ⟨b, 0, none⟩) decks[i].length (decks[i].length + 64)) ∧ W.cell? ⟨w.heap.size, 0, none⟩ = some (.slice (some ⟨g', off', none⟩) decks.length cap) ∧ W.cell? ⟨g', off' + i, none⟩ = some (.slice Ai decks[i].length ci) := fun W hW =>
                ⟨(hW.cell hg id).trans hcl, (hW.cell II.out.deal.box.inside id).trans (II.out.deal.box.cellAt 0), (hW.cell (by omega) id).trans hcd⟩
              have HEC : Hid (∀ W, Keeps (fun _ => False) wr W → Calls Tryd.prog 10 #[.slice (some ⟨b, 0, none⟩) decks[i].length (decks[i].length + 64), .slice Ai decks[i].length ci] W fun e w' => e = .returned (.bool true) ∧ Keeps (fun _ => False) W w') := Lib.hid (fun W hW => by
                have h := eqCards_any decks[i] decks[i] (some ⟨b, 0, none⟩) Ai wr.heap.size w.heap.size (decks[i].length + 64) ci W (FLies.keeps (FLies.whole (f := Cd.cells) (k := 6) (fun _ => rfl) hb3 (wideCd_head _) hb3.inside) hW (fun _ _ => id) (Nat.le_refl _)) (FLies.keeps hld hW (fun _ _ => id) hlow) hrd
                refine h.mono ?_
                rintro e w' ⟨rfl, n, rfl⟩
                exact ⟨by simp, (Keeps.refl _ _).drewN _⟩)
              have HSP : Hid (∀ W, Keeps (fun _ => False) wr W → Calls Tryd.prog 11 #[.slice (some ⟨b, 0, none⟩) decks[i].length (decks[i].length + 64)] W fun e w' => e = .returned (.bool true) ∧ Keeps (fun _ => False) W w') := Lib.hid (fun W hW => spareCards_any b decks[i] W (hb3.keeps hW id) hrd)
              clear hb1 hb2 hb3 hcl hcd hld
              generalize decks[i] = d at *
              go_wp2_with fail
              refine region_cut (fun a a' w' => (∃ u111 u112 u113 u114 u115 u116 u117 u118 u119 u120 u121 u122 u123 u124 u125 u126 u127 u128 : Value, a' = (((((((((((((((((((a.put (some 111) u111).put (some 112) u112).put (some 113) u113).put (some 114) u114).put (some 115) u115).put (some 116) u116).put (some 117) u117).put (some 118) u118).put (some 119) u119).put (some 120) u120).put (some 121) u121).put (some 122) u122).put (some 123) u123).put (some 124) u124).put (some 125) u125).put (some 126) u126).put (some 127) u127).put (some 128) u128).put (some 129) (.bool false))) ∧ Keeps (fun _ => False) wr w') ?_ ?_
              · skip
                refine wp_region_held_drew (S := fun W => Keeps (fun _ => False) wr W) (by kernel_rfl) ((Keeps.refl _ wr).drew) ?_
                intro hSn
                refine wpAnyH_take (i := 0) (v := ?v1) rfl (by kernel_rfl) (by kernel_rfl) (by kernel_rfl) (fun _ _ _ h => by first | exact h | exact absurd h.1 (fun e => by cases e)) (Or.inl ⟨by rfl, ?hy1⟩) (by assumption) ?rest1
                case hy1 =>
                  intro w hSw
                  obtain ⟨m0, m1, m2⟩ := HF w hSw
                  go_simp
                  try with_reducible rfl
                go_simp
                refine wpAnyH_take (i := 1) (v := ?v2) rfl (by kernel_rfl) (by kernel_rfl) (by kernel_rfl) (fun _ _ _ h => by first | exact h | exact absurd h.1 (fun e => by cases e)) (Or.inl ⟨by rfl, ?hy2⟩) (by assumption) ?rest2
                case hy2 =>
                  intro w hSw
                  obtain ⟨m0, m1, m2⟩ := HF w hSw
                  go_simp
                  try with_reducible rfl
                go_simp
                refine wpAnyH_take (i := 2) (v := ?v3) rfl (by kernel_rfl) (by kernel_rfl) (by kernel_rfl) (fun _ _ _ h => by first | exact h | exact absurd h.1 (fun e => by cases e)) (Or.inl ⟨by rfl, ?hy3⟩) (by assumption) ?rest3
                case hy3 =>
                  intro w hSw
                  obtain ⟨m0, m1, m2⟩ := HF w hSw
                  go_simp
                  try with_reducible rfl
                go_simp
                refine wpAnyH_take (i := 3) (v := ?v4) rfl (by kernel_rfl) (by kernel_rfl) (by kernel_rfl) (fun _ _ _ h => by first | exact h | exact absurd h.1 (fun e => by cases e)) (Or.inl ⟨by rfl, ?hy4⟩) (by assumption) ?rest4
                case hy4 =>
                  intro w hSw
                  obtain ⟨m0, m1, m2⟩ := HF w hSw
                  go_simp
                  try with_reducible rfl
                go_simp
                refine wpAnyH_take (i := 4) (v := ?v5) rfl (by kernel_rfl) (by kernel_rfl) (by kernel_rfl) (fun _ _ _ h => by first | exact h | exact absurd h.1 (fun e => by cases e)) (Or.inl ⟨by rfl, ?hy5⟩) (by assumption) ?rest5
                case hy5 =>
                  intro w hSw
                  obtain ⟨m0, m1, m2⟩ := HF w hSw
                  go_simp
                  try with_reducible rfl
                go_simp
                refine wpAnyH_take (i := 5) (v := ?v6) rfl (by kernel_rfl) (by kernel_rfl) (by kernel_rfl) (fun _ _ _ h => by first | exact h | exact absurd h.1 (fun e => by cases e)) (Or.inl ⟨by rfl, ?hy6⟩) (by assumption) ?rest6
                case hy6 =>
                  intro w hSw
                  obtain ⟨m0, m1, m2⟩ := HF w hSw
                  go_simp
                  try with_reducible rfl
                go_simp
                refine wpAnyH_take (i := 6) (v := ?v7) rfl (by kernel_rfl) (by kernel_rfl) (by kernel_rfl) (fun _ _ _ h => by first | exact h | exact absurd h.1 (fun e => by cases e)) (Or.inl ⟨by rfl, ?hy7⟩) (by assumption) ?rest7
                case hy7 =>
                  intro w hSw
                  obtain ⟨m0, m1, m2⟩ := HF w hSw
                  go_simp
                  try with_reducible rfl
                go_simp
                refine wpAnyH_take (i := 7) (v := ?v8) rfl (by kernel_rfl) (by kernel_rfl) (by kernel_rfl) (fun _ _ _ h => by first | exact h | exact absurd h.1 (fun e => by cases e)) (Or.inl ⟨by rfl, ?hy8⟩) (by assumption) ?rest8
                case hy8 =>
                  intro w hSw
                  obtain ⟨m0, m1, m2⟩ := HF w hSw
                  go_simp
                  try with_reducible rfl
                go_simp
                refine wpAnyH_take (i := 8) (v := ?v9) rfl (by kernel_rfl) (by kernel_rfl) (by kernel_rfl) (fun _ _ _ h => by first | exact h | exact absurd h.1 (fun e => by cases e)) (Or.inl ⟨by rfl, ?hy9⟩) (by assumption) ?rest9
                case hy9 =>
                  intro w hSw
                  obtain ⟨m0, m1, m2⟩ := HF w hSw
                  go_simp
                  try with_reducible rfl
                go_simp
                refine wpAnyH_ready (rs := [9]) (by kernel_rfl) (by simp) ?_
                refine AllReadyH.cons rfl (fun K hK => ?_) AllReadyH.nil
                go_simp
                refine (HEC.out _ hSn).mono ?_
                rintro e x1 ⟨rfl, k1⟩
                refine hK.out _ _ (hSn.trans k1) (fun hSn => ?_)
                clear hK K
                go_simp
                refine wpAnyH_take (i := 10) (v := ?v10) rfl (by kernel_rfl) (by kernel_rfl) (by kernel_rfl) (fun _ _ _ h => by first | exact h | exact absurd h.1 (fun e => by cases e)) (Or.inl ⟨by rfl, ?hy10⟩) (by assumption) ?rest10
                case hy10 =>
                  intro w hSw
                  skip
                  go_simp
                  try with_reducible rfl
                go_simp
                refine wpAnyH_take (i := 11) (v := ?v11) rfl (by kernel_rfl) (by kernel_rfl) (by kernel_rfl) (fun _ _ _ h => by first | exact h | exact absurd h.1 (fun e => by cases e)) (Or.inl ⟨by rfl, ?hy11⟩) (by assumption) ?rest11
                case hy11 =>
                  intro w hSw
                  skip
                  go_simp
                  try with_reducible rfl
                go_simp
                refine wpAnyH_take (i := 12) (v := ?v12) rfl (by kernel_rfl) (by kernel_rfl) (by kernel_rfl) (fun _ _ _ h => by first | exact h | exact absurd h.1 (fun e => by cases e)) (Or.inl ⟨by rfl, ?hy12⟩) (by assumption) ?rest12
                case hy12 =>
                  intro w hSw
                  obtain ⟨m0, m1, m2⟩ := HF w hSw
                  go_simp
                  try with_reducible rfl
                go_simp
                refine wpAnyH_take (i := 13) (v := ?v13) rfl (by kernel_rfl) (by kernel_rfl) (by kernel_rfl) (fun _ _ _ h => by first | exact h | exact absurd h.1 (fun e => by cases e)) (Or.inl ⟨by rfl, ?hy13⟩) (by assumption) ?rest13
                case hy13 =>
                  intro w hSw
                  obtain ⟨m0, m1, m2⟩ := HF w hSw
                  go_simp
                  try with_reducible rfl
                go_simp
                refine wpAnyH_take (i := 14) (v := ?v14) rfl (by kernel_rfl) (by kernel_rfl) (by kernel_rfl) (fun _ _ _ h => by first | exact h | exact absurd h.1 (fun e => by cases e)) (Or.inl ⟨by rfl, ?hy14⟩) (by assumption) ?rest14
                case hy14 =>
                  intro w hSw
                  obtain ⟨m0, m1, m2⟩ := HF w hSw
                  go_simp
                  try with_reducible rfl
                go_simp
                refine wpAnyH_take (i := 15) (v := ?v15) rfl (by kernel_rfl) (by kernel_rfl) (by kernel_rfl) (fun _ _ _ h => by first | exact h | exact absurd h.1 (fun e => by cases e)) (Or.inl ⟨by rfl, ?hy15⟩) (by assumption) ?rest15
                case hy15 =>
                  intro w hSw
                  obtain ⟨m0, m1, m2⟩ := HF w hSw
                  go_simp
                  try with_reducible rfl
                go_simp
                refine wpAnyH_ready (rs := [16]) (by kernel_rfl) (by simp) ?_
                refine AllReadyH.cons rfl (fun K hK => ?_) AllReadyH.nil
                go_simp
                refine (HSP.out _ hSn).mono ?_
                rintro e x2 ⟨rfl, k2⟩
                refine hK.out _ _ (hSn.trans k2) (fun hSn => ?_)
                clear hK K
                go_simp
                refine wpAnyH_take (i := 17) (v := ?v16) rfl (by kernel_rfl) (by kernel_rfl) (by kernel_rfl) (fun _ _ _ h => by first | exact h | exact absurd h.1 (fun e => by cases e)) (Or.inl ⟨by rfl, ?hy16⟩) (by assumption) ?rest16
                case hy16 =>
                  intro w hSw
                  skip
                  go_simp
                  try with_reducible rfl
                go_simp
                refine wpAnyH_take (i := 18) (v := ?v17) rfl (by kernel_rfl) (by kernel_rfl) (by kernel_rfl) (fun _ _ _ h => by first | exact h | exact absurd h.1 (fun e => by cases e)) (Or.inl ⟨by rfl, ?hy17⟩) (by assumption) ?rest17
                case hy17 =>
                  intro w hSw
                  skip
                  go_simp
                  try with_reducible rfl
                go_simp
                refine wpAnyH_done (by kernel_rfl) ?_ _
                exact ⟨rfl, ⟨_, _, _, _, _, _, _, _, _, _, _, _, _, _, _, _, _, _, rfl⟩, hSn⟩
              · rintro a' wx ⟨⟨u111, u112, u113, u114, u115, u116, u117, u118, u119, u120, u121, u122, u123, u124, u125, u126, u127, u128, rfl⟩, kd⟩
                simp only [Act.put, List.setIfInBounds_toArray, List.set_cons_zero, List.set_cons_succ]
                have II2 := Lib.hid (II.out.calm kd)
                have BA2 := Lib.hid (BA.out.calm kd)
                have BB2 := Lib.hid (BB.out.calm kd)
                clear kd II BA BB HF HEC HSP
                go_wp2_with fail
                go_roundw
                case rel => exact ⟨i + 1, by omega, by go_num, II2, BA2, BB2⟩
                case measure => simp [intOf]; omega
            · obtain rfl : i = decks.length := by omega
              clear hlt hi
              have hw0 : w.heap.size ≤ wr.heap.size := II.out.deal.keeps.size
              have hiB : n3 ≤ wr.heap.size := BB.out.inside
              obtain ⟨wB, hwB⟩ : ∃ z, z = wr.alloc (.cells (bag4 (.slice none 0 0) (.slice none 0 0) (.slice none 0 0) (.slice none 0 0)) 60) := ⟨_, rfl⟩
              have kB : Keeps (fun _ => False) wr wB := by rw [hwB]; exact (Keeps.refl _ _).alloc _
              have hpB : wr.heap.size ≤ wB.heap.size := kB.size
              have HB := Lib.hid (Bag4.start2 BA.out.lists BB.out.lists (II.out.inn.sl HRO.out) INB.out (II.out.inn.lens HRO.out) (Nat.le_refl _) (by omega) (by omega) BB.out.inside BA.out.inside (by omega))
              rw [← hwB] at HB
              have LSA := Lib.hid BA.out.lists
              have LSB := Lib.hid BB.out.lists
              have hz1 := BA.out.lists.len
              have hz2 := BB.out.lists.len
              have LA := Lib.hid ((BA.out.calm kB).lists.lies.up BA.out.inside)
              have LB := Lib.hid ((BB.out.calm kB).lists.lies.up BB.out.inside)
              have BXa := Lib.hid (BA.out.calm kB).box
              have BXb := Lib.hid (BB.out.calm kB).box
              have KK := Lib.hid (II.out.deal.keeps.trans kB)
              have LIN : Hid (Lies wB wr.heap.size A' (vals ins)) := Lib.hid ((own_lies_n II.out.inn.own).keep (fun b o hb => kB.cell hb id))
              have HINS := Lib.hid II.out.inn.len
              obtain ⟨a0, a1, a2, a3, a4, a5, a6, f0, f1, f2, f3, f4, f5, f6⟩ := seven BXa.out
              clear f0 f1 f2 f3 f4 f5 f6 II BA BB kB
              rw [hwB] at a0 a1 a2 a3 a4 a5 a6
              unfold bag4 at a0 a1 a2 a3 a4 a5 a6 hwB
              have HZ := Lib.hid (And.intro hz1 hz2)
              have HN := Lib.hid (And.intro hsw (And.intro hpB hw0))
              have HS0 : Hid (n0 ≤ n1 ∧ n0 ≤ n2) := Lib.hid ⟨by omega, by omega⟩
              clear hz1 hz2 hsw hpB hw0 hs1 hs2 hs3 hs4 hs5 hs6 hs7 hs8 hiB
              go_wp2_with fail
              rw [← hwB]
              clear hwB a0 a1 a2 a3 a4 a5 a6
              generalize wr.heap.size = p at *
              have HA := addState4 (lsA s A1 D1 Z1 c1 d1 z1 cells1) s.turn s.whose s.fin s.winner HB.out (by decide) (by decide) (by decide) rfl rfl rfl HZ.out.1 LA.out (fun i q hq _ => next_a hq)
              simp only [lsA] at HA
              refine HA.mono ?_
              clear HA
              rintro e wx1 ⟨rfl, ri1, rp1, rc1, rr1, Ai1, Ap1, Ac1, Ar1, ci1, cp1, cc1, cr1, hb1, l1, l2, l3, l4, kx⟩
              have HB1 := Lib.hid hb1
              have KK1 := Lib.hid (KK.out.and kx (fun b hb hs => by have := hs.1; have := HN.out.2.2; omega))
              have LB1 := Lib.hid (LB.out.bagS kx HN.out.2.1)
              have LIN1 := Lib.hid (LIN.out.bagS kx HN.out.2.1)
              have BXb1 := Lib.hid (BagS.box kx BXb.out)
              have HZ1 := Lib.hid (Nat.le_trans HN.out.2.1 kx.size)
              have HQ1 : Hid (rp1.length = 1 ∧ rc1.length = 1 ∧ rr1.length = 1) := Lib.hid ⟨l1, l2, l3⟩
              have HR1 := Lib.hid l4
              clear hb1 kx l1 l2 l3 l4 HB KK LA LB LIN BXa BXb
              obtain ⟨a0, a1, a2, a3, a4, a5, a6, f0, f1, f2, f3, f4, f5, f6⟩ := seven BXb1.out
              clear f0 f1 f2 f3 f4 f5 f6
              go_wp2_with fail
              clear a0 a1 a2 a3 a4 a5 a6
              have HA := addState4 (lsA s A2 D2 Z2 c2 d2 z2 cells2) s.turn s.whose s.fin s.winner HB1.out (by have h1 := HQ1.out.1; omega) (by have h1 := HQ1.out.2.1; omega) (by have h1 := HQ1.out.2.2; omega) (by rw [HQ1.out.1]; rfl) (by rw [HQ1.out.2.1]; rfl) (by rw [HQ1.out.2.2]; rfl) HZ.out.2 LB1.out (fun i q hq hl => next_b HR1.out hl hq)
              simp only [lsA] at HA
              refine HA.mono ?_
              clear HA
              rintro e wx2 ⟨rfl, ri2, rp2, rc2, rr2, Ai2, Ap2, Ac2, Ar2, ci2, cp2, cc2, cr2, hb2, l1, l2, l3, l4, kx⟩
              have HB2 := Lib.hid hb2
              have hq2 : rc2.length = 2 := by rw [l2, HQ1.out.2.1]
              have KK2 := Lib.hid (KK1.out.and kx (fun b hb hs => by have := hs.1; have := HN.out.2.2; omega))
              have LIN2 := Lib.hid (LIN1.out.bagS kx HZ1.out)
              have HZ2 := Lib.hid (Nat.le_trans HZ1.out kx.size)
              have HQ2 := Lib.hid hq2
              clear hb2 kx l1 l2 l3 l4 HB1 KK1 HQ1 LB1 LIN1 BXb1 HR1 hq2 HZ1
              go_wp2_with fail
              go_loopw [15] (fun vi wr => ∃ (i : Nat) (ri rp rc rr : List Sl) (Ai Ap Ac Ar : Option Addr) (ci cp cc cr : Nat), i ≤ decks.length ∧ vi = .int .i64 i ∧ Hid (Bag4 wr p ((lsA s A1 D1 Z1 c1 d1 z1 cells1).rows ++ ((lsA s A2 D2 Z2 c2 d2 z2 cells2).rows ++ [])) ([(lsA s A1 D1 Z1 c1 d1 z1 cells1).ps] ++ ([(lsA s A2 D2 Z2 c2 d2 z2 cells2).ps] ++ [])) ([(lsA s A1 D1 Z1 c1 d1 z1 cells1).cs] ++ ([(lsA s A2 D2 Z2 c2 d2 z2 cells2).cs] ++ ins)) ([(lsA s A1 D1 Z1 c1 d1 z1 cells1).zs] ++ ([(lsA s A2 D2 Z2 c2 d2 z2 cells2).zs] ++ [])) ri rp rc rr Ai Ap Ac Ar ci cp cc cr) ∧ Hid (rc.length = min 400 (2 + i)) ∧ Hid (Lies wr p A' (vals ins)) ∧ Hid (Keeps (fun _ => False) w wr) ∧ Hid (p ≤ wr.heap.size)) (fun vi _ => decks.length - (intOf vi).toNat)
              case atStart => exact ⟨0, ri2, rp2, rc2, rr2, Ai2, Ap2, Ac2, Ar2, ci2, cp2, cc2, cr2, by omega, rfl, HB2, Lib.hid (by rw [HQ2.out]; rfl), LIN2, KK2, HZ2⟩
              case round =>
                clear HB2 KK2 LIN2 HZ2 HQ2
                obtain ⟨i, ri, rp, rc, rr, Ai, Ap, Ac, Ar, ci, cp, cc, cr, hi, rfl, HB, HRC, LI, KK, HP⟩ := hrel
                by_cases hlt : i < decks.length
                · have hq : ins[i]? = some (ins[i]'(by rw [HINS.out]; exact hlt)) := List.getElem?_eq_getElem _
                  obtain ⟨g, off, hA', hg, hcl⟩ := LI.out i _ (vals_get hq)
                  subst hA'
                  have HAC := addCards4 (ins[i]'(by rw [HINS.out]; exact hlt)) HB.out (fun hl => by
                    have h1 := HRC.out
                    have h2 : rc.length = i + 1 + 1 := by omega
                    rw [h2]
                    exact hq)
                  clear hq
                  generalize (ins[i]'(by rw [HINS.out]; exact hlt)) = q at *
                  unfold Sl.val at hcl
                  have HAD := Lib.hid HAC
                  clear HAC
                  go_wp2_with fail
                  refine HAD.out.mono ?_
                  rintro e wx ⟨rfl, rc', Ac', cc', hb, hl, kx⟩
                  have HB' := Lib.hid hb
                  have HRC' : Hid (rc'.length = min 400 (2 + (i + 1))) := Lib.hid (by have := HRC.out; rw [hl]; split <;> omega)
                  have LI' := Lib.hid (LI.out.bagS kx HP.out)
                  have KK' := Lib.hid (KK.out.and kx (fun b hb hs => by have := hs.1; have := HN.out.2.2; omega))
                  have HP' := Lib.hid (Nat.le_trans HP.out kx.size)
                  clear hb hl kx HB HRC LI KK HP HAD hcl hg
                  go_wp2_with fail
                  go_roundw
                  case rel => exact ⟨i + 1, ri, rp, rc', rr, Ai, Ap, Ac', Ar, ci, cp, cc', cr, by omega, by go_num, HB', HRC', LI', KK', HP'⟩
                  case measure => simp [intOf]; omega
                · obtain rfl : i = decks.length := by omega
                  clear hlt hi LI HRC
                  go_wp2_with fail
                  refine (apart4 HB.out).mono ?_
                  rintro e wx4 ⟨rfl, kx⟩
                  have KK4 := Lib.hid (HB.out.keep2 LSA.out LSB.out INB.out (n := w.heap.size + 1) (by have := HS0.out; have := HN.out.1; omega) (by have := HS0.out; have := HN.out.1; omega) (Nat.le_refl _) KK.out kx (Nat.le_succ _))
                  clear kx HB KK HP HN HZ HS0 INB LSA LSB
                  go_wp2_with fail
                  refine (works_any wx4).mono ?_
                  rintro e wx5 ⟨rfl, kx⟩
                  have KK5 := Lib.hid (KK4.out.trans kx)
                  clear kx KK4
                  go_wp2_with fail
                  go_ret
                  exact ⟨rfl, KK5.out⟩
end Go.Proofs.YtgbikcliembkcaaDoor
