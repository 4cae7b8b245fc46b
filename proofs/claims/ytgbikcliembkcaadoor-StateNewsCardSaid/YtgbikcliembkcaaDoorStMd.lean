/-
  The lists of a state in memory of their own, for the bag: plain laws. Conditions: none.
-/
import Derived.Test.YtgbikcliembkcaaDoorStMc
import Derived.Test.YtgbikcliembkcaaDoorStMb
import Derived.Test.YtgbikcliembkcaaDoorStX
namespace Go.Proofs.YtgbikcliembkcaaDoor
open Go.RowKit
def slOf : Value → Sl
  | .slice A n c => ⟨A, n, c⟩
  | _ => ⟨none, 0, 0⟩
/-- A state's lists, each in memory of its own, in blocks from lo on and below hi. -/
structure ListsAt (w : World) (lo hi : Nat) (x : Lists) : Prop where
  ps : ∃ xs, w.ownsRow 0 72 3 x.ps.val x.ps.len xs
  cs : ∃ xs, w.ownsRow 0 68 6 x.cs.val x.cs.len xs
  zs : ∃ xs, w.ownsRow 0 74 1 x.zs.val x.zs.len xs
  rows : ∀ (i : Nat) (q : Sl), x.rows[i]? = some q → (∃ xs, w.ownsRow 0 3 1 q.val q.len xs) ∧ (∀ b, q.blk = some b → lo ≤ b ∧ b < hi) ∧ q.len ≤ 1000000000
  ap : ∀ (i j : Nat) (q r : Sl) (b : Nat), x.rows[i]? = some q → x.rows[j]? = some r → q.blk = some b → r.blk = some b → i = j
  bps : ∀ b, x.ps.blk = some b → lo ≤ b ∧ b < hi
  bcs : ∀ b, x.cs.blk = some b → lo ≤ b ∧ b < hi
  bzs : ∀ b, x.zs.blk = some b → lo ≤ b ∧ b < hi
  len : x.rows.length = x.zs.len
  lies : Lies w hi x.zs.at_ (vals x.rows)
  lps : x.ps.len ≤ 1000000000
  lcs : x.cs.len ≤ 1000000000
  lzs : x.zs.len ≤ 1000000000
theorem ListsAt.calm {w w' : World} {lo hi : Nat} {x : Lists} (h : ListsAt w lo hi x) (hk : Keeps (fun _ => False) w w') (hh : hi ≤ w.heap.size) : ListsAt w' lo hi x :=
  ⟨by obtain ⟨xs, hx⟩ := h.ps; exact ⟨xs, own_keepsS hx hk (fun _ _ h => h)⟩, by obtain ⟨xs, hx⟩ := h.cs; exact ⟨xs, own_keepsS hx hk (fun _ _ h => h)⟩, by obtain ⟨xs, hx⟩ := h.zs; exact ⟨xs, own_keepsS hx hk (fun _ _ h => h)⟩,
   fun i q hq => by obtain ⟨⟨xs, hx⟩, h2⟩ := h.rows i q hq; exact ⟨⟨xs, own_keepsS hx hk (fun _ _ h => h)⟩, h2⟩, h.ap, h.bps, h.bcs, h.bzs, h.len, h.lies.keep (fun b o hb => hk.cell (by omega) id), h.lps, h.lcs, h.lzs⟩
theorem ListsAt.of_copy {w : World} {lo : Nat} {s : St} {Ap Ac Az : Option Addr} {cp cc cz : Nat} {cells : List Value} (h : CopyIn w lo s Ap Ac Az cp cc cz cells) (ha : Apt cells) (hs : StSmall s) : ListsAt w lo w.heap.size ⟨⟨Ap, s.players.length, cp⟩, ⟨Ac, s.cards.length, cc⟩, ⟨Az, s.zones.length, cz⟩, cells.map slOf⟩ := by
  have hl : cells.length = s.zones.length := own_length h.zones.own
  have hc : ∀ (i : Nat) (q : Sl), (cells.map slOf)[i]? = some q → ∃ (r : List Int) (Ai : Option Addr) (ci : Nat), s.zones[i]? = some r ∧ q = ⟨Ai, r.length, ci⟩ ∧ cells[i]? = some (.slice Ai r.length ci) ∧ w.ownsRow lo 3 1 (.slice Ai r.length ci) r.length (r.map (Value.int .i64)) := fun i q hq => by
    rw [List.getElem?_map, Option.map_eq_some_iff] at hq
    obtain ⟨u, hu, rfl⟩ := hq
    have hi := (List.getElem?_eq_some_iff.1 hu).1
    obtain ⟨Ai, ci, h1, h2⟩ := h.zones.row i s.zones[i] (List.getElem?_eq_getElem (by omega))
    rw [hu] at h1
    injection h1 with h1
    subst h1
    exact ⟨s.zones[i], Ai, ci, List.getElem?_eq_getElem (by omega), rfl, hu, h2⟩
  refine ⟨⟨_, own_base h.players (fun _ _ => Nat.zero_le _)⟩, ⟨_, own_base h.cards (fun _ _ => Nat.zero_le _)⟩, ⟨_, own_base h.zones.own (fun _ _ => Nat.zero_le _)⟩, fun i q hq => ?_, fun i j q r b hq hr hb hb' => ?_, fun b hb => h.players.lt b hb, fun b hb => h.cards.lt b hb, fun b hb => h.zones.own.lt b hb, by simp [hl], ?_, hs.players, hs.cards, hs.zones⟩
  · obtain ⟨r, Ai, ci, h1, rfl, h3, h4⟩ := hc i q hq
    exact ⟨⟨_, own_base h4 (fun _ _ => Nat.zero_le _)⟩, fun b hb => h4.lt b hb, hs.rows r (List.mem_of_getElem? h1)⟩
  · obtain ⟨_, Ai, ci, _, rfl, h3, _⟩ := hc i q hq
    obtain ⟨_, Aj, cj, _, rfl, h5, _⟩ := hc j r hr
    exact ha i j _ _ b h3 h5 hb hb'
  · intro k u hu
    obtain ⟨q, hq, rfl⟩ : ∃ q, (cells.map slOf)[k]? = some q ∧ q.val = u := by
      rw [vals, List.getElem?_map, Option.map_eq_some_iff] at hu
      exact hu
    obtain ⟨r, Ai, ci, _, rfl, h3, _⟩ := hc k q hq
    exact own_lies_n h.zones.own k _ h3
theorem own_whole_ex {w : World} {g n cap s : Nat} {e : TypeId} {cur : Array Value} (h : Whole w g e cur) (hsz : cur.size = cap * s) (hn : n ≤ cap) (hm : cap ≤ maxLen) : ∃ xs, w.ownsRow 0 e s (.slice (some ⟨g, 0, none⟩) n cap) n xs :=
  ⟨cur.toList.take (n * s), by rw [List.length_take, Array.length_toList, hsz]; exact Nat.min_eq_left (Nat.mul_le_mul_right _ hn), .inr ⟨g, cap, cur, rfl, Nat.zero_le _, h, hn, hm, hsz, rfl⟩⟩
theorem ListsAt.of_wide {w : World} {lo : Nat} {s : St} {gp gc gz : Nat} {cs : Array Value} {bs : Nat → Nat} (h : WideIn w lo s gp gc gz cs bs) (hs : StSmall s) : ListsAt w lo w.heap.size ⟨⟨some ⟨gp, 0, none⟩, s.players.length, s.players.length + 64⟩, ⟨some ⟨gc, 0, none⟩, s.cards.length, s.cards.length + 64⟩, ⟨some ⟨gz, 0, none⟩, s.zones.length, s.zones.length + 64⟩, (List.range s.zones.length).map (fun j => ⟨some ⟨bs j, 0, none⟩, (s.zones.getD j []).length, (wideL (s.zones.getD j [])).length⟩)⟩ := by
  have h1 := hs.players
  have h2 := hs.cards
  have h3 := hs.zones
  have hc : ∀ (i : Nat) (q : Sl), ((List.range s.zones.length).map (fun j => (⟨some ⟨bs j, 0, none⟩, (s.zones.getD j []).length, (wideL (s.zones.getD j [])).length⟩ : Sl)))[i]? = some q → ∃ r : List Int, s.zones[i]? = some r ∧ q = ⟨some ⟨bs i, 0, none⟩, r.length, (wideL r).length⟩ ∧ cs[i]? = some (.slice (some ⟨bs i, 0, none⟩) r.length (wideL r).length) ∧ Whole w (bs i) 3 (ints (wideL r)) ∧ gz < bs i := fun i q hq => by
    rw [List.getElem?_map, Option.map_eq_some_iff] at hq
    obtain ⟨j, hj, rfl⟩ := hq
    obtain ⟨hi1, hi2⟩ := List.getElem?_eq_some_iff.1 hj
    rw [List.length_range] at hi1
    obtain rfl : i = j := by simpa using hi2
    have hr : s.zones[i]? = some s.zones[i] := List.getElem?_eq_getElem hi1
    obtain ⟨h4, h5, h6⟩ := h.zones.row i _ (by omega) (wideR_low s.zones i _ hr)
    refine ⟨s.zones[i], hr, ?_, h4, h5, h6⟩
    simp [List.getD, hr]
  refine ⟨own_whole_ex h.players (by rw [List.size_toArray, flat_length (k := 3) (fun _ => rfl), widePl_length]) (Nat.le_add_right _ _) (by show s.players.length + 64 ≤ maxLen; simp only [maxLen]; omega), own_whole_ex h.cards (by rw [List.size_toArray, flat_length (k := 6) (fun _ => rfl), wideCd_length]) (Nat.le_add_right _ _) (by show s.cards.length + 64 ≤ maxLen; simp only [maxLen]; omega), own_whole_ex h.zones.whole (by rw [h.zones.size, wideR_length, Nat.mul_one]) (Nat.le_add_right _ _) (by show s.zones.length + 64 ≤ maxLen; simp only [maxLen]; omega), fun i q hq => ?_, fun i j q r b hq hr hb hb' => ?_, fun b hb => ?_, fun b hb => ?_, fun b hb => ?_, by simp, ?_, h1, h2, h3⟩
  · obtain ⟨r, hr, rfl, h4, h5, h6⟩ := hc i q hq
    have hrl := hs.rows r (List.mem_of_getElem? hr)
    refine ⟨own_whole_ex h5 (by simp [ints]) (by show r.length ≤ (wideL r).length; rw [wideL_length]; omega) (by show (wideL r).length ≤ maxLen; rw [wideL_length]; simp only [maxLen]; omega), fun b hb => ?_, hrl⟩
    have hb : bs i = b := by injection hb
    have := h.newz
    have := h5.inside
    omega
  · obtain ⟨_, _, rfl, _, _, _⟩ := hc i q hq
    obtain ⟨_, _, rfl, _, _, _⟩ := hc j r hr
    have hb : bs i = b := by injection hb
    have hb' : bs j = b := by injection hb'
    have hi := (List.getElem?_eq_some_iff.1 hq).1
    have hj := (List.getElem?_eq_some_iff.1 hr).1
    simp only [List.length_map, List.length_range] at hi hj
    rcases Nat.lt_trichotomy i j with h7 | h7 | h7
    · have := h.zones.rise i j h7 (by omega); omega
    · exact h7
    · have := h.zones.rise j i h7 (by omega); omega
  · have hb : gp = b := by injection hb
    have := h.newp; have := h.players.inside; omega
  · have hb : gc = b := by injection hb
    have := h.newc; have := h.cards.inside; omega
  · have hb : gz = b := by injection hb
    have := h.newz; have := h.zones.whole.inside; omega
  · intro k u hu
    obtain ⟨q, hq, rfl⟩ : ∃ q, ((List.range s.zones.length).map (fun j => (⟨some ⟨bs j, 0, none⟩, (s.zones.getD j []).length, (wideL (s.zones.getD j [])).length⟩ : Sl)))[k]? = some q ∧ q.val = u := by
      rw [vals, List.getElem?_map, Option.map_eq_some_iff] at hu
      exact hu
    obtain ⟨r, _, rfl, h4, _, _⟩ := hc k q hq
    exact ⟨gz, 0, rfl, h.zones.whole.inside, by rw [Nat.zero_add, h.zones.whole.cellAt, h4]; rfl⟩
theorem SlRows.cat {t : TypeId} {s m : Nat} {r1 r2 : List Sl} {w : World} (h1 : SlRows t s r1 w) (h2 : SlRows t s r2 w) (b1 : ∀ b, blks r1 b → b < m) (b2 : ∀ b, blks r2 b → m ≤ b) : SlRows t s (r1 ++ r2) w := by
  have hg : ∀ {k : Nat} {r : Sl}, (r1 ++ r2)[k]? = some r → (k < r1.length ∧ r1[k]? = some r) ∨ (r1.length ≤ k ∧ r2[k - r1.length]? = some r) := fun {k r} hr => by
    rcases Nat.lt_or_ge k r1.length with h | h
    · rw [List.getElem?_append_left h] at hr; exact .inl ⟨h, hr⟩
    · rw [List.getElem?_append_right h] at hr; exact .inr ⟨h, hr⟩
  refine ⟨fun k r hr => ?_, fun j k r q b hr hq hb hb' => ?_⟩
  · rcases hg hr with ⟨_, h⟩ | ⟨_, h⟩
    · exact h1.own _ r h
    · exact h2.own _ r h
  · rcases hg hr with ⟨l1, h⟩ | ⟨l1, h⟩ <;> rcases hg hq with ⟨l2, h'⟩ | ⟨l2, h'⟩
    · exact h1.apart j k r q b h h' hb hb'
    · have := b1 b ⟨_, r, h, hb⟩; have := b2 b ⟨_, q, h', hb'⟩; omega
    · have := b1 b ⟨_, q, h', hb'⟩; have := b2 b ⟨_, r, h, hb⟩; omega
    · have := h2.apart _ _ r q b h h' hb hb'; omega
theorem blks_cat {r1 r2 : List Sl} {b : Nat} (h : blks (r1 ++ r2) b) : blks r1 b ∨ blks r2 b := by
  obtain ⟨k, r, hr, hb⟩ := h
  rcases Nat.lt_or_ge k r1.length with h | h
  · rw [List.getElem?_append_left h] at hr; exact .inl ⟨k, r, hr, hb⟩
  · rw [List.getElem?_append_right h] at hr; exact .inr ⟨_, r, hr, hb⟩
theorem SlRows.one {t : TypeId} {s : Nat} {r : Sl} {w : World} (h : ∃ xs, w.ownsRow 0 t s r.val r.len xs) : SlRows t s [r] w := by
  have hg : ∀ {k : Nat} {q : Sl}, [r][k]? = some q → k = 0 ∧ q = r := fun {k q} hq => by
    match k with
    | 0 => injection hq with hq; exact ⟨rfl, hq.symm⟩
    | k + 1 => simp at hq
  exact ⟨fun k q hq => by obtain ⟨_, rfl⟩ := hg hq; exact h, fun j k q q' b hq hq' _ _ => by have := (hg hq).1; have := (hg hq').1; omega⟩
theorem blks_one {r : Sl} {b : Nat} (h : blks [r] b) : r.blk = some b := by
  obtain ⟨k, q, hq, hb⟩ := h
  match k with
  | 0 => injection hq with hq; rw [hq]; exact hb
  | k + 1 => simp at hq
end Go.Proofs.YtgbikcliembkcaaDoor
/-
  A new bag, and three states that will be laid into it. Conditions: none.
-/
namespace Go.Proofs.YtgbikcliembkcaaDoor
open Go.RowKit
theorem SlRows.catd {t : TypeId} {s : Nat} {r1 r2 : List Sl} {w : World} (h1 : SlRows t s r1 w) (h2 : SlRows t s r2 w) (hd : ∀ b, blks r1 b → ¬ blks r2 b) : SlRows t s (r1 ++ r2) w := by
  have hg : ∀ {k : Nat} {r : Sl}, (r1 ++ r2)[k]? = some r → (k < r1.length ∧ r1[k]? = some r) ∨ (r1.length ≤ k ∧ r2[k - r1.length]? = some r) := fun {k r} hr => by
    rcases Nat.lt_or_ge k r1.length with h | h
    · rw [List.getElem?_append_left h] at hr; exact .inl ⟨h, hr⟩
    · rw [List.getElem?_append_right h] at hr; exact .inr ⟨h, hr⟩
  refine ⟨fun k r hr => ?_, fun j k r q b hr hq hb hb' => ?_⟩
  · rcases hg hr with ⟨_, h⟩ | ⟨_, h⟩
    · exact h1.own _ r h
    · exact h2.own _ r h
  · rcases hg hr with ⟨l1, h⟩ | ⟨l1, h⟩ <;> rcases hg hq with ⟨l2, h'⟩ | ⟨l2, h'⟩
    · exact h1.apart j k r q b h h' hb hb'
    · exact absurd ⟨_, q, h', hb'⟩ (hd b ⟨_, r, h, hb⟩)
    · exact absurd ⟨_, r, h, hb⟩ (hd b ⟨_, q, h', hb'⟩)
    · have := h2.apart _ _ r q b h h' hb hb'; omega
/-- Three lists of lists in three stretches of memory. -/
theorem rows3 {t : TypeId} {s la ha lb hb lc hc : Nat} {ra rb rc : List Sl} {w : World} (A : SlRows t s ra w) (B : SlRows t s rb w) (C : SlRows t s rc w) (iA : ∀ b, blks ra b → la ≤ b ∧ b < ha) (iB : ∀ b, blks rb b → lb ≤ b ∧ b < hb) (iC : ∀ b, blks rc b → lc ≤ b ∧ b < hc) (h1 : hc ≤ la) (h2 : ha ≤ lb) (h0 : hc ≤ lb) :
    SlRows t s (ra ++ (rb ++ rc)) w := by
  refine A.catd (B.catd C fun b h h' => ?_) fun b h h' => ?_
  · have := iB b h; have := iC b h'; omega
  · rcases blks_cat h' with h' | h'
    · have := iA b h; have := iB b h'; omega
    · have := iA b h; have := iC b h'; omega
theorem low3 {la ha lb hb lc hc p : Nat} {ra rb rc : List Sl} (iA : ∀ b, blks ra b → la ≤ b ∧ b < ha) (iB : ∀ b, blks rb b → lb ≤ b ∧ b < hb) (iC : ∀ b, blks rc b → lc ≤ b ∧ b < hc) (h1 : ha ≤ p) (h2 : hb ≤ p) (h3 : hc ≤ p) : ∀ b, blks (ra ++ (rb ++ rc)) b → b < p := fun b h => by
  rcases blks_cat h with h | h
  · have := iA b h; omega
  · rcases blks_cat h with h | h
    · have := iB b h; omega
    · have := iC b h; omega
theorem len3 {ra rb rc : List Sl} {P : Sl → Prop} (A : ∀ (k : Nat) (r : Sl), ra[k]? = some r → P r) (B : ∀ (k : Nat) (r : Sl), rb[k]? = some r → P r) (C : ∀ (k : Nat) (r : Sl), rc[k]? = some r → P r) (k : Nat) (r : Sl) (h : (ra ++ (rb ++ rc))[k]? = some r) : P r := by
  have hm := List.mem_of_getElem? h
  rcases List.mem_append.1 hm with hm | hm
  · obtain ⟨j, hj⟩ := List.getElem?_of_mem hm; exact A j r hj
  · rcases List.mem_append.1 hm with hm | hm
    · obtain ⟨j, hj⟩ := List.getElem?_of_mem hm; exact B j r hj
    · obtain ⟨j, hj⟩ := List.getElem?_of_mem hm; exact C j r hj
theorem one_all {r : Sl} {P : Sl → Prop} (h : P r) (k : Nat) (q : Sl) (hq : [r][k]? = some q) : P q := by
  match k with
  | 0 => injection hq with hq; rw [← hq]; exact h
  | k + 1 => simp at hq
section
variable {w : World} {lo hi : Nat} {x : Lists}
theorem ListsAt.iRows (h : ListsAt w lo hi x) : ∀ b, blks x.rows b → lo ≤ b ∧ b < hi := fun b hb => by
  obtain ⟨k, r, hr, hb⟩ := hb
  exact (h.rows k r hr).2.1 b hb
theorem ListsAt.sRows (h : ListsAt w lo hi x) : SlRows 3 1 x.rows w := ⟨fun k r hr => (h.rows k r hr).1, fun j k r q b hr hq hb hb' => h.ap j k r q b hr hq hb hb'⟩
end
theorem Bag4.start3 {w : World} {la ha lb hb lc hc : Nat} {a b c : Lists} (A : ListsAt w la ha a) (B : ListsAt w lb hb b) (C : ListsAt w lc hc c) (h1 : hc ≤ la) (h2 : ha ≤ lb) (h0 : hc ≤ lb) (h3 : hb ≤ w.heap.size) (h4 : ha ≤ w.heap.size) (h5 : hc ≤ w.heap.size) :
    Bag4 (w.alloc (.cells (bag4 (.slice none 0 0) (.slice none 0 0) (.slice none 0 0) (.slice none 0 0)) 60)) w.heap.size (a.rows ++ (b.rows ++ c.rows)) ([a.ps] ++ ([b.ps] ++ [c.ps])) ([a.cs] ++ ([b.cs] ++ [c.cs])) ([a.zs] ++ ([b.zs] ++ [c.zs])) [] [] [] [] none none none none 0 0 0 0 := by
  have hk : Keeps (fun _ => False) w (w.alloc (.cells (bag4 (.slice none 0 0) (.slice none 0 0) (.slice none 0 0) (.slice none 0 0)) 60)) := (Keeps.refl _ _).alloc _
  have A' := A.calm hk h4
  have B' := B.calm hk h3
  have C' := C.calm hk h5
  have o : ∀ {lo hi : Nat} {r : Sl}, (∀ b, r.blk = some b → lo ≤ b ∧ b < hi) → ∀ b, blks [r] b → lo ≤ b ∧ b < hi := fun h b hb => h b (blks_one hb)
  exact ⟨Whole.made _ _ _,
    BagK1.nil _ _ _ _ _ _ (rows3 A'.sRows B'.sRows C'.sRows A.iRows B.iRows C.iRows h1 h2 h0) (low3 A.iRows B.iRows C.iRows h4 h3 h5) (len3 (P := fun r => r.len ≤ 1000000000) (fun k r hr => (A.rows k r hr).2.2) (fun k r hr => (B.rows k r hr).2.2) (fun k r hr => (C.rows k r hr).2.2)),
    BagK1.nil _ _ _ _ _ _ (rows3 (SlRows.one A'.ps) (SlRows.one B'.ps) (SlRows.one C'.ps) (o A.bps) (o B.bps) (o C.bps) h1 h2 h0) (low3 (o A.bps) (o B.bps) (o C.bps) h4 h3 h5) (len3 (P := fun r => r.len ≤ 1000000000) (one_all A.lps) (one_all B.lps) (one_all C.lps)),
    BagK1.nil _ _ _ _ _ _ (rows3 (SlRows.one A'.cs) (SlRows.one B'.cs) (SlRows.one C'.cs) (o A.bcs) (o B.bcs) (o C.bcs) h1 h2 h0) (low3 (o A.bcs) (o B.bcs) (o C.bcs) h4 h3 h5) (len3 (P := fun r => r.len ≤ 1000000000) (one_all A.lcs) (one_all B.lcs) (one_all C.lcs)),
    BagK1.nil _ _ _ _ _ _ (rows3 (SlRows.one A'.zs) (SlRows.one B'.zs) (SlRows.one C'.zs) (o A.bzs) (o B.bzs) (o C.bzs) h1 h2 h0) (low3 (o A.bzs) (o B.bzs) (o C.bzs) h4 h3 h5) (len3 (P := fun r => r.len ≤ 1000000000) (one_all A.lzs) (one_all B.lzs) (one_all C.lzs))⟩
end Go.Proofs.YtgbikcliembkcaaDoor
/-
  Three states laid into a bag: which rows come next, and where what Apart writes over lies: plain laws. Conditions: none.
-/
namespace Go.Proofs.YtgbikcliembkcaaDoor
open Go.RowKit
theorem above3 {la ha lb hb lc hc n : Nat} {ra rb rc : List Sl} (iA : ∀ b, blks ra b → la ≤ b ∧ b < ha) (iB : ∀ b, blks rb b → lb ≤ b ∧ b < hb) (iC : ∀ b, blks rc b → lc ≤ b ∧ b < hc) (h1 : n ≤ la) (h2 : n ≤ lb) (h3 : n ≤ lc) : ∀ b, blks (ra ++ (rb ++ rc)) b → n ≤ b := fun b h => by
  rcases blks_cat h with h | h
  · have := iA b h; omega
  · rcases blks_cat h with h | h
    · have := iB b h; omega
    · have := iC b h; omega
theorem Bag4.above {w : World} {p n : Nat} {pi pp pc pr ri rp rc rr : List Sl} {Ai Ap Ac Ar : Option Addr} {ci cp cc cr : Nat} (h : Bag4 w p pi pp pc pr ri rp rc rr Ai Ap Ac Ar ci cp cc cr) (hi : ∀ b, blks pi b → n ≤ b) (hp : ∀ b, blks pp b → n ≤ b) (hc : ∀ b, blks pc b → n ≤ b) (hr : ∀ b, blks pr b → n ≤ b) : ∀ b, aparts ri rp rc rr b → n ≤ b := fun b hb => by
  rcases hb with (((h0 | h0) | h0) | h0) | h0
  · exact h0.elim
  · exact hi b (blks_sub h.i.pre h0)
  · exact hp b (blks_sub h.p'.pre h0)
  · exact hc b (blks_sub h.c.pre h0)
  · exact hr b (blks_sub h.r.pre h0)
/-- What lies in the bag behind three states lies in the states' memory. -/
structure Above (n : Nat) (a b c : Lists) : Prop where
  ii : ∀ k, blks (a.rows ++ (b.rows ++ c.rows)) k → n ≤ k
  pp : ∀ k, blks ([a.ps] ++ ([b.ps] ++ [c.ps])) k → n ≤ k
  cc : ∀ k, blks ([a.cs] ++ ([b.cs] ++ [c.cs])) k → n ≤ k
  rr : ∀ k, blks ([a.zs] ++ ([b.zs] ++ [c.zs])) k → n ≤ k
theorem Above.of {w : World} {la ha lb hb lc hc n : Nat} {a b c : Lists} (A : ListsAt w la ha a) (B : ListsAt w lb hb b) (C : ListsAt w lc hc c) (h1 : n ≤ la) (h2 : n ≤ lb) (h3 : n ≤ lc) : Above n a b c := by
  have o : ∀ {lo hi : Nat} {r : Sl}, (∀ b, r.blk = some b → lo ≤ b ∧ b < hi) → ∀ b, blks [r] b → lo ≤ b ∧ b < hi := fun h b hb => h b (blks_one hb)
  exact ⟨above3 A.iRows B.iRows C.iRows h1 h2 h3, above3 (o A.bps) (o B.bps) (o C.bps) h1 h2 h3, above3 (o A.bcs) (o B.bcs) (o C.bcs) h1 h2 h3, above3 (o A.bzs) (o B.bzs) (o C.bzs) h1 h2 h3⟩
theorem Bag4.keep {w w0 w1 : World} {p n : Nat} {ri rp rc rr : List Sl} {Ai Ap Ac Ar : Option Addr} {ci cp cc cr : Nat} {a b c : Lists} (h : Bag4 w p (a.rows ++ (b.rows ++ c.rows)) ([a.ps] ++ ([b.ps] ++ [c.ps])) ([a.cs] ++ ([b.cs] ++ [c.cs])) ([a.zs] ++ ([b.zs] ++ [c.zs])) ri rp rc rr Ai Ap Ac Ar ci cp cc cr) (ha : Above n a b c) (k : Keeps (fun _ => False) w0 w) (k1 : Keeps (aparts ri rp rc rr) w w1) (hn : w0.heap.size ≤ n) : Keeps (fun _ => False) w0 w1 :=
  k.and k1 (fun b hb hs => by have := h.above ha.ii ha.pp ha.cc ha.rr b hs; omega)
section
variable {a b c : List Sl} {n i : Nat} {q : Sl}
theorem next_a (h : a[i]? = some q) : (a ++ (b ++ c))[([] : List Sl).length + i]? = some q := by
  rw [List.length_nil, Nat.zero_add, List.getElem?_append_left (List.getElem?_eq_some_iff.1 h).1]
  exact h
theorem next_b (hn : n = min 400 (0 + a.length)) (hl : n + i < 400) (h : b[i]? = some q) : (a ++ (b ++ c))[n + i]? = some q := by
  have h1 : n = a.length := by omega
  rw [h1, List.getElem?_append_right (Nat.le_add_right _ _), Nat.add_sub_cancel_left, List.getElem?_append_left (List.getElem?_eq_some_iff.1 h).1]
  exact h
theorem next_c {m : Nat} (hm : m = min 400 (0 + a.length)) (hn : n = min 400 (m + b.length)) (hl : n + i < 400) (h : c[i]? = some q) : (a ++ (b ++ c))[n + i]? = some q := by
  have h1 : n = a.length + b.length := by omega
  rw [h1, List.getElem?_append_right (by omega), List.getElem?_append_right (by omega), show a.length + b.length + i - a.length - b.length = i by omega]
  exact h
end
theorem Lies.up {w : World} {B B' : Nat} {A : Option Addr} {xs : List Value} (h : Lies w B A xs) (hB : B ≤ B') : Lies w B' A xs := fun k u hu => by
  obtain ⟨b, o, h1, h2, h3⟩ := h k u hu
  exact ⟨b, o, h1, by omega, h3⟩
theorem Lies.bagS {w w' : World} {p : Nat} {A : Option Addr} {xs : List Value} (h : Lies w p A xs) (hk : Keeps (BagS p w) w w') (hp : p ≤ w.heap.size) : Lies w' p A xs := h.keep fun b o hb => hk.cell (by omega) (fun hs => by have := hs.1; omega)
end Go.Proofs.YtgbikcliembkcaaDoor
/-
  state.Same: the walks of slices.Equal, slices.EqualFunc and of Same. Conditions: lengths within 10 ^ 9.
-/
namespace Go.Proofs.YtgbikcliembkcaaDoor
open Go.RowKit
set_option maxHeartbeats 400000 in
theorem equalI_any (x y : List Int) (A A' : Option Addr) (B B' cap cap' : Nat) (w : World) (hx : Lies w B A (x.map (Value.int .i64))) (hy : Lies w B' A' (y.map (Value.int .i64))) (hm : x.length ≤ 9223372036854775807) :
    Calls Tryd.prog 61 #[.slice A x.length cap, .slice A' y.length cap'] w fun e w' => e = .returned (.bool (decide (x = y))) ∧ ∃ n, w' = w.drewN n := by
  by_cases hlen : x.length = y.length
  · go_enter Tryd.func61, Tryd.ntmps61
    go_wp2
    go_loopw [13] (fun i wr => ∃ k d : Nat, k ≤ x.length ∧ i = .int .i64 k ∧ x.take k = y.take k ∧ wr = w.drewN d) (fun i _ => x.length - (intOf i).toNat)
    case atStart => exact ⟨0, 0, by omega, rfl, rfl, rfl⟩
    case round =>
      obtain ⟨k, d, hk, rfl, heq, rfl⟩ := hrel
      have HE := Lib.hid heq; clear heq
      by_cases hlt : k < x.length
      · have hlt' : k < y.length := by omega
        obtain ⟨g, off, rfl, _, hc⟩ := hx k _ (map_get x k hlt)
        obtain ⟨g', off', rfl, _, hc'⟩ := hy k _ (map_get y k hlt')
        by_cases hxy : x[k] = y[k]
        · have hs : Hid (x.take (k + 1) = y.take (k + 1)) := Lib.hid (by rw [List.take_succ_eq_append_getElem hlt, List.take_succ_eq_append_getElem hlt', HE.out, hxy])
          have ht : ((x[k] : Int) != y[k]) = false := by rw [hxy]; simp
          have HL := Lib.hid hlen; clear hlen hxy
          go_wp2_with fail
          go_quiet (fail)
          go_wp2
          go_roundw
          case rel => exact ⟨k + 1, _, by omega, by go_num, hs.out, rfl⟩
          case measure => simp [intOf]; omega
        · have ht : ((x[k] : Int) != y[k]) = true := by
            rw [bne_iff_ne]; exact hxy
          have hne : x ≠ y := fun e => hxy (by subst e; rfl)
          go_wp2_with fail
          go_quiet (fail)
          go_wp2
          go_ret
          exact ⟨by simp [hne], _, World.drewN_drewN _ _ _⟩
      · obtain rfl : k = x.length := by omega
        have he : x = y := by have := HE.out; rw [List.take_length, hlen, List.take_length] at this; exact this
        have HF := Lib.hid he; clear he
        go_wp2
        go_ret
        exact ⟨by simp [HF.out], _, rfl⟩
  · have hne : x ≠ y := fun e => hlen (by rw [e])
    go_enter Tryd.func61, Tryd.ntmps61
    go_wp2
    go_ret
    exact ⟨by simp [hne], 0, rfl⟩
set_option maxHeartbeats 1000000 in
theorem equalR_any (x y : List (List Int)) (A A' : Option Addr) (B B' cap cap' : Nat) (w : World) (hx : RowsLie w B A x) (hy : RowsLie w B' A' y) (hm : x.length ≤ 1000000000) (hr : ∀ r ∈ x, r.length ≤ 1000000000) :
    Calls Tryd.prog 60 #[.slice A x.length cap, .slice A' y.length cap', .func (.func 61) #[] #[]] w fun e w' => e = .returned (.bool (decide (x = y))) ∧ ∃ n, w' = w.drewN n := by
  by_cases hlen : x.length = y.length
  · go_enter Tryd.func60, Tryd.ntmps60
    go_wp2
    go_loopw [17] (fun i wr => ∃ k d : Nat, k ≤ x.length ∧ i = .int .i64 k ∧ x.take k = y.take k ∧ wr = w.drewN d) (fun i _ => x.length - (intOf i).toNat)
    case atStart => exact ⟨0, 0, by omega, rfl, rfl, rfl⟩
    case round =>
      obtain ⟨k, d, hk, rfl, heq, rfl⟩ := hrel
      have HE := Lib.hid heq; clear heq
      by_cases hlt : k < x.length
      · have hlt' : k < y.length := by omega
        obtain ⟨g, off, Ai, ci, rfl, _, hc, hli⟩ := hx k x[k] (List.getElem?_eq_getElem hlt)
        obtain ⟨g', off', Ai', ci', rfl, _, hc', hli'⟩ := hy k y[k] (List.getElem?_eq_getElem hlt')
        have hrk := hr x[k] (List.getElem_mem hlt)
        have hs : Hid (x[k] = y[k] → x.take (k + 1) = y.take (k + 1)) := Lib.hid (fun e => by rw [List.take_succ_eq_append_getElem hlt, List.take_succ_eq_append_getElem hlt', HE.out, e])
        have hne : Hid (x[k] ≠ y[k] → x ≠ y) := Lib.hid (fun h e => h (by subst e; rfl))
        generalize x[k] = c at *
        generalize y[k] = c' at *
        go_wp2_with fail
        refine (equalI_any c c' _ _ B B' _ _ _ (hli.drewN d) (hli'.drewN d) (by omega)).mono ?_
        rintro e w1 ⟨rfl, n1, rfl⟩
        by_cases hcc : c = c'
        · simp only [decide_eq_true hcc]
          have hs' := Lib.hid (hs.out hcc)
          clear hs hne hcc
          go_wp2
          go_roundw
          case rel => exact ⟨k + 1, _, by omega, by go_num, hs'.out, rfl⟩
          case measure => simp [intOf]; omega
        · simp only [decide_eq_false hcc]
          have hne' := hne.out hcc
          clear hs hne hcc
          go_wp2
          go_ret
          exact ⟨by simp [hne'], _, rfl⟩
      · obtain rfl : k = x.length := by omega
        have he : x = y := by have := HE.out; rw [List.take_length, hlen, List.take_length] at this; exact this
        have HF := Lib.hid he; clear he
        go_wp2
        go_ret
        exact ⟨by simp [HF.out], _, rfl⟩
  · have hne : x ≠ y := fun e => hlen (by rw [e])
    go_enter Tryd.func60, Tryd.ntmps60
    go_wp2
    go_ret
    exact ⟨by simp [hne], 0, rfl⟩
end Go.Proofs.YtgbikcliembkcaaDoor
/-
  state.Same: the walk. Conditions: lengths within 10 ^ 9.
-/
namespace Go.Proofs.YtgbikcliembkcaaDoor
open Go.RowKit
/-- Two states, each in a box. -/
structure SameAt (w wr : World) (s t : St) (Ap Ac Az Ap' Ac' Az' : Option Addr) (cp cc cz cp' cc' cz' B : Nat) : Prop where
  keeps : Keeps (fun _ => False) w wr
  box1 : Whole wr w.heap.size 32 #[.slice Ap s.players.length cp, .slice Ac s.cards.length cc, .slice Az s.zones.length cz, .int .i32 s.turn, .int .i64 s.whose, .int .i8 s.fin, .int .i64 s.winner]
  box2 : Whole wr (w.heap.size + 1) 32 #[.slice Ap' t.players.length cp', .slice Ac' t.cards.length cc', .slice Az' t.zones.length cz', .int .i32 t.turn, .int .i64 t.whose, .int .i8 t.fin, .int .i64 t.winner]
  one : StIn wr B s Ap Ac Az
  two : StIn wr B t Ap' Ac' Az'
theorem SameAt.calm {w wr w' : World} {s t : St} {Ap Ac Az Ap' Ac' Az' : Option Addr} {cp cc cz cp' cc' cz' B : Nat} (h : SameAt w wr s t Ap Ac Az Ap' Ac' Az' cp cc cz cp' cc' cz' B) (hk : Keeps (fun _ => False) wr w') (hB : B ≤ w.heap.size) : SameAt w w' s t Ap Ac Az Ap' Ac' Az' cp cc cz cp' cc' cz' B :=
  ⟨h.keeps.trans hk, h.box1.keeps hk id, h.box2.keeps hk id, h.one.keeps hk (fun _ _ => id) (Nat.le_trans hB h.keeps.size), h.two.keeps hk (fun _ _ => id) (Nat.le_trans hB h.keeps.size)⟩
set_option maxRecDepth 100000 in
set_option maxHeartbeats 4000000 in
theorem same_any (s t : St) (Ap Ac Az Ap' Ac' Az' : Option Addr) (B cp cc cz cp' cc' cz' : Nat) (w : World) (hx : StIn w B s Ap Ac Az) (hy : StIn w B t Ap' Ac' Az') (hB : B ≤ w.heap.size) (hs : StSmall s) :
    Calls Tryd.prog 20 #[stV s Ap Ac Az cp cc cz, stV t Ap' Ac' Az' cp' cc' cz'] w fun e w' => e = .returned (.bool (decide (s = t))) ∧ Keeps (fun _ => False) w w' := by
  unfold stV
  have hK := ((Keeps.refl (fun _ => False) w).alloc (.cells #[.slice Ap s.players.length cp, .slice Ac s.cards.length cc, .slice Az s.zones.length cz, .int .i32 s.turn, .int .i64 s.whose, .int .i8 s.fin, .int .i64 s.winner] 32)).alloc (.cells #[.slice Ap' t.players.length cp', .slice Ac' t.cards.length cc', .slice Az' t.zones.length cz', .int .i32 t.turn, .int .i64 t.whose, .int .i8 t.fin, .int .i64 t.winner] 32)
  have KK := Lib.hid hK
  have XX := Lib.hid (hx.keeps hK (fun _ _ => id) hB)
  have YY := Lib.hid (hy.keeps hK (fun _ _ => id) hB)
  clear hx hy
  by_cases h0 : s.turn = t.turn
  rotate_left
  · have hne : s ≠ t := fun e => h0 (congrArg St.turn e)
    have q0 : (s.turn != t.turn) = true := by rw [bne_iff_ne]; exact h0
    clear h0 hK
    go_enter Tryd.func20, Tryd.ntmps20
    go_wp2_with fail
    go_ret
    exact ⟨by rw [decide_eq_false hne]; rfl, KK.out⟩
  have Q0 : Hid ((s.turn != t.turn) = false) := Lib.hid (by rw [h0]; simp)
  have G0 := Lib.hid h0
  clear h0
  by_cases h1 : s.whose = t.whose
  rotate_left
  · have hne : s ≠ t := fun e => h1 (congrArg St.whose e)
    have q1 : (s.whose != t.whose) = true := by rw [bne_iff_ne]; exact h1
    clear h1 hK
    have q0 := Q0.out
    go_enter Tryd.func20, Tryd.ntmps20
    go_wp2_with fail
    go_ret
    exact ⟨by rw [decide_eq_false hne]; rfl, KK.out⟩
  have Q1 : Hid ((s.whose != t.whose) = false) := Lib.hid (by rw [h1]; simp)
  have G1 := Lib.hid h1
  clear h1
  by_cases h2 : s.fin = t.fin
  rotate_left
  · have hne : s ≠ t := fun e => h2 (congrArg St.fin e)
    have q2 : (s.fin != t.fin) = true := by rw [bne_iff_ne]; exact h2
    clear h2 hK
    have q0 := Q0.out
    have q1 := Q1.out
    go_enter Tryd.func20, Tryd.ntmps20
    go_wp2_with fail
    go_ret
    exact ⟨by rw [decide_eq_false hne]; rfl, KK.out⟩
  have Q2 : Hid ((s.fin != t.fin) = false) := Lib.hid (by rw [h2]; simp)
  have G2 := Lib.hid h2
  clear h2
  by_cases h3 : s.winner = t.winner
  rotate_left
  · have hne : s ≠ t := fun e => h3 (congrArg St.winner e)
    have q3 : (s.winner != t.winner) = true := by rw [bne_iff_ne]; exact h3
    clear h3 hK
    have q0 := Q0.out
    have q1 := Q1.out
    have q2 := Q2.out
    go_enter Tryd.func20, Tryd.ntmps20
    go_wp2_with fail
    go_ret
    exact ⟨by rw [decide_eq_false hne]; rfl, KK.out⟩
  have Q3 : Hid ((s.winner != t.winner) = false) := Lib.hid (by rw [h3]; simp)
  have G3 := Lib.hid h3
  clear h3
  have TT : Hid (SameAt w ((w.alloc (.cells #[.slice Ap s.players.length cp, .slice Ac s.cards.length cc, .slice Az s.zones.length cz, .int .i32 s.turn, .int .i64 s.whose, .int .i8 s.fin, .int .i64 s.winner] 32)).alloc (.cells #[.slice Ap' t.players.length cp', .slice Ac' t.cards.length cc', .slice Az' t.zones.length cz', .int .i32 t.turn, .int .i64 t.whose, .int .i8 t.fin, .int .i64 t.winner] 32)) s t Ap Ac Az Ap' Ac' Az' cp cc cz cp' cc' cz' B) := Lib.hid ⟨KK.out, (Whole.made w _ _).alloc _, by
    have h := Whole.made (w.alloc (.cells #[.slice Ap s.players.length cp, .slice Ac s.cards.length cc, .slice Az s.zones.length cz, .int .i32 s.turn, .int .i64 s.whose, .int .i8 s.fin, .int .i64 s.winner] 32)) 32 #[.slice Ap' t.players.length cp', .slice Ac' t.cards.length cc', .slice Az' t.zones.length cz', .int .i32 t.turn, .int .i64 t.whose, .int .i8 t.fin, .int .i64 t.winner]
    rw [show (w.alloc (.cells #[.slice Ap s.players.length cp, .slice Ac s.cards.length cc, .slice Az s.zones.length cz, .int .i32 s.turn, .int .i64 s.whose, .int .i8 s.fin, .int .i64 s.winner] 32)).heap.size = w.heap.size + 1 by simp] at h
    exact h, XX.out, YY.out⟩
  have SS := Lib.hid hs
  have hsp := hs.players
  have hsc := hs.cards
  have hsz := hs.zones
  clear hK XX YY hs
  by_cases hpl : s.players.length = t.players.length
  rotate_left
  · have hne : s ≠ t := fun e => hpl (congrArg (fun s => s.players.length) e)
    have q4 : ((s.players.length : Int) != (t.players.length : Int)) = true := by rw [bne_iff_ne]; omega
    clear hpl
    have q0 := Q0.out
    have q1 := Q1.out
    have q2 := Q2.out
    have q3 := Q3.out
    go_enter Tryd.func20, Tryd.ntmps20
    go_wp2_with fail
    go_ret
    exact ⟨by rw [decide_eq_false hne]; rfl, KK.out⟩
  have Q4 : Hid (((s.players.length : Int) != (t.players.length : Int)) = false) := Lib.hid (by rw [hpl]; simp)
  by_cases hcl : s.cards.length = t.cards.length
  rotate_left
  · have hne : s ≠ t := fun e => hcl (congrArg (fun s => s.cards.length) e)
    have q5 : ((s.cards.length : Int) != (t.cards.length : Int)) = true := by rw [bne_iff_ne]; omega
    have q4 := Q4.out
    have HPL := Lib.hid hpl
    clear hcl hpl
    have q0 := Q0.out
    have q1 := Q1.out
    have q2 := Q2.out
    have q3 := Q3.out
    go_enter Tryd.func20, Tryd.ntmps20
    go_wp2_with fail
    go_ret
    exact ⟨by rw [decide_eq_false hne]; rfl, KK.out⟩
  have Q5 : Hid (((s.cards.length : Int) != (t.cards.length : Int)) = false) := Lib.hid (by rw [hcl]; simp)
  have HPL := Lib.hid hpl
  have HCL := Lib.hid hcl
  clear hpl hcl KK
  have q0 := Q0.out
  have q1 := Q1.out
  have q2 := Q2.out
  have q3 := Q3.out
  have q4 := Q4.out
  have q5 := Q5.out
  go_enter Tryd.func20, Tryd.ntmps20
  go_wp2_with fail
  clear q0 q1 q2 q3 q4 q5
  generalize (w.alloc (.cells #[.slice Ap s.players.length cp, .slice Ac s.cards.length cc, .slice Az s.zones.length cz, .int .i32 s.turn, .int .i64 s.whose, .int .i8 s.fin, .int .i64 s.winner] 32)).alloc (.cells #[.slice Ap' t.players.length cp', .slice Ac' t.cards.length cc', .slice Az' t.zones.length cz', .int .i32 t.turn, .int .i64 t.whose, .int .i8 t.fin, .int .i64 t.winner] 32) = w0 at *
  go_loopw [52] (fun vi wr => ∃ k : Nat, k ≤ s.players.length ∧ vi = .int .i64 k ∧ Hid (s.players.take k = t.players.take k) ∧ Hid (SameAt w wr s t Ap Ac Az Ap' Ac' Az' cp cc cz cp' cc' cz' B)) (fun vi _ => s.players.length - (intOf vi).toNat)
  case atStart => exact ⟨0, by omega, rfl, Lib.hid (by simp), TT⟩
  case round =>
    clear TT
    obtain ⟨k, hk, rfl, HE, TT⟩ := hrel
    obtain ⟨a0, a1, a2, a3, a4, a5, a6, f0, f1, f2, f3, f4, f5, f6⟩ := seven TT.out.box1
    obtain ⟨b0, b1, b2, b3, b4, b5, b6, e0, e1, e2, e3, e4, e5, e6⟩ := seven TT.out.box2
    by_cases hlt : k < s.players.length
    · have hlt' : k < t.players.length := by rw [← HPL.out]; exact hlt
      obtain ⟨g, off, hA, _, k0, k1, k2⟩ := PlLies.cells TT.out.one.players k s.players[k] (List.getElem?_eq_getElem hlt)
      obtain ⟨g', off', hA', _, l0, l1, l2⟩ := PlLies.cells TT.out.two.players k t.players[k] (List.getElem?_eq_getElem hlt')
      subst hA hA'
      have hq := fun w => ne_pl s.players[k] t.players[k] w
      by_cases hxy : s.players[k] = t.players[k]
      · have hs' : Hid (s.players.take (k + 1) = t.players.take (k + 1)) := Lib.hid (by rw [List.take_succ_eq_append_getElem hlt, List.take_succ_eq_append_getElem hlt', HE.out, hxy])
        rw [show (!decide (s.players[k] = t.players[k])) = false by rw [decide_eq_true hxy]; rfl] at hq
        clear hxy
        generalize s.players[k] = c at *
        generalize t.players[k] = c' at *
        go_wp2_with fail
        go_quiet (fail)
        go_wp2_with fail
        exact ⟨⟨k + 1, by omega, by first | rfl | go_num, hs', Lib.hid (TT.out.calm ((Keeps.refl _ wr).drewN _) hB)⟩, by simp [intOf]; omega⟩
      · have hne : s ≠ t := fun e => hxy (by subst e; rfl)
        rw [show (!decide (s.players[k] = t.players[k])) = true by rw [decide_eq_false hxy]; rfl] at hq
        clear hxy
        generalize s.players[k] = c at *
        generalize t.players[k] = c' at *
        go_wp2_with fail
        go_quiet (fail)
        go_wp2_with fail
        go_ret
        exact ⟨by rw [decide_eq_false hne]; rfl, TT.out.keeps.drewN _⟩
    · obtain rfl : k = s.players.length := by omega
      have GP : Hid (s.players = t.players) := Lib.hid (by have := HE.out; rw [List.take_length, HPL.out, List.take_length] at this; exact this)
      clear HE hlt
      go_wp2_with fail
      clear a0 a1 a2 a3 a4 a5 a6 f0 f1 f2 f3 f4 f5 f6 b0 b1 b2 b3 b4 b5 b6 e0 e1 e2 e3 e4 e5 e6
      go_loopw [70] (fun vi wr => ∃ k : Nat, k ≤ s.cards.length ∧ vi = .int .i64 k ∧ Hid (s.cards.take k = t.cards.take k) ∧ Hid (SameAt w wr s t Ap Ac Az Ap' Ac' Az' cp cc cz cp' cc' cz' B)) (fun vi _ => s.cards.length - (intOf vi).toNat)
      case atStart => exact ⟨0, by omega, rfl, Lib.hid (by simp), TT⟩
      case round =>
        clear TT
        obtain ⟨k, hk, rfl, HE, TT⟩ := hrel
        obtain ⟨a0, a1, a2, a3, a4, a5, a6, f0, f1, f2, f3, f4, f5, f6⟩ := seven TT.out.box1
        obtain ⟨b0, b1, b2, b3, b4, b5, b6, e0, e1, e2, e3, e4, e5, e6⟩ := seven TT.out.box2
        by_cases hlt : k < s.cards.length
        · have hlt' : k < t.cards.length := by rw [← HCL.out]; exact hlt
          obtain ⟨g, off, hA, _, k0, k1, k2, k3, k4, k5⟩ := CdLies.cells TT.out.one.cards k s.cards[k] (List.getElem?_eq_getElem hlt)
          obtain ⟨g', off', hA', _, l0, l1, l2, l3, l4, l5⟩ := CdLies.cells TT.out.two.cards k t.cards[k] (List.getElem?_eq_getElem hlt')
          subst hA hA'
          have hq := fun w => ne_cd s.cards[k] t.cards[k] w
          by_cases hxy : s.cards[k] = t.cards[k]
          · have hs' : Hid (s.cards.take (k + 1) = t.cards.take (k + 1)) := Lib.hid (by rw [List.take_succ_eq_append_getElem hlt, List.take_succ_eq_append_getElem hlt', HE.out, hxy])
            rw [show (!decide (s.cards[k] = t.cards[k])) = false by rw [decide_eq_true hxy]; rfl] at hq
            clear hxy
            generalize s.cards[k] = c at *
            generalize t.cards[k] = c' at *
            go_wp2_with fail
            go_quiet (fail)
            go_wp2_with fail
            exact ⟨⟨k + 1, by omega, by first | rfl | go_num, hs', Lib.hid (TT.out.calm ((Keeps.refl _ _).drewN _) hB)⟩, by simp [intOf]; omega⟩
          · have hne : s ≠ t := fun e => hxy (by subst e; rfl)
            rw [show (!decide (s.cards[k] = t.cards[k])) = true by rw [decide_eq_false hxy]; rfl] at hq
            clear hxy
            generalize s.cards[k] = c at *
            generalize t.cards[k] = c' at *
            go_wp2_with fail
            go_quiet (fail)
            go_wp2_with fail
            go_ret
            exact ⟨by rw [decide_eq_false hne]; rfl, TT.out.keeps.drewN _⟩
        · obtain rfl : k = s.cards.length := by omega
          have GC : Hid (s.cards = t.cards) := Lib.hid (by have := HE.out; rw [List.take_length, HCL.out, List.take_length] at this; exact this)
          clear HE hlt
          go_wp2_with fail
          clear a0 a1 a2 a3 a4 a5 a6 f0 f1 f2 f3 f4 f5 f6 b0 b1 b2 b3 b4 b5 b6 e0 e1 e2 e3 e4 e5 e6
          refine (equalR_any s.zones t.zones Az Az' B B cz cz' _ TT.out.one.zones TT.out.two.zones SS.out.zones SS.out.rows).mono ?_
          rintro e w1 ⟨rfl, d3, rfl⟩
          have GE : Hid (decide (s.zones = t.zones) = decide (s = t)) := Lib.hid (decide_eq_decide.2 ⟨fun hp => by
            obtain ⟨p, c, z, a, b, d, f⟩ := s
            obtain ⟨p', c', z', a', b', d', f'⟩ := t
            simp only [St.mk.injEq]
            exact ⟨GP.out, GC.out, hp, G0.out, G1.out, G2.out, G3.out⟩, fun e => congrArg St.zones e⟩)
          go_wp2_with fail
          go_ret
          exact ⟨by rw [← GE.out]; rfl, TT.out.keeps.drewN _⟩
end Go.Proofs.YtgbikcliembkcaaDoor
