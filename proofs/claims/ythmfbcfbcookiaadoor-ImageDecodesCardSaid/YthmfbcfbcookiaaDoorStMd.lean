/-
  The lists of a state in memory of their own, for the bag: plain laws. Conditions: none.
-/
import Derived.Test.YthmfbcfbcookiaaDoorApt
import Derived.Test.YthmfbcfbcookiaaDoorWMh
import Derived.Test.YthmfbcfbcookiaaDoorStMb
namespace Go.Proofs.YthmfbcfbcookiaaDoor
open Go.RowKit
def slOf : Value → Sl
  | .slice A n c => ⟨A, n, c⟩
  | _ => ⟨none, 0, 0⟩
/-- A state's lists, each in memory of its own, in blocks from lo on and below hi. -/
structure ListsAt (w : World) (lo hi : Nat) (x : Lists) : Prop where
  ps : ∃ xs, w.ownsRow 0 75 3 x.ps.val x.ps.len xs
  cs : ∃ xs, w.ownsRow 0 78 6 x.cs.val x.cs.len xs
  zs : ∃ xs, w.ownsRow 0 81 1 x.zs.val x.zs.len xs
  rows : ∀ (i : Nat) (q : Sl), x.rows[i]? = some q → (∃ xs, w.ownsRow 0 3 1 q.val q.len xs) ∧ (∀ b, q.blk = some b → lo ≤ b ∧ b < hi) ∧ q.len ≤ 1000000000
  ap : ∀ (i j : Nat) (q r : Sl) (b : Nat), x.rows[i]? = some q → x.rows[j]? = some r → q.blk = some b → r.blk = some b → i = j
  bps : ∀ b, x.ps.blk = some b → lo ≤ b ∧ b < hi
  bcs : ∀ b, x.cs.blk = some b → lo ≤ b ∧ b < hi
  bzs : ∀ b, x.zs.blk = some b → lo ≤ b ∧ b < hi
  len : x.rows.length = x.zs.len
  lies : Lies w hi x.zs.at_ (vals x.rows)
  lps : x.ps.len ≤ 1000000000
  lcs : x.cs.len ≤ 1000000000
  lzs : x.zs.len ≤ 1000000000
theorem ListsAt.calm {w w' : World} {lo hi : Nat} {x : Lists} (h : ListsAt w lo hi x) (hk : Keeps (fun _ => False) w w') (hh : hi ≤ w.heap.size) : ListsAt w' lo hi x :=
  ⟨by obtain ⟨xs, hx⟩ := h.ps; exact ⟨xs, own_keepsS hx hk (fun _ _ h => h)⟩, by obtain ⟨xs, hx⟩ := h.cs; exact ⟨xs, own_keepsS hx hk (fun _ _ h => h)⟩, by obtain ⟨xs, hx⟩ := h.zs; exact ⟨xs, own_keepsS hx hk (fun _ _ h => h)⟩,
   fun i q hq => by obtain ⟨⟨xs, hx⟩, h2⟩ := h.rows i q hq; exact ⟨⟨xs, own_keepsS hx hk (fun _ _ h => h)⟩, h2⟩, h.ap, h.bps, h.bcs, h.bzs, h.len, h.lies.keep (fun b o hb => hk.cell (by omega) id), h.lps, h.lcs, h.lzs⟩
theorem ListsAt.of_copy {w : World} {lo : Nat} {s : St} {Ap Ac Az : Option Addr} {cp cc cz : Nat} {cells : List Value} (h : CopyIn w lo s Ap Ac Az cp cc cz cells) (ha : Apt cells) (hs : StSmall s) : ListsAt w lo w.heap.size ⟨⟨Ap, s.players.length, cp⟩, ⟨Ac, s.cards.length, cc⟩, ⟨Az, s.zones.length, cz⟩, cells.map slOf⟩ := by
  have hl : cells.length = s.zones.length := own_length h.zones.own
  have hc : ∀ (i : Nat) (q : Sl), (cells.map slOf)[i]? = some q → ∃ (r : List Int) (Ai : Option Addr) (ci : Nat), s.zones[i]? = some r ∧ q = ⟨Ai, r.length, ci⟩ ∧ cells[i]? = some (.slice Ai r.length ci) ∧ w.ownsRow lo 3 1 (.slice Ai r.length ci) r.length (r.map (Value.int .i64)) := fun i q hq => by
    rw [List.getElem?_map, Option.map_eq_some_iff] at hq
    obtain ⟨u, hu, rfl⟩ := hq
    have hi := (List.getElem?_eq_some_iff.1 hu).1
    obtain ⟨Ai, ci, h1, h2⟩ := h.zones.row i s.zones[i] (List.getElem?_eq_getElem (by omega))
    rw [hu] at h1
    injection h1 with h1
    subst h1
    exact ⟨s.zones[i], Ai, ci, List.getElem?_eq_getElem (by omega), rfl, hu, h2⟩
  refine ⟨⟨_, own_base h.players (fun _ _ => Nat.zero_le _)⟩, ⟨_, own_base h.cards (fun _ _ => Nat.zero_le _)⟩, ⟨_, own_base h.zones.own (fun _ _ => Nat.zero_le _)⟩, fun i q hq => ?_, fun i j q r b hq hr hb hb' => ?_, fun b hb => h.players.lt b hb, fun b hb => h.cards.lt b hb, fun b hb => h.zones.own.lt b hb, by simp [hl], ?_, hs.players, hs.cards, hs.zones⟩
  · obtain ⟨r, Ai, ci, h1, rfl, h3, h4⟩ := hc i q hq
    exact ⟨⟨_, own_base h4 (fun _ _ => Nat.zero_le _)⟩, fun b hb => h4.lt b hb, hs.rows r (List.mem_of_getElem? h1)⟩
  · obtain ⟨_, Ai, ci, _, rfl, h3, _⟩ := hc i q hq
    obtain ⟨_, Aj, cj, _, rfl, h5, _⟩ := hc j r hr
    exact ha i j _ _ b h3 h5 hb hb'
  · intro k u hu
    obtain ⟨q, hq, rfl⟩ : ∃ q, (cells.map slOf)[k]? = some q ∧ q.val = u := by
      rw [vals, List.getElem?_map, Option.map_eq_some_iff] at hu
      exact hu
    obtain ⟨r, Ai, ci, _, rfl, h3, _⟩ := hc k q hq
    exact own_lies_n h.zones.own k _ h3
theorem own_whole_ex {w : World} {g n cap s : Nat} {e : TypeId} {cur : Array Value} (h : Whole w g e cur) (hsz : cur.size = cap * s) (hn : n ≤ cap) (hm : cap ≤ maxLen) : ∃ xs, w.ownsRow 0 e s (.slice (some ⟨g, 0, none⟩) n cap) n xs :=
  ⟨cur.toList.take (n * s), by rw [List.length_take, Array.length_toList, hsz]; exact Nat.min_eq_left (Nat.mul_le_mul_right _ hn), .inr ⟨g, cap, cur, rfl, Nat.zero_le _, h, hn, hm, hsz, rfl⟩⟩
theorem ListsAt.of_wide {w : World} {lo : Nat} {s : St} {gp gc gz : Nat} {cs : Array Value} {bs : Nat → Nat} (h : WideIn w lo s gp gc gz cs bs) (hs : StSmall s) : ListsAt w lo w.heap.size ⟨⟨some ⟨gp, 0, none⟩, s.players.length, s.players.length + 64⟩, ⟨some ⟨gc, 0, none⟩, s.cards.length, s.cards.length + 64⟩, ⟨some ⟨gz, 0, none⟩, s.zones.length, s.zones.length + 64⟩, (List.range s.zones.length).map (fun j => ⟨some ⟨bs j, 0, none⟩, (s.zones.getD j []).length, (wideL (s.zones.getD j [])).length⟩)⟩ := by
  have h1 := hs.players
  have h2 := hs.cards
  have h3 := hs.zones
  have hc : ∀ (i : Nat) (q : Sl), ((List.range s.zones.length).map (fun j => (⟨some ⟨bs j, 0, none⟩, (s.zones.getD j []).length, (wideL (s.zones.getD j [])).length⟩ : Sl)))[i]? = some q → ∃ r : List Int, s.zones[i]? = some r ∧ q = ⟨some ⟨bs i, 0, none⟩, r.length, (wideL r).length⟩ ∧ cs[i]? = some (.slice (some ⟨bs i, 0, none⟩) r.length (wideL r).length) ∧ Whole w (bs i) 3 (ints (wideL r)) ∧ gz < bs i := fun i q hq => by
    rw [List.getElem?_map, Option.map_eq_some_iff] at hq
    obtain ⟨j, hj, rfl⟩ := hq
    obtain ⟨hi1, hi2⟩ := List.getElem?_eq_some_iff.1 hj
    rw [List.length_range] at hi1
    obtain rfl : i = j := by simpa using hi2
    have hr : s.zones[i]? = some s.zones[i] := List.getElem?_eq_getElem hi1
    obtain ⟨h4, h5, h6⟩ := h.zones.row i _ (by omega) (wideR_low s.zones i _ hr)
    refine ⟨s.zones[i], hr, ?_, h4, h5, h6⟩
    simp [List.getD, hr]
  refine ⟨own_whole_ex h.players (by rw [List.size_toArray, flat_length (k := 3) (fun _ => rfl), widePl_length]) (Nat.le_add_right _ _) (by show s.players.length + 64 ≤ maxLen; simp only [maxLen]; omega), own_whole_ex h.cards (by rw [List.size_toArray, flat_length (k := 6) (fun _ => rfl), wideCd_length]) (Nat.le_add_right _ _) (by show s.cards.length + 64 ≤ maxLen; simp only [maxLen]; omega), own_whole_ex h.zones.whole (by rw [h.zones.size, wideR_length, Nat.mul_one]) (Nat.le_add_right _ _) (by show s.zones.length + 64 ≤ maxLen; simp only [maxLen]; omega), fun i q hq => ?_, fun i j q r b hq hr hb hb' => ?_, fun b hb => ?_, fun b hb => ?_, fun b hb => ?_, by simp, ?_, h1, h2, h3⟩
  · obtain ⟨r, hr, rfl, h4, h5, h6⟩ := hc i q hq
    have hrl := hs.rows r (List.mem_of_getElem? hr)
    refine ⟨own_whole_ex h5 (by simp [ints]) (by show r.length ≤ (wideL r).length; rw [wideL_length]; omega) (by show (wideL r).length ≤ maxLen; rw [wideL_length]; simp only [maxLen]; omega), fun b hb => ?_, hrl⟩
    have hb : bs i = b := by injection hb
    have := h.newz
    have := h5.inside
    omega
  · obtain ⟨_, _, rfl, _, _, _⟩ := hc i q hq
    obtain ⟨_, _, rfl, _, _, _⟩ := hc j r hr
    have hb : bs i = b := by injection hb
    have hb' : bs j = b := by injection hb'
    have hi := (List.getElem?_eq_some_iff.1 hq).1
    have hj := (List.getElem?_eq_some_iff.1 hr).1
    simp only [List.length_map, List.length_range] at hi hj
    rcases Nat.lt_trichotomy i j with h7 | h7 | h7
    · have := h.zones.rise i j h7 (by omega); omega
    · exact h7
    · have := h.zones.rise j i h7 (by omega); omega
  · have hb : gp = b := by injection hb
    have := h.newp; have := h.players.inside; omega
  · have hb : gc = b := by injection hb
    have := h.newc; have := h.cards.inside; omega
  · have hb : gz = b := by injection hb
    have := h.newz; have := h.zones.whole.inside; omega
  · intro k u hu
    obtain ⟨q, hq, rfl⟩ : ∃ q, ((List.range s.zones.length).map (fun j => (⟨some ⟨bs j, 0, none⟩, (s.zones.getD j []).length, (wideL (s.zones.getD j [])).length⟩ : Sl)))[k]? = some q ∧ q.val = u := by
      rw [vals, List.getElem?_map, Option.map_eq_some_iff] at hu
      exact hu
    obtain ⟨r, _, rfl, h4, _, _⟩ := hc k q hq
    exact ⟨gz, 0, rfl, h.zones.whole.inside, by rw [Nat.zero_add, h.zones.whole.cellAt, h4]; rfl⟩
theorem SlRows.cat {t : TypeId} {s m : Nat} {r1 r2 : List Sl} {w : World} (h1 : SlRows t s r1 w) (h2 : SlRows t s r2 w) (b1 : ∀ b, blks r1 b → b < m) (b2 : ∀ b, blks r2 b → m ≤ b) : SlRows t s (r1 ++ r2) w := by
  have hg : ∀ {k : Nat} {r : Sl}, (r1 ++ r2)[k]? = some r → (k < r1.length ∧ r1[k]? = some r) ∨ (r1.length ≤ k ∧ r2[k - r1.length]? = some r) := fun {k r} hr => by
    rcases Nat.lt_or_ge k r1.length with h | h
    · rw [List.getElem?_append_left h] at hr; exact .inl ⟨h, hr⟩
    · rw [List.getElem?_append_right h] at hr; exact .inr ⟨h, hr⟩
  refine ⟨fun k r hr => ?_, fun j k r q b hr hq hb hb' => ?_⟩
  · rcases hg hr with ⟨_, h⟩ | ⟨_, h⟩
    · exact h1.own _ r h
    · exact h2.own _ r h
  · rcases hg hr with ⟨l1, h⟩ | ⟨l1, h⟩ <;> rcases hg hq with ⟨l2, h'⟩ | ⟨l2, h'⟩
    · exact h1.apart j k r q b h h' hb hb'
    · have := b1 b ⟨_, r, h, hb⟩; have := b2 b ⟨_, q, h', hb'⟩; omega
    · have := b1 b ⟨_, q, h', hb'⟩; have := b2 b ⟨_, r, h, hb⟩; omega
    · have := h2.apart _ _ r q b h h' hb hb'; omega
theorem blks_cat {r1 r2 : List Sl} {b : Nat} (h : blks (r1 ++ r2) b) : blks r1 b ∨ blks r2 b := by
  obtain ⟨k, r, hr, hb⟩ := h
  rcases Nat.lt_or_ge k r1.length with h | h
  · rw [List.getElem?_append_left h] at hr; exact .inl ⟨k, r, hr, hb⟩
  · rw [List.getElem?_append_right h] at hr; exact .inr ⟨_, r, hr, hb⟩
theorem SlRows.one {t : TypeId} {s : Nat} {r : Sl} {w : World} (h : ∃ xs, w.ownsRow 0 t s r.val r.len xs) : SlRows t s [r] w := by
  have hg : ∀ {k : Nat} {q : Sl}, [r][k]? = some q → k = 0 ∧ q = r := fun {k q} hq => by
    match k with
    | 0 => injection hq with hq; exact ⟨rfl, hq.symm⟩
    | k + 1 => simp at hq
  exact ⟨fun k q hq => by obtain ⟨_, rfl⟩ := hg hq; exact h, fun j k q q' b hq hq' _ _ => by have := (hg hq).1; have := (hg hq').1; omega⟩
theorem blks_one {r : Sl} {b : Nat} (h : blks [r] b) : r.blk = some b := by
  obtain ⟨k, q, hq, hb⟩ := h
  match k with
  | 0 => injection hq with hq; rw [hq]; exact hb
  | k + 1 => simp at hq
end Go.Proofs.YthmfbcfbcookiaaDoor
/-
  A new bag, and three states that will be laid into it. Conditions: none.
-/
namespace Go.Proofs.YthmfbcfbcookiaaDoor
open Go.RowKit
theorem SlRows.catd {t : TypeId} {s : Nat} {r1 r2 : List Sl} {w : World} (h1 : SlRows t s r1 w) (h2 : SlRows t s r2 w) (hd : ∀ b, blks r1 b → ¬ blks r2 b) : SlRows t s (r1 ++ r2) w := by
  have hg : ∀ {k : Nat} {r : Sl}, (r1 ++ r2)[k]? = some r → (k < r1.length ∧ r1[k]? = some r) ∨ (r1.length ≤ k ∧ r2[k - r1.length]? = some r) := fun {k r} hr => by
    rcases Nat.lt_or_ge k r1.length with h | h
    · rw [List.getElem?_append_left h] at hr; exact .inl ⟨h, hr⟩
    · rw [List.getElem?_append_right h] at hr; exact .inr ⟨h, hr⟩
  refine ⟨fun k r hr => ?_, fun j k r q b hr hq hb hb' => ?_⟩
  · rcases hg hr with ⟨_, h⟩ | ⟨_, h⟩
    · exact h1.own _ r h
    · exact h2.own _ r h
  · rcases hg hr with ⟨l1, h⟩ | ⟨l1, h⟩ <;> rcases hg hq with ⟨l2, h'⟩ | ⟨l2, h'⟩
    · exact h1.apart j k r q b h h' hb hb'
    · exact absurd ⟨_, q, h', hb'⟩ (hd b ⟨_, r, h, hb⟩)
    · exact absurd ⟨_, r, h, hb⟩ (hd b ⟨_, q, h', hb'⟩)
    · have := h2.apart _ _ r q b h h' hb hb'; omega
/-- Three lists of lists in three stretches of memory. -/
theorem rows3 {t : TypeId} {s la ha lb hb lc hc : Nat} {ra rb rc : List Sl} {w : World} (A : SlRows t s ra w) (B : SlRows t s rb w) (C : SlRows t s rc w) (iA : ∀ b, blks ra b → la ≤ b ∧ b < ha) (iB : ∀ b, blks rb b → lb ≤ b ∧ b < hb) (iC : ∀ b, blks rc b → lc ≤ b ∧ b < hc) (h1 : hc ≤ la) (h2 : ha ≤ lb) (h0 : hc ≤ lb) :
    SlRows t s (ra ++ (rb ++ rc)) w := by
  refine A.catd (B.catd C fun b h h' => ?_) fun b h h' => ?_
  · have := iB b h; have := iC b h'; omega
  · rcases blks_cat h' with h' | h'
    · have := iA b h; have := iB b h'; omega
    · have := iA b h; have := iC b h'; omega
theorem low3 {la ha lb hb lc hc p : Nat} {ra rb rc : List Sl} (iA : ∀ b, blks ra b → la ≤ b ∧ b < ha) (iB : ∀ b, blks rb b → lb ≤ b ∧ b < hb) (iC : ∀ b, blks rc b → lc ≤ b ∧ b < hc) (h1 : ha ≤ p) (h2 : hb ≤ p) (h3 : hc ≤ p) : ∀ b, blks (ra ++ (rb ++ rc)) b → b < p := fun b h => by
  rcases blks_cat h with h | h
  · have := iA b h; omega
  · rcases blks_cat h with h | h
    · have := iB b h; omega
    · have := iC b h; omega
theorem len3 {ra rb rc : List Sl} {P : Sl → Prop} (A : ∀ (k : Nat) (r : Sl), ra[k]? = some r → P r) (B : ∀ (k : Nat) (r : Sl), rb[k]? = some r → P r) (C : ∀ (k : Nat) (r : Sl), rc[k]? = some r → P r) (k : Nat) (r : Sl) (h : (ra ++ (rb ++ rc))[k]? = some r) : P r := by
  have hm := List.mem_of_getElem? h
  rcases List.mem_append.1 hm with hm | hm
  · obtain ⟨j, hj⟩ := List.getElem?_of_mem hm; exact A j r hj
  · rcases List.mem_append.1 hm with hm | hm
    · obtain ⟨j, hj⟩ := List.getElem?_of_mem hm; exact B j r hj
    · obtain ⟨j, hj⟩ := List.getElem?_of_mem hm; exact C j r hj
theorem one_all {r : Sl} {P : Sl → Prop} (h : P r) (k : Nat) (q : Sl) (hq : [r][k]? = some q) : P q := by
  match k with
  | 0 => injection hq with hq; rw [← hq]; exact h
  | k + 1 => simp at hq
section
variable {w : World} {lo hi : Nat} {x : Lists}
theorem ListsAt.iRows (h : ListsAt w lo hi x) : ∀ b, blks x.rows b → lo ≤ b ∧ b < hi := fun b hb => by
  obtain ⟨k, r, hr, hb⟩ := hb
  exact (h.rows k r hr).2.1 b hb
theorem ListsAt.sRows (h : ListsAt w lo hi x) : SlRows 3 1 x.rows w := ⟨fun k r hr => (h.rows k r hr).1, fun j k r q b hr hq hb hb' => h.ap j k r q b hr hq hb hb'⟩
end
theorem Bag4.start3 {w : World} {la ha lb hb lc hc : Nat} {a b c : Lists} (A : ListsAt w la ha a) (B : ListsAt w lb hb b) (C : ListsAt w lc hc c) (h1 : hc ≤ la) (h2 : ha ≤ lb) (h0 : hc ≤ lb) (h3 : hb ≤ w.heap.size) (h4 : ha ≤ w.heap.size) (h5 : hc ≤ w.heap.size) :
    Bag4 (w.alloc (.cells (bag4 (.slice none 0 0) (.slice none 0 0) (.slice none 0 0) (.slice none 0 0)) 70)) w.heap.size (a.rows ++ (b.rows ++ c.rows)) ([a.ps] ++ ([b.ps] ++ [c.ps])) ([a.cs] ++ ([b.cs] ++ [c.cs])) ([a.zs] ++ ([b.zs] ++ [c.zs])) [] [] [] [] none none none none 0 0 0 0 := by
  have hk : Keeps (fun _ => False) w (w.alloc (.cells (bag4 (.slice none 0 0) (.slice none 0 0) (.slice none 0 0) (.slice none 0 0)) 70)) := (Keeps.refl _ _).alloc _
  have A' := A.calm hk h4
  have B' := B.calm hk h3
  have C' := C.calm hk h5
  have o : ∀ {lo hi : Nat} {r : Sl}, (∀ b, r.blk = some b → lo ≤ b ∧ b < hi) → ∀ b, blks [r] b → lo ≤ b ∧ b < hi := fun h b hb => h b (blks_one hb)
  exact ⟨Whole.made _ _ _,
    BagK1.nil _ _ _ _ _ _ (rows3 A'.sRows B'.sRows C'.sRows A.iRows B.iRows C.iRows h1 h2 h0) (low3 A.iRows B.iRows C.iRows h4 h3 h5) (len3 (P := fun r => r.len ≤ 1000000000) (fun k r hr => (A.rows k r hr).2.2) (fun k r hr => (B.rows k r hr).2.2) (fun k r hr => (C.rows k r hr).2.2)),
    BagK1.nil _ _ _ _ _ _ (rows3 (SlRows.one A'.ps) (SlRows.one B'.ps) (SlRows.one C'.ps) (o A.bps) (o B.bps) (o C.bps) h1 h2 h0) (low3 (o A.bps) (o B.bps) (o C.bps) h4 h3 h5) (len3 (P := fun r => r.len ≤ 1000000000) (one_all A.lps) (one_all B.lps) (one_all C.lps)),
    BagK1.nil _ _ _ _ _ _ (rows3 (SlRows.one A'.cs) (SlRows.one B'.cs) (SlRows.one C'.cs) (o A.bcs) (o B.bcs) (o C.bcs) h1 h2 h0) (low3 (o A.bcs) (o B.bcs) (o C.bcs) h4 h3 h5) (len3 (P := fun r => r.len ≤ 1000000000) (one_all A.lcs) (one_all B.lcs) (one_all C.lcs)),
    BagK1.nil _ _ _ _ _ _ (rows3 (SlRows.one A'.zs) (SlRows.one B'.zs) (SlRows.one C'.zs) (o A.bzs) (o B.bzs) (o C.bzs) h1 h2 h0) (low3 (o A.bzs) (o B.bzs) (o C.bzs) h4 h3 h5) (len3 (P := fun r => r.len ≤ 1000000000) (one_all A.lzs) (one_all B.lzs) (one_all C.lzs))⟩
end Go.Proofs.YthmfbcfbcookiaaDoor
/-
  Three states laid into a bag: which rows come next, and where what Apart writes over lies: plain laws. Conditions: none.
-/
namespace Go.Proofs.YthmfbcfbcookiaaDoor
open Go.RowKit
theorem above3 {la ha lb hb lc hc n : Nat} {ra rb rc : List Sl} (iA : ∀ b, blks ra b → la ≤ b ∧ b < ha) (iB : ∀ b, blks rb b → lb ≤ b ∧ b < hb) (iC : ∀ b, blks rc b → lc ≤ b ∧ b < hc) (h1 : n ≤ la) (h2 : n ≤ lb) (h3 : n ≤ lc) : ∀ b, blks (ra ++ (rb ++ rc)) b → n ≤ b := fun b h => by
  rcases blks_cat h with h | h
  · have := iA b h; omega
  · rcases blks_cat h with h | h
    · have := iB b h; omega
    · have := iC b h; omega
theorem Bag4.above {w : World} {p n : Nat} {pi pp pc pr ri rp rc rr : List Sl} {Ai Ap Ac Ar : Option Addr} {ci cp cc cr : Nat} (h : Bag4 w p pi pp pc pr ri rp rc rr Ai Ap Ac Ar ci cp cc cr) (hi : ∀ b, blks pi b → n ≤ b) (hp : ∀ b, blks pp b → n ≤ b) (hc : ∀ b, blks pc b → n ≤ b) (hr : ∀ b, blks pr b → n ≤ b) : ∀ b, aparts ri rp rc rr b → n ≤ b := fun b hb => by
  rcases hb with (((h0 | h0) | h0) | h0) | h0
  · exact h0.elim
  · exact hi b (blks_sub h.i.pre h0)
  · exact hp b (blks_sub h.p'.pre h0)
  · exact hc b (blks_sub h.c.pre h0)
  · exact hr b (blks_sub h.r.pre h0)
/-- What lies in the bag behind three states lies in the states' memory. -/
structure Above (n : Nat) (a b c : Lists) : Prop where
  ii : ∀ k, blks (a.rows ++ (b.rows ++ c.rows)) k → n ≤ k
  pp : ∀ k, blks ([a.ps] ++ ([b.ps] ++ [c.ps])) k → n ≤ k
  cc : ∀ k, blks ([a.cs] ++ ([b.cs] ++ [c.cs])) k → n ≤ k
  rr : ∀ k, blks ([a.zs] ++ ([b.zs] ++ [c.zs])) k → n ≤ k
theorem Above.of {w : World} {la ha lb hb lc hc n : Nat} {a b c : Lists} (A : ListsAt w la ha a) (B : ListsAt w lb hb b) (C : ListsAt w lc hc c) (h1 : n ≤ la) (h2 : n ≤ lb) (h3 : n ≤ lc) : Above n a b c := by
  have o : ∀ {lo hi : Nat} {r : Sl}, (∀ b, r.blk = some b → lo ≤ b ∧ b < hi) → ∀ b, blks [r] b → lo ≤ b ∧ b < hi := fun h b hb => h b (blks_one hb)
  exact ⟨above3 A.iRows B.iRows C.iRows h1 h2 h3, above3 (o A.bps) (o B.bps) (o C.bps) h1 h2 h3, above3 (o A.bcs) (o B.bcs) (o C.bcs) h1 h2 h3, above3 (o A.bzs) (o B.bzs) (o C.bzs) h1 h2 h3⟩
theorem Bag4.keep {w w0 w1 : World} {p n : Nat} {ri rp rc rr : List Sl} {Ai Ap Ac Ar : Option Addr} {ci cp cc cr : Nat} {a b c : Lists} (h : Bag4 w p (a.rows ++ (b.rows ++ c.rows)) ([a.ps] ++ ([b.ps] ++ [c.ps])) ([a.cs] ++ ([b.cs] ++ [c.cs])) ([a.zs] ++ ([b.zs] ++ [c.zs])) ri rp rc rr Ai Ap Ac Ar ci cp cc cr) (ha : Above n a b c) (k : Keeps (fun _ => False) w0 w) (k1 : Keeps (aparts ri rp rc rr) w w1) (hn : w0.heap.size ≤ n) : Keeps (fun _ => False) w0 w1 :=
  k.and k1 (fun b hb hs => by have := h.above ha.ii ha.pp ha.cc ha.rr b hs; omega)
section
variable {a b c : List Sl} {n i : Nat} {q : Sl}
theorem next_a (h : a[i]? = some q) : (a ++ (b ++ c))[([] : List Sl).length + i]? = some q := by
  rw [List.length_nil, Nat.zero_add, List.getElem?_append_left (List.getElem?_eq_some_iff.1 h).1]
  exact h
theorem next_b (hn : n = min 400 (0 + a.length)) (hl : n + i < 400) (h : b[i]? = some q) : (a ++ (b ++ c))[n + i]? = some q := by
  have h1 : n = a.length := by omega
  rw [h1, List.getElem?_append_right (Nat.le_add_right _ _), Nat.add_sub_cancel_left, List.getElem?_append_left (List.getElem?_eq_some_iff.1 h).1]
  exact h
theorem next_c {m : Nat} (hm : m = min 400 (0 + a.length)) (hn : n = min 400 (m + b.length)) (hl : n + i < 400) (h : c[i]? = some q) : (a ++ (b ++ c))[n + i]? = some q := by
  have h1 : n = a.length + b.length := by omega
  rw [h1, List.getElem?_append_right (by omega), List.getElem?_append_right (by omega), show a.length + b.length + i - a.length - b.length = i by omega]
  exact h
end
theorem Lies.up {w : World} {B B' : Nat} {A : Option Addr} {xs : List Value} (h : Lies w B A xs) (hB : B ≤ B') : Lies w B' A xs := fun k u hu => by
  obtain ⟨b, o, h1, h2, h3⟩ := h k u hu
  exact ⟨b, o, h1, by omega, h3⟩
theorem Lies.bagS {w w' : World} {p : Nat} {A : Option Addr} {xs : List Value} (h : Lies w p A xs) (hk : Keeps (BagS p w) w w') (hp : p ≤ w.heap.size) : Lies w' p A xs := h.keep fun b o hb => hk.cell (by omega) (fun hs => by have := hs.1; omega)
end Go.Proofs.YthmfbcfbcookiaaDoor
/-
  A new bag for two states and other lists of cards: plain laws. Conditions: none.
-/
namespace Go.Proofs.YthmfbcfbcookiaaDoor
open Go.RowKit
/-- A new bag, two states and decks. -/
theorem SlRows.none (t : TypeId) (s : Nat) (w : World) : SlRows t s [] w := ⟨fun k r h => by simp at h, fun j k r q b h => by simp at h⟩
theorem blks_none {P : Nat → Prop} : ∀ b, blks [] b → P b := fun b h => by obtain ⟨k, r, h, _⟩ := h; simp at h
theorem Bag4.start2 {w : World} {la ha lb hb lc hc : Nat} {a b : Lists} {ins : List Sl} (A : ListsAt w la ha a) (B : ListsAt w lb hb b) (C : SlRows 78 6 ins w) (iC : ∀ b, blks ins b → lc ≤ b ∧ b < hc) (nC : ∀ (k : Nat) (r : Sl), ins[k]? = some r → r.len ≤ 1000000000) (h1 : hc ≤ la) (h2 : ha ≤ lb) (h0 : hc ≤ lb) (h3 : hb ≤ w.heap.size) (h4 : ha ≤ w.heap.size) (h5 : hc ≤ w.heap.size) :
    Bag4 (w.alloc (.cells (bag4 (.slice none 0 0) (.slice none 0 0) (.slice none 0 0) (.slice none 0 0)) 70)) w.heap.size (a.rows ++ (b.rows ++ [])) ([a.ps] ++ ([b.ps] ++ [])) ([a.cs] ++ ([b.cs] ++ ins)) ([a.zs] ++ ([b.zs] ++ [])) [] [] [] [] none none none none 0 0 0 0 := by
  have hk : Keeps (fun _ => False) w (w.alloc (.cells (bag4 (.slice none 0 0) (.slice none 0 0) (.slice none 0 0) (.slice none 0 0)) 70)) := (Keeps.refl _ _).alloc _
  have A' := A.calm hk h4
  have B' := B.calm hk h3
  have C' := C.keeps hk (fun _ _ _ _ _ h => h)
  have o : ∀ {lo hi : Nat} {r : Sl}, (∀ b, r.blk = some b → lo ≤ b ∧ b < hi) → ∀ b, blks [r] b → lo ≤ b ∧ b < hi := fun h b hb => h b (blks_one hb)
  have nn : ∀ b, blks [] b → lc ≤ b ∧ b < hc := blks_none
  have ln : ∀ (k : Nat) (r : Sl), ([] : List Sl)[k]? = some r → r.len ≤ 1000000000 := fun k r h => by simp at h
  exact ⟨Whole.made _ _ _,
    BagK1.nil _ _ _ _ _ _ (rows3 A'.sRows B'.sRows (SlRows.none _ _ _) A.iRows B.iRows nn h1 h2 h0) (low3 A.iRows B.iRows nn h4 h3 h5) (len3 (P := fun r => r.len ≤ 1000000000) (fun k r hr => (A.rows k r hr).2.2) (fun k r hr => (B.rows k r hr).2.2) ln),
    BagK1.nil _ _ _ _ _ _ (rows3 (SlRows.one A'.ps) (SlRows.one B'.ps) (SlRows.none _ _ _) (o A.bps) (o B.bps) nn h1 h2 h0) (low3 (o A.bps) (o B.bps) nn h4 h3 h5) (len3 (P := fun r => r.len ≤ 1000000000) (one_all A.lps) (one_all B.lps) ln),
    BagK1.nil _ _ _ _ _ _ (rows3 (SlRows.one A'.cs) (SlRows.one B'.cs) C' (o A.bcs) (o B.bcs) iC h1 h2 h0) (low3 (o A.bcs) (o B.bcs) iC h4 h3 h5) (len3 (P := fun r => r.len ≤ 1000000000) (one_all A.lcs) (one_all B.lcs) nC),
    BagK1.nil _ _ _ _ _ _ (rows3 (SlRows.one A'.zs) (SlRows.one B'.zs) (SlRows.none _ _ _) (o A.bzs) (o B.bzs) nn h1 h2 h0) (low3 (o A.bzs) (o B.bzs) nn h4 h3 h5) (len3 (P := fun r => r.len ≤ 1000000000) (one_all A.lzs) (one_all B.lzs) ln)⟩
/-- What lies in the bag lies in memory from n on. -/
theorem Bag4.keep2 {w w0 w1 : World} {p n la ha lb hb lc hc : Nat} {ri rp rc rr : List Sl} {Ai Ap Ac Ar : Option Addr} {ci cp cc cr : Nat} {a b : Lists} {ins : List Sl} (h : Bag4 w p (a.rows ++ (b.rows ++ [])) ([a.ps] ++ ([b.ps] ++ [])) ([a.cs] ++ ([b.cs] ++ ins)) ([a.zs] ++ ([b.zs] ++ [])) ri rp rc rr Ai Ap Ac Ar ci cp cc cr)
    {wa : World} (A : ListsAt wa la ha a) (B : ListsAt wa lb hb b) (iC : ∀ b, blks ins b → lc ≤ b ∧ b < hc) (h1 : n ≤ la) (h2 : n ≤ lb) (h3 : n ≤ lc) (k : Keeps (fun _ => False) w0 w) (k1 : Keeps (aparts ri rp rc rr) w w1) (hn : w0.heap.size ≤ n) : Keeps (fun _ => False) w0 w1 := by
  have o : ∀ {lo hi : Nat} {r : Sl}, (∀ b, r.blk = some b → lo ≤ b ∧ b < hi) → ∀ b, blks [r] b → lo ≤ b ∧ b < hi := fun h b hb => h b (blks_one hb)
  have nn : ∀ b, blks [] b → lc ≤ b ∧ b < hc := blks_none
  exact k.and k1 (fun b hb hs => by have := h.above (above3 A.iRows B.iRows nn h1 h2 h3) (above3 (o A.bps) (o B.bps) nn h1 h2 h3) (above3 (o A.bcs) (o B.bcs) iC h1 h2 h3) (above3 (o A.bzs) (o B.bzs) nn h1 h2 h3) b hs; omega)
end Go.Proofs.YthmfbcfbcookiaaDoor
