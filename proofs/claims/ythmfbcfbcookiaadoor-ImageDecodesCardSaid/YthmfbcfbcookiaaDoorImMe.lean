/-
  image's reader of a state: all players, all cards, all zones: out of the walks of one. Conditions: lengths within 2 ^ 40.
-/
import Derived.Test.YthmfbcfbcookiaaDoorImMd
namespace Go.Proofs.YthmfbcfbcookiaaDoor
open Go.RowKit
def ReadPlayers (w0 : World) (r B : Nat) (A : Option Addr) (cap : Nat) (b : List Oct) (i : Nat) (bad : Bool) (s : St) (Ac : Option Addr) (Az : Option Addr) (cc : Nat) (cz : Nat) (cells : List Value) (k : Nat) (W : World) : Prop :=
  ∃ (xs : List Pl) (Ap : Option Addr) (cp : Nat), xs.length ≤ k ∧ (∀ l j, (repP playerP k).from b i bad = .ok l j → xs = l) ∧ Rg w0 W r B A cap b ((repP playerP k).from b i bad).at_ ((repP playerP k).from b i bad).isBad { s with players := xs } Ap Ac Az cp cc cz cells
theorem players_any {w0 w : World} {r B cap i : Nat} {A : Option Addr} {b : List Oct} {bad : Bool} {s : St} {Ap Ac Az : Option Addr} {cp cc cz : Nat} {cells : List Value} (h : Rg w0 w r B A cap b i bad s Ap Ac Az cp cc cz cells) (hs : s.players = []) (hl : b.length ≤ 1099511627776) (m : Nat) (hm : m ≤ 256) :
    Calls Tryd.prog 69 #[.pointer (some ⟨r, 0, none⟩), .int .i32 m, .func (.func 70) #[] #[.pointer (some ⟨w0.heap.size + 2, 0, none⟩), .pointer (some ⟨w0.heap.size, 0, none⟩)]] w fun e w' => e = .returned (.tuple #[]) ∧ ReadPlayers w0 r B A cap b i bad s Ac Az cc cz cells m w' := by
  have h0 : ReadPlayers w0 r B A cap b i bad s Ac Az cc cz cells 0 w := by
    refine ⟨[], Ap, cp, Nat.le_refl _, ?_, ?_⟩
    · intro l j e
      cases bad
      · injection e with e1 _
      · cases e
    · have e : { s with players := [] } = s := by rw [← hs]
      rw [e]
      cases bad <;> exact h
  refine (list_any 70 _ (enters_of Tryd.func70 (by kernel_rfl) rfl) m r (ReadPlayers w0 r B A cap b i bad s Ac Az cc cz cells) (fun k => ((repP playerP k).from b i bad).isBad) w (by omega) ?_ ?_ h0).mono ?_
  · rintro k W ⟨xs, Ap, cp, _, _, hz⟩
    exact hz.rd.box.cellAt 2
  · rintro k W hk _ ⟨xs, Ap, cp, hx, hv, hz⟩
    refine (onePlayer_any hz hl (by show xs.length ≤ _; omega)).mono ?_
    rintro e w' ⟨he, x, A', c', hx2, hz2⟩
    refine ⟨he, xs ++ [x], A', c', by simp; omega, rep_more hv hx2, ?_⟩
    rw [rep_at, rep_isBad]
    exact hz2
  · rintro e w' ⟨he, k, hk, ⟨xs, Ap, cp, hx, hv, hz⟩, hend⟩
    refine ⟨he, xs, Ap, cp, by omega, ?_, ?_⟩
    · rcases hend with rfl | hb
      · exact hv
      · exact fun l j e => absurd e (bad_none (rep_stop hk hb).2 l j)
    · rcases hend with rfl | hb
      · exact hz
      · obtain ⟨h1, h2⟩ := rep_stop hk hb
        rw [h1, h2, ← hb]
        exact hz
def ReadCards (w0 : World) (r B : Nat) (A : Option Addr) (cap : Nat) (b : List Oct) (i : Nat) (bad : Bool) (s : St) (Ap : Option Addr) (Az : Option Addr) (cp : Nat) (cz : Nat) (cells : List Value) (k : Nat) (W : World) : Prop :=
  ∃ (xs : List Cd) (Ac : Option Addr) (cc : Nat), xs.length ≤ k ∧ (∀ l j, (repP cardP k).from b i bad = .ok l j → xs = l) ∧ Rg w0 W r B A cap b ((repP cardP k).from b i bad).at_ ((repP cardP k).from b i bad).isBad { s with cards := xs } Ap Ac Az cp cc cz cells
theorem cards_any {w0 w : World} {r B cap i : Nat} {A : Option Addr} {b : List Oct} {bad : Bool} {s : St} {Ap Ac Az : Option Addr} {cp cc cz : Nat} {cells : List Value} (h : Rg w0 w r B A cap b i bad s Ap Ac Az cp cc cz cells) (hs : s.cards = []) (hl : b.length ≤ 1099511627776) (m : Nat) (hm : m ≤ 65536) :
    Calls Tryd.prog 69 #[.pointer (some ⟨r, 0, none⟩), .int .i32 m, .func (.func 72) #[] #[.pointer (some ⟨w0.heap.size, 0, none⟩), .pointer (some ⟨w0.heap.size + 2, 0, none⟩)]] w fun e w' => e = .returned (.tuple #[]) ∧ ReadCards w0 r B A cap b i bad s Ap Az cp cz cells m w' := by
  have h0 : ReadCards w0 r B A cap b i bad s Ap Az cp cz cells 0 w := by
    refine ⟨[], Ac, cc, Nat.le_refl _, ?_, ?_⟩
    · intro l j e
      cases bad
      · injection e with e1 _
      · cases e
    · have e : { s with cards := [] } = s := by rw [← hs]
      rw [e]
      cases bad <;> exact h
  refine (list_any 72 _ (enters_of Tryd.func72 (by kernel_rfl) rfl) m r (ReadCards w0 r B A cap b i bad s Ap Az cp cz cells) (fun k => ((repP cardP k).from b i bad).isBad) w (by omega) ?_ ?_ h0).mono ?_
  · rintro k W ⟨xs, Ac, cc, _, _, hz⟩
    exact hz.rd.box.cellAt 2
  · rintro k W hk _ ⟨xs, Ac, cc, hx, hv, hz⟩
    refine (oneCard_any hz hl (by show xs.length ≤ _; omega)).mono ?_
    rintro e w' ⟨he, x, A', c', hx2, hz2⟩
    refine ⟨he, xs ++ [x], A', c', by simp; omega, rep_more hv hx2, ?_⟩
    rw [rep_at, rep_isBad]
    exact hz2
  · rintro e w' ⟨he, k, hk, ⟨xs, Ac, cc, hx, hv, hz⟩, hend⟩
    refine ⟨he, xs, Ac, cc, by omega, ?_, ?_⟩
    · rcases hend with rfl | hb
      · exact hv
      · exact fun l j e => absurd e (bad_none (rep_stop hk hb).2 l j)
    · rcases hend with rfl | hb
      · exact hz
      · obtain ⟨h1, h2⟩ := rep_stop hk hb
        rw [h1, h2, ← hb]
        exact hz
def ReadZones (w0 : World) (r B : Nat) (A : Option Addr) (cap : Nat) (b : List Oct) (i : Nat) (bad : Bool) (s : St) (Ap : Option Addr) (Ac : Option Addr) (cp : Nat) (cc : Nat) (k : Nat) (W : World) : Prop :=
  ∃ (xs : List (List Int)) (Az : Option Addr) (cz : Nat) (cells : List Value), xs.length ≤ k ∧ (∀ l j, (repP zoneP k).from b i bad = .ok l j → xs = l) ∧ Rg w0 W r B A cap b ((repP zoneP k).from b i bad).at_ ((repP zoneP k).from b i bad).isBad { s with zones := xs } Ap Ac Az cp cc cz cells
theorem zones_any {w0 w : World} {r B cap i : Nat} {A : Option Addr} {b : List Oct} {bad : Bool} {s : St} {Ap Ac Az : Option Addr} {cp cc cz : Nat} {cells : List Value} (h : Rg w0 w r B A cap b i bad s Ap Ac Az cp cc cz cells) (hs : s.zones = []) (hl : b.length ≤ 1099511627776) (m : Nat) (hm : m ≤ 1024) :
    Calls Tryd.prog 69 #[.pointer (some ⟨r, 0, none⟩), .int .i32 m, .func (.func 73) #[] #[.pointer (some ⟨w0.heap.size, 0, none⟩), .pointer (some ⟨w0.heap.size + 2, 0, none⟩)]] w fun e w' => e = .returned (.tuple #[]) ∧ ReadZones w0 r B A cap b i bad s Ap Ac cp cc m w' := by
  have h0 : ReadZones w0 r B A cap b i bad s Ap Ac cp cc 0 w := by
    refine ⟨[], Az, cz, cells, Nat.le_refl _, ?_, ?_⟩
    · intro l j e
      cases bad
      · injection e with e1 _
      · cases e
    · have e : { s with zones := [] } = s := by rw [← hs]
      rw [e]
      cases bad <;> exact h
  refine (list_any 73 _ (enters_of Tryd.func73 (by kernel_rfl) rfl) m r (ReadZones w0 r B A cap b i bad s Ap Ac cp cc) (fun k => ((repP zoneP k).from b i bad).isBad) w (by omega) ?_ ?_ h0).mono ?_
  · rintro k W ⟨xs, Az, cz, cells, _, _, hz⟩
    exact hz.rd.box.cellAt 2
  · rintro k W hk _ ⟨xs, Az, cz, cells, hx, hv, hz⟩
    refine (oneZone_any hz hl (by show xs.length ≤ _; omega)).mono ?_
    rintro e w' ⟨he, x, A', c', cells', hx2, hz2⟩
    refine ⟨he, xs ++ [x], A', c', cells', by simp; omega, rep_more hv hx2, ?_⟩
    rw [rep_at, rep_isBad]
    exact hz2
  · rintro e w' ⟨he, k, hk, ⟨xs, Az, cz, cells, hx, hv, hz⟩, hend⟩
    refine ⟨he, xs, Az, cz, cells, by omega, ?_, ?_⟩
    · rcases hend with rfl | hb
      · exact hv
      · exact fun l j e => absurd e (bad_none (rep_stop hk hb).2 l j)
    · rcases hend with rfl | hb
      · exact hz
      · obtain ⟨h1, h2⟩ := rep_stop hk hb
        rw [h1, h2, ← hb]
        exact hz
end Go.Proofs.YthmfbcfbcookiaaDoor
/-
  A state, read behind its name: the plain law of the steps. Conditions: none.
-/
namespace Go.Proofs.YthmfbcfbcookiaaDoor
section
variable {α β : Type}
theorem andThen_ok {p : Pr α} {f : α → Pr β} {b : List Oct} {i j : Nat} {bad : Bool} {y : β} (h : (p.andThen f).from b i bad = .ok y j) : ∃ a k, p.from b i bad = .ok a k ∧ (f a).from b k false = .ok y j := by
  cases bad
  · unfold Pr.from Pr.andThen at h
    simp only [Bool.false_eq_true, if_false] at h
    unfold Pr.from
    simp only [Bool.false_eq_true, if_false]
    cases e : p b i with
    | bad q => rw [e] at h; cases h
    | ok a k => rw [e] at h; exact ⟨a, k, rfl, h⟩
  · cases h
theorem map_ok {p : Pr α} {f : α → β} {b : List Oct} {i j : Nat} {bad : Bool} {y : β} (h : (p.map f).from b i bad = .ok y j) : ∃ a, p.from b i bad = .ok a j ∧ y = f a := by
  rw [from_map] at h
  cases e : p.from b i bad with
  | bad q => rw [e] at h; cases h
  | ok a k =>
    rw [e] at h
    injection h with h1 h2
    subst h2
    exact ⟨a, rfl, h1.symm⟩
theorem isBad_iff (R : Rd α) : (R.isBad = true ∧ R = .bad R.at_) ∨ (R.isBad = false ∧ ∃ a, R = .ok a R.at_) := by
  cases R with
  | bad q => exact Or.inl ⟨rfl, rfl⟩
  | ok a j => exact Or.inr ⟨rfl, a, rfl⟩
end
/-- What stands behind the name. -/
def restP : Pr St := (numP 1).andThen fun n => (repP playerP n.toNat).andThen fun ps => (numP 2).andThen fun m => (repP cardP m.toNat).andThen fun cs => (repP zoneP (4 * n.toNat)).andThen fun zs =>
  s32P.andThen fun t => (numP 1).andThen fun wh => s8P.andThen fun f => (numP 1).map fun wi => ⟨ps, cs, zs, t, wh, f, wi⟩
theorem state_rest {b : List Oct} (h : litP headL b 0 = .ok () 5) : stateP b 0 = restP.from b 5 false := by
  show (litP headL).andThen (fun _ => restP) b 0 = restP b 5
  unfold Pr.andThen
  rw [h]
theorem s8_at (b : List Oct) (i : Nat) (bad : Bool) : (s8P.from b i bad).at_ = ((numP 1).from b i bad).at_ := from_map_at _ _ _ _ _
theorem s8_bad (b : List Oct) (i : Nat) (bad : Bool) : (s8P.from b i bad).isBad = ((numP 1).from b i bad).isBad := from_map_bad _ _ _ _ _
/-- A number of one or two bytes, as the reader hands it over. -/
theorem num_of {n : Nat} (hn : n ≤ 2) (b : List Oct) (i : Nat) (bad : Bool) : ∃ m : Nat, sx32 (((numP n).from b i bad).val 0) = (m : Int) ∧ m < 65536 ∧ ((numP n).from b i bad).val 0 = (m : Int) ∧ (n ≤ 1 → m < 256) := by
  have hb := num_bound b i bad hn
  refine ⟨(sx32 (((numP n).from b i bad).val 0)).toNat, by omega, by omega, ?_, ?_⟩
  · cases e : (numP n).from b i bad with
    | bad q => rfl
    | ok y j =>
      have h := num_val hn e
      rw [e] at h
      rw [h.2.2]
      simp only [Rd.val]
      omega
  · intro h1
    cases e : (numP n).from b i bad with
    | bad q => show (sx32 0).toNat < 256; decide
    | ok y j =>
      have h := (num_val hn e).2.2
      rw [e] at h
      rw [h]
      cases bad
      · have h2 : numP n b i = .ok y j := e
        unfold numP at h2
        split at h2
        · injection h2 with e1 _
          have h3 := val_lt ((b.drop i).take n)
          have h4 : ((b.drop i).take n).length ≤ 1 := by rw [List.length_take]; omega
          have h5 : 256 ^ ((b.drop i).take n).length ≤ 256 ^ 1 := Nat.pow_le_pow_right (by decide) h4
          omega
        · cases h2
      · cases e
theorem wrap8_sx (x : Int) (h0 : 0 ≤ x) (h1 : x < 256) : IntKind.i8.wrap x = sx8 x := by
  unfold sx8
  split
  · simp [IntKind.wrap, IntKind.signed, IntKind.bits]; omega
  · simp [IntKind.wrap, IntKind.signed, IntKind.bits]; omega
/-- The steps behind the name: where each begins. -/
structure Steps (b : List Oct) (n m : Nat) (i1 i2 i3 i4 i5 i6 i7 i8 i9 : Nat) (b1 b2 b3 b4 b5 b6 b7 b8 b9 : Bool) : Prop where
  cn : (((numP 1).from b 5 false).val 0).toNat = n
  a1 : ((numP 1).from b 5 false).at_ = i1
  c1 : ((numP 1).from b 5 false).isBad = b1
  a2 : ((repP playerP n).from b i1 b1).at_ = i2
  c2 : ((repP playerP n).from b i1 b1).isBad = b2
  cm : (((numP 2).from b i2 b2).val 0).toNat = m
  a3 : ((numP 2).from b i2 b2).at_ = i3
  c3 : ((numP 2).from b i2 b2).isBad = b3
  a4 : ((repP cardP m).from b i3 b3).at_ = i4
  c4 : ((repP cardP m).from b i3 b3).isBad = b4
  a5 : ((repP zoneP (4 * n)).from b i4 b4).at_ = i5
  c5 : ((repP zoneP (4 * n)).from b i4 b4).isBad = b5
  a6 : ((numP 4).from b i5 b5).at_ = i6
  c6 : ((numP 4).from b i5 b5).isBad = b6
  a7 : ((numP 1).from b i6 b6).at_ = i7
  c7 : ((numP 1).from b i6 b6).isBad = b7
  a8 : ((numP 1).from b i7 b7).at_ = i8
  c8 : ((numP 1).from b i7 b7).isBad = b8
  a9 : ((numP 1).from b i8 b8).at_ = i9
  c9 : ((numP 1).from b i8 b8).isBad = b9
section
variable {b : List Oct} {n m : Nat} {i1 i2 i3 i4 i5 i6 i7 i8 i9 : Nat} {b1 b2 b3 b4 b5 b6 b7 b8 b9 : Bool}
theorem Steps.ends (h : Steps b n m i1 i2 i3 i4 i5 i6 i7 i8 i9 b1 b2 b3 b4 b5 b6 b7 b8 b9) : (restP.from b 5 false).at_ = i9 ∧ (restP.from b 5 false).isBad = b9 := by
  have e : ∃ g : Int → St, restP.from b 5 false = ((numP 1).map g).from b i8 b8 := by
    unfold restP
    rw [from_seq 0, h.a1, h.c1, h.cn, from_seq [], h.a2, h.c2, from_seq 0, h.a3, h.c3, h.cm, from_seq [], h.a4, h.c4, from_seq [], h.a5, h.c5, from_seq 0, s32_at, s32_bad, h.a6, h.c6, from_seq 0, h.a7, h.c7, from_seq 0, s8_at, s8_bad, h.a8, h.c8]
    exact ⟨_, rfl⟩
  obtain ⟨g, e⟩ := e
  rw [e, from_map_at, from_map_bad]
  exact ⟨h.a9, h.c9⟩
/-- If all was read, it is what was gathered. -/
theorem Steps.vals (h : Steps b n m i1 i2 i3 i4 i5 i6 i7 i8 i9 b1 b2 b3 b4 b5 b6 b7 b8 b9) {ps : List Pl} {cs : List Cd} {zs : List (List Int)} (hp : ∀ l j, (repP playerP n).from b i1 b1 = .ok l j → ps = l) (hc : ∀ l j, (repP cardP m).from b i3 b3 = .ok l j → cs = l) (hz : ∀ l j, (repP zoneP (4 * n)).from b i4 b4 = .ok l j → zs = l) :
    ∀ y j, restP.from b 5 false = .ok y j → (⟨ps, cs, zs, sx32 (((numP 4).from b i5 b5).val 0), sx32 (((numP 1).from b i6 b6).val 0), sx8 (((numP 1).from b i7 b7).val 0), sx32 (((numP 1).from b i8 b8).val 0)⟩ : St) = y := by
  intro y j e
  obtain ⟨n', k1, e1, e⟩ := andThen_ok e
  obtain ⟨ps', k2, e2, e⟩ := andThen_ok e
  obtain ⟨m', k3, e3, e⟩ := andThen_ok e
  obtain ⟨cs', k4, e4, e⟩ := andThen_ok e
  obtain ⟨zs', k5, e5, e⟩ := andThen_ok e
  obtain ⟨t, k6, e6, e⟩ := andThen_ok e
  obtain ⟨wh, k7, e7, e⟩ := andThen_ok e
  obtain ⟨f, k8, e8, e⟩ := andThen_ok e
  obtain ⟨wi, e9, rfl⟩ := map_ok e
  have g1 := h.a1; have g2 := h.c1; have g0 := h.cn
  rw [e1] at g0 g1 g2
  simp only [Rd.at_, Rd.isBad, Rd.val] at g0 g1 g2
  subst g0 g1 g2
  have g1 := h.a2; have g2 := h.c2
  rw [e2] at g1 g2
  simp only [Rd.at_, Rd.isBad] at g1 g2
  subst g1 g2
  have g1 := h.a3; have g2 := h.c3; have g0 := h.cm
  rw [e3] at g0 g1 g2
  simp only [Rd.at_, Rd.isBad, Rd.val] at g0 g1 g2
  subst g0 g1 g2
  have g1 := h.a4; have g2 := h.c4
  rw [e4] at g1 g2
  simp only [Rd.at_, Rd.isBad] at g1 g2
  subst g1 g2
  have g1 := h.a5; have g2 := h.c5
  rw [e5] at g1 g2
  simp only [Rd.at_, Rd.isBad] at g1 g2
  subst g1 g2
  have g1 := h.a6; have g2 := h.c6
  rw [← s32_at, e6] at g1
  rw [← s32_bad, e6] at g2
  simp only [Rd.at_, Rd.isBad] at g1 g2
  subst g1 g2
  have g1 := h.a7; have g2 := h.c7
  rw [e7] at g1 g2
  simp only [Rd.at_, Rd.isBad] at g1 g2
  subst g1 g2
  have g1 := h.a8; have g2 := h.c8
  rw [← s8_at, e8] at g1
  rw [← s8_bad, e8] at g2
  simp only [Rd.at_, Rd.isBad] at g1 g2
  subst g1 g2
  have v6 : t = sx32 (((numP 4).from b k5 false).val 0) := by
    have h6 := s32_val b k5 false
    rw [e6] at h6
    exact h6
  have v8 : f = sx8 (((numP 1).from b k7 false).val 0) := by
    have h8 := from_map_val 0 (numP 1) sx8 b k7 false
    rw [show sx8 0 = 0 from rfl, show (numP 1).map sx8 = s8P from rfl, e8] at h8
    exact h8
  rw [hp _ _ e2, hc _ _ e4, hz _ _ e5, ← v6, (num_val (show 1 ≤ 2 by decide) e7).2.2, ← v8, (num_val (show 1 ≤ 2 by decide) e9).2.2]
end
end Go.Proofs.YthmfbcfbcookiaaDoor
