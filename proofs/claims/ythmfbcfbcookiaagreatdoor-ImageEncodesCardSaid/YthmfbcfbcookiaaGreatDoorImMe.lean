/-
  image's reader of a state: all players, all cards, all zones: out of the walks of one. Conditions: lengths within 2 ^ 40.
-/
import Derived.Test.YthmfbcfbcookiaaGreatDoorImMd
import Derived.WalkMore
import Derived.WalkSmall
import Derived.Lib.OthersKept
namespace Go.Proofs.YthmfbcfbcookiaaGreatDoor
open Go.RowKit
def ReadPlayers (w0 : World) (r B : Nat) (A : Option Addr) (cap : Nat) (b : List Oct) (i : Nat) (bad : Bool) (s : St) (Ac : Option Addr) (Az : Option Addr) (cc : Nat) (cz : Nat) (cells : List Value) (k : Nat) (W : World) : Prop :=
  ∃ (xs : List Pl) (Ap : Option Addr) (cp : Nat), xs.length ≤ k ∧ (∀ l j, (repP playerP k).from b i bad = .ok l j → xs = l) ∧ Rg w0 W r B A cap b ((repP playerP k).from b i bad).at_ ((repP playerP k).from b i bad).isBad { s with players := xs } Ap Ac Az cp cc cz cells
theorem players_any {w0 w : World} {r B cap i : Nat} {A : Option Addr} {b : List Oct} {bad : Bool} {s : St} {Ap Ac Az : Option Addr} {cp cc cz : Nat} {cells : List Value} (h : Rg w0 w r B A cap b i bad s Ap Ac Az cp cc cz cells) (hs : s.players = []) (hl : b.length ≤ 1099511627776) (m : Nat) (hm : m ≤ 256) :
    Calls Tryz.prog 81 #[.pointer (some ⟨r, 0, none⟩), .int .i32 m, .func (.func 82) #[] #[.pointer (some ⟨w0.heap.size + 2, 0, none⟩), .pointer (some ⟨w0.heap.size, 0, none⟩)]] w fun e w' => e = .returned (.tuple #[]) ∧ ReadPlayers w0 r B A cap b i bad s Ac Az cc cz cells m w' := by
  have h0 : ReadPlayers w0 r B A cap b i bad s Ac Az cc cz cells 0 w := by
    refine ⟨[], Ap, cp, Nat.le_refl _, ?_, ?_⟩
    · intro l j e
      cases bad
      · injection e with e1 _
      · cases e
    · have e : { s with players := [] } = s := by rw [← hs]
      rw [e]
      cases bad <;> exact h
  refine (list_any 82 _ (enters_of Tryz.func82 (by kernel_rfl) rfl) m r (ReadPlayers w0 r B A cap b i bad s Ac Az cc cz cells) (fun k => ((repP playerP k).from b i bad).isBad) w (by omega) ?_ ?_ h0).mono ?_
  · rintro k W ⟨xs, Ap, cp, _, _, hz⟩
    exact hz.rd.box.cellAt 2
  · rintro k W hk _ ⟨xs, Ap, cp, hx, hv, hz⟩
    refine (onePlayer_any hz hl (by show xs.length ≤ _; omega)).mono ?_
    rintro e w' ⟨he, x, A', c', hx2, hz2⟩
    refine ⟨he, xs ++ [x], A', c', by simp; omega, rep_more hv hx2, ?_⟩
    rw [rep_at, rep_isBad]
    exact hz2
  · rintro e w' ⟨he, k, hk, ⟨xs, Ap, cp, hx, hv, hz⟩, hend⟩
    refine ⟨he, xs, Ap, cp, by omega, ?_, ?_⟩
    · rcases hend with rfl | hb
      · exact hv
      · exact fun l j e => absurd e (bad_none (rep_stop hk hb).2 l j)
    · rcases hend with rfl | hb
      · exact hz
      · obtain ⟨h1, h2⟩ := rep_stop hk hb
        rw [h1, h2, ← hb]
        exact hz
def ReadCards (w0 : World) (r B : Nat) (A : Option Addr) (cap : Nat) (b : List Oct) (i : Nat) (bad : Bool) (s : St) (Ap : Option Addr) (Az : Option Addr) (cp : Nat) (cz : Nat) (cells : List Value) (k : Nat) (W : World) : Prop :=
  ∃ (xs : List Cd) (Ac : Option Addr) (cc : Nat), xs.length ≤ k ∧ (∀ l j, (repP cardP k).from b i bad = .ok l j → xs = l) ∧ Rg w0 W r B A cap b ((repP cardP k).from b i bad).at_ ((repP cardP k).from b i bad).isBad { s with cards := xs } Ap Ac Az cp cc cz cells
theorem cards_any {w0 w : World} {r B cap i : Nat} {A : Option Addr} {b : List Oct} {bad : Bool} {s : St} {Ap Ac Az : Option Addr} {cp cc cz : Nat} {cells : List Value} (h : Rg w0 w r B A cap b i bad s Ap Ac Az cp cc cz cells) (hs : s.cards = []) (hl : b.length ≤ 1099511627776) (m : Nat) (hm : m ≤ 65536) :
    Calls Tryz.prog 81 #[.pointer (some ⟨r, 0, none⟩), .int .i32 m, .func (.func 84) #[] #[.pointer (some ⟨w0.heap.size, 0, none⟩), .pointer (some ⟨w0.heap.size + 2, 0, none⟩)]] w fun e w' => e = .returned (.tuple #[]) ∧ ReadCards w0 r B A cap b i bad s Ap Az cp cz cells m w' := by
  have h0 : ReadCards w0 r B A cap b i bad s Ap Az cp cz cells 0 w := by
    refine ⟨[], Ac, cc, Nat.le_refl _, ?_, ?_⟩
    · intro l j e
      cases bad
      · injection e with e1 _
      · cases e
    · have e : { s with cards := [] } = s := by rw [← hs]
      rw [e]
      cases bad <;> exact h
  refine (list_any 84 _ (enters_of Tryz.func84 (by kernel_rfl) rfl) m r (ReadCards w0 r B A cap b i bad s Ap Az cp cz cells) (fun k => ((repP cardP k).from b i bad).isBad) w (by omega) ?_ ?_ h0).mono ?_
  · rintro k W ⟨xs, Ac, cc, _, _, hz⟩
    exact hz.rd.box.cellAt 2
  · rintro k W hk _ ⟨xs, Ac, cc, hx, hv, hz⟩
    refine (oneCard_any hz hl (by show xs.length ≤ _; omega)).mono ?_
    rintro e w' ⟨he, x, A', c', hx2, hz2⟩
    refine ⟨he, xs ++ [x], A', c', by simp; omega, rep_more hv hx2, ?_⟩
    rw [rep_at, rep_isBad]
    exact hz2
  · rintro e w' ⟨he, k, hk, ⟨xs, Ac, cc, hx, hv, hz⟩, hend⟩
    refine ⟨he, xs, Ac, cc, by omega, ?_, ?_⟩
    · rcases hend with rfl | hb
      · exact hv
      · exact fun l j e => absurd e (bad_none (rep_stop hk hb).2 l j)
    · rcases hend with rfl | hb
      · exact hz
      · obtain ⟨h1, h2⟩ := rep_stop hk hb
        rw [h1, h2, ← hb]
        exact hz
def ReadZones (w0 : World) (r B : Nat) (A : Option Addr) (cap : Nat) (b : List Oct) (i : Nat) (bad : Bool) (s : St) (Ap : Option Addr) (Ac : Option Addr) (cp : Nat) (cc : Nat) (k : Nat) (W : World) : Prop :=
  ∃ (xs : List (List Int)) (Az : Option Addr) (cz : Nat) (cells : List Value), xs.length ≤ k ∧ (∀ l j, (repP zoneP k).from b i bad = .ok l j → xs = l) ∧ Rg w0 W r B A cap b ((repP zoneP k).from b i bad).at_ ((repP zoneP k).from b i bad).isBad { s with zones := xs } Ap Ac Az cp cc cz cells
theorem zones_any {w0 w : World} {r B cap i : Nat} {A : Option Addr} {b : List Oct} {bad : Bool} {s : St} {Ap Ac Az : Option Addr} {cp cc cz : Nat} {cells : List Value} (h : Rg w0 w r B A cap b i bad s Ap Ac Az cp cc cz cells) (hs : s.zones = []) (hl : b.length ≤ 1099511627776) (m : Nat) (hm : m ≤ 1024) :
    Calls Tryz.prog 81 #[.pointer (some ⟨r, 0, none⟩), .int .i32 m, .func (.func 85) #[] #[.pointer (some ⟨w0.heap.size, 0, none⟩), .pointer (some ⟨w0.heap.size + 2, 0, none⟩)]] w fun e w' => e = .returned (.tuple #[]) ∧ ReadZones w0 r B A cap b i bad s Ap Ac cp cc m w' := by
  have h0 : ReadZones w0 r B A cap b i bad s Ap Ac cp cc 0 w := by
    refine ⟨[], Az, cz, cells, Nat.le_refl _, ?_, ?_⟩
    · intro l j e
      cases bad
      · injection e with e1 _
      · cases e
    · have e : { s with zones := [] } = s := by rw [← hs]
      rw [e]
      cases bad <;> exact h
  refine (list_any 85 _ (enters_of Tryz.func85 (by kernel_rfl) rfl) m r (ReadZones w0 r B A cap b i bad s Ap Ac cp cc) (fun k => ((repP zoneP k).from b i bad).isBad) w (by omega) ?_ ?_ h0).mono ?_
  · rintro k W ⟨xs, Az, cz, cells, _, _, hz⟩
    exact hz.rd.box.cellAt 2
  · rintro k W hk _ ⟨xs, Az, cz, cells, hx, hv, hz⟩
    refine (oneZone_any hz hl (by show xs.length ≤ _; omega)).mono ?_
    rintro e w' ⟨he, x, A', c', cells', hx2, hz2⟩
    refine ⟨he, xs ++ [x], A', c', cells', by simp; omega, rep_more hv hx2, ?_⟩
    rw [rep_at, rep_isBad]
    exact hz2
  · rintro e w' ⟨he, k, hk, ⟨xs, Az, cz, cells, hx, hv, hz⟩, hend⟩
    refine ⟨he, xs, Az, cz, cells, by omega, ?_, ?_⟩
    · rcases hend with rfl | hb
      · exact hv
      · exact fun l j e => absurd e (bad_none (rep_stop hk hb).2 l j)
    · rcases hend with rfl | hb
      · exact hz
      · obtain ⟨h1, h2⟩ := rep_stop hk hb
        rw [h1, h2, ← hb]
        exact hz
end Go.Proofs.YthmfbcfbcookiaaGreatDoor
/-
  A state, read behind its name: the plain law of the steps. Conditions: none.
-/
namespace Go.Proofs.YthmfbcfbcookiaaGreatDoor
section
variable {α β : Type}
theorem andThen_ok {p : Pr α} {f : α → Pr β} {b : List Oct} {i j : Nat} {bad : Bool} {y : β} (h : (p.andThen f).from b i bad = .ok y j) : ∃ a k, p.from b i bad = .ok a k ∧ (f a).from b k false = .ok y j := by
  cases bad
  · unfold Pr.from Pr.andThen at h
    simp only [Bool.false_eq_true, if_false] at h
    unfold Pr.from
    simp only [Bool.false_eq_true, if_false]
    cases e : p b i with
    | bad q => rw [e] at h; cases h
    | ok a k => rw [e] at h; exact ⟨a, k, rfl, h⟩
  · cases h
theorem map_ok {p : Pr α} {f : α → β} {b : List Oct} {i j : Nat} {bad : Bool} {y : β} (h : (p.map f).from b i bad = .ok y j) : ∃ a, p.from b i bad = .ok a j ∧ y = f a := by
  rw [from_map] at h
  cases e : p.from b i bad with
  | bad q => rw [e] at h; cases h
  | ok a k =>
    rw [e] at h
    injection h with h1 h2
    subst h2
    exact ⟨a, rfl, h1.symm⟩
theorem isBad_iff (R : Rd α) : (R.isBad = true ∧ R = .bad R.at_) ∨ (R.isBad = false ∧ ∃ a, R = .ok a R.at_) := by
  cases R with
  | bad q => exact Or.inl ⟨rfl, rfl⟩
  | ok a j => exact Or.inr ⟨rfl, a, rfl⟩
end
/-- What stands behind the name. -/
def restP : Pr St := (numP 1).andThen fun n => (repP playerP n.toNat).andThen fun ps => (numP 2).andThen fun m => (repP cardP m.toNat).andThen fun cs => (repP zoneP (4 * n.toNat)).andThen fun zs =>
  s32P.andThen fun t => (numP 1).andThen fun wh => s8P.andThen fun f => (numP 1).map fun wi => ⟨ps, cs, zs, t, wh, f, wi⟩
theorem state_rest {b : List Oct} (h : litP headL b 0 = .ok () 5) : stateP b 0 = restP.from b 5 false := by
  show (litP headL).andThen (fun _ => restP) b 0 = restP b 5
  unfold Pr.andThen
  rw [h]
theorem s8_at (b : List Oct) (i : Nat) (bad : Bool) : (s8P.from b i bad).at_ = ((numP 1).from b i bad).at_ := from_map_at _ _ _ _ _
theorem s8_bad (b : List Oct) (i : Nat) (bad : Bool) : (s8P.from b i bad).isBad = ((numP 1).from b i bad).isBad := from_map_bad _ _ _ _ _
/-- A number of one or two bytes, as the reader hands it over. -/
theorem num_of {n : Nat} (hn : n ≤ 2) (b : List Oct) (i : Nat) (bad : Bool) : ∃ m : Nat, sx32 (((numP n).from b i bad).val 0) = (m : Int) ∧ m < 65536 ∧ ((numP n).from b i bad).val 0 = (m : Int) ∧ (n ≤ 1 → m < 256) := by
  have hb := num_bound b i bad hn
  refine ⟨(sx32 (((numP n).from b i bad).val 0)).toNat, by omega, by omega, ?_, ?_⟩
  · cases e : (numP n).from b i bad with
    | bad q => rfl
    | ok y j =>
      have h := num_val hn e
      rw [e] at h
      rw [h.2.2]
      simp only [Rd.val]
      omega
  · intro h1
    cases e : (numP n).from b i bad with
    | bad q => show (sx32 0).toNat < 256; decide
    | ok y j =>
      have h := (num_val hn e).2.2
      rw [e] at h
      rw [h]
      cases bad
      · have h2 : numP n b i = .ok y j := e
        unfold numP at h2
        split at h2
        · injection h2 with e1 _
          have h3 := val_lt ((b.drop i).take n)
          have h4 : ((b.drop i).take n).length ≤ 1 := by rw [List.length_take]; omega
          have h5 : 256 ^ ((b.drop i).take n).length ≤ 256 ^ 1 := Nat.pow_le_pow_right (by decide) h4
          omega
        · cases h2
      · cases e
theorem wrap8_sx (x : Int) (h0 : 0 ≤ x) (h1 : x < 256) : IntKind.i8.wrap x = sx8 x := by
  unfold sx8
  split
  · simp [IntKind.wrap, IntKind.signed, IntKind.bits]; omega
  · simp [IntKind.wrap, IntKind.signed, IntKind.bits]; omega
/-- The steps behind the name: where each begins. -/
structure Steps (b : List Oct) (n m : Nat) (i1 i2 i3 i4 i5 i6 i7 i8 i9 : Nat) (b1 b2 b3 b4 b5 b6 b7 b8 b9 : Bool) : Prop where
  cn : (((numP 1).from b 5 false).val 0).toNat = n
  a1 : ((numP 1).from b 5 false).at_ = i1
  c1 : ((numP 1).from b 5 false).isBad = b1
  a2 : ((repP playerP n).from b i1 b1).at_ = i2
  c2 : ((repP playerP n).from b i1 b1).isBad = b2
  cm : (((numP 2).from b i2 b2).val 0).toNat = m
  a3 : ((numP 2).from b i2 b2).at_ = i3
  c3 : ((numP 2).from b i2 b2).isBad = b3
  a4 : ((repP cardP m).from b i3 b3).at_ = i4
  c4 : ((repP cardP m).from b i3 b3).isBad = b4
  a5 : ((repP zoneP (4 * n)).from b i4 b4).at_ = i5
  c5 : ((repP zoneP (4 * n)).from b i4 b4).isBad = b5
  a6 : ((numP 4).from b i5 b5).at_ = i6
  c6 : ((numP 4).from b i5 b5).isBad = b6
  a7 : ((numP 1).from b i6 b6).at_ = i7
  c7 : ((numP 1).from b i6 b6).isBad = b7
  a8 : ((numP 1).from b i7 b7).at_ = i8
  c8 : ((numP 1).from b i7 b7).isBad = b8
  a9 : ((numP 1).from b i8 b8).at_ = i9
  c9 : ((numP 1).from b i8 b8).isBad = b9
section
variable {b : List Oct} {n m : Nat} {i1 i2 i3 i4 i5 i6 i7 i8 i9 : Nat} {b1 b2 b3 b4 b5 b6 b7 b8 b9 : Bool}
theorem Steps.ends (h : Steps b n m i1 i2 i3 i4 i5 i6 i7 i8 i9 b1 b2 b3 b4 b5 b6 b7 b8 b9) : (restP.from b 5 false).at_ = i9 ∧ (restP.from b 5 false).isBad = b9 := by
  have e : ∃ g : Int → St, restP.from b 5 false = ((numP 1).map g).from b i8 b8 := by
    unfold restP
    rw [from_seq 0, h.a1, h.c1, h.cn, from_seq [], h.a2, h.c2, from_seq 0, h.a3, h.c3, h.cm, from_seq [], h.a4, h.c4, from_seq [], h.a5, h.c5, from_seq 0, s32_at, s32_bad, h.a6, h.c6, from_seq 0, h.a7, h.c7, from_seq 0, s8_at, s8_bad, h.a8, h.c8]
    exact ⟨_, rfl⟩
  obtain ⟨g, e⟩ := e
  rw [e, from_map_at, from_map_bad]
  exact ⟨h.a9, h.c9⟩
/-- If all was read, it is what was gathered. -/
theorem Steps.vals (h : Steps b n m i1 i2 i3 i4 i5 i6 i7 i8 i9 b1 b2 b3 b4 b5 b6 b7 b8 b9) {ps : List Pl} {cs : List Cd} {zs : List (List Int)} (hp : ∀ l j, (repP playerP n).from b i1 b1 = .ok l j → ps = l) (hc : ∀ l j, (repP cardP m).from b i3 b3 = .ok l j → cs = l) (hz : ∀ l j, (repP zoneP (4 * n)).from b i4 b4 = .ok l j → zs = l) :
    ∀ y j, restP.from b 5 false = .ok y j → (⟨ps, cs, zs, sx32 (((numP 4).from b i5 b5).val 0), sx32 (((numP 1).from b i6 b6).val 0), sx8 (((numP 1).from b i7 b7).val 0), sx32 (((numP 1).from b i8 b8).val 0)⟩ : St) = y := by
  intro y j e
  obtain ⟨n', k1, e1, e⟩ := andThen_ok e
  obtain ⟨ps', k2, e2, e⟩ := andThen_ok e
  obtain ⟨m', k3, e3, e⟩ := andThen_ok e
  obtain ⟨cs', k4, e4, e⟩ := andThen_ok e
  obtain ⟨zs', k5, e5, e⟩ := andThen_ok e
  obtain ⟨t, k6, e6, e⟩ := andThen_ok e
  obtain ⟨wh, k7, e7, e⟩ := andThen_ok e
  obtain ⟨f, k8, e8, e⟩ := andThen_ok e
  obtain ⟨wi, e9, rfl⟩ := map_ok e
  have g1 := h.a1; have g2 := h.c1; have g0 := h.cn
  rw [e1] at g0 g1 g2
  simp only [Rd.at_, Rd.isBad, Rd.val] at g0 g1 g2
  subst g0 g1 g2
  have g1 := h.a2; have g2 := h.c2
  rw [e2] at g1 g2
  simp only [Rd.at_, Rd.isBad] at g1 g2
  subst g1 g2
  have g1 := h.a3; have g2 := h.c3; have g0 := h.cm
  rw [e3] at g0 g1 g2
  simp only [Rd.at_, Rd.isBad, Rd.val] at g0 g1 g2
  subst g0 g1 g2
  have g1 := h.a4; have g2 := h.c4
  rw [e4] at g1 g2
  simp only [Rd.at_, Rd.isBad] at g1 g2
  subst g1 g2
  have g1 := h.a5; have g2 := h.c5
  rw [e5] at g1 g2
  simp only [Rd.at_, Rd.isBad] at g1 g2
  subst g1 g2
  have g1 := h.a6; have g2 := h.c6
  rw [← s32_at, e6] at g1
  rw [← s32_bad, e6] at g2
  simp only [Rd.at_, Rd.isBad] at g1 g2
  subst g1 g2
  have g1 := h.a7; have g2 := h.c7
  rw [e7] at g1 g2
  simp only [Rd.at_, Rd.isBad] at g1 g2
  subst g1 g2
  have g1 := h.a8; have g2 := h.c8
  rw [← s8_at, e8] at g1
  rw [← s8_bad, e8] at g2
  simp only [Rd.at_, Rd.isBad] at g1 g2
  subst g1 g2
  have v6 : t = sx32 (((numP 4).from b k5 false).val 0) := by
    have h6 := s32_val b k5 false
    rw [e6] at h6
    exact h6
  have v8 : f = sx8 (((numP 1).from b k7 false).val 0) := by
    have h8 := from_map_val 0 (numP 1) sx8 b k7 false
    rw [show sx8 0 = 0 from rfl, show (numP 1).map sx8 = s8P from rfl, e8] at h8
    exact h8
  rw [hp _ _ e2, hc _ _ e4, hz _ _ e5, ← v6, (num_val (show 1 ≤ 2 by decide) e7).2.2, ← v8, (num_val (show 1 ≤ 2 by decide) e9).2.2]
end
end Go.Proofs.YthmfbcfbcookiaaGreatDoor
/-
  image's reader of a state: the walk. Conditions: lengths within 2 ^ 40.
-/
namespace Go.Proofs.YthmfbcfbcookiaaGreatDoor
open Go.RowKit
def zeroSt : St := ⟨[], [], [], 0, 0, 0, 0⟩
/-- What the reader of a state tells. -/
def StTells (r B : Nat) (A : Option Addr) (cap : Nat) (b : List Oct) (w : World) (e : Ending) (w' : World) : Prop :=
  ∃ (x : St) (Ap Ac Az : Option Addr) (cp cc cz : Nat) (cells : List Value), (∀ y j, readP b = .ok y j → x = y) ∧ e = .returned (.agg (stC x Ap Ac Az cp cc cz)) ∧ RdAt w' r B A cap b (readP b).at_ (readP b).isBad ∧ CopyIn w' w.heap.size x Ap Ac Az cp cc cz cells ∧ Apt cells ∧ Keeps (fun k => k = r) w w'
section
variable {w0 w w' : World} {r B cap i : Nat} {A : Option Addr} {b : List Oct} {bad : Bool} {s : St} {Ap Ac Az : Option Addr} {cp cc cz : Nat} {cells : List Value}
/-- The state is laid into the result's block. -/
theorem Rg.tells (h : Rg w0 w r B A cap b i bad s Ap Ac Az cp cc cz cells) (cs : Array Value) : RdAt (w.setRow (w0.heap.size + 1) cs) r B A cap b i bad ∧ CopyIn (w.setRow (w0.heap.size + 1) cs) w0.heap.size s Ap Ac Az cp cc cz cells ∧ Keeps (fun k => k = r) w0 (w.setRow (w0.heap.size + 1) cs) := by
  have hk : Keeps (fun x => x = w0.heap.size + 1) w (w.setRow (w0.heap.size + 1) cs) := Keeps.setRow (S := fun x => x = w0.heap.size + 1) (Keeps.refl _ _) (fun _ => rfl) _
  have hT := whole_ofKind h.res
  have hB := h.rd.below
  have ho := h.old
  exact ⟨h.rd.keepsT hk hT (by decide) (fun k hk e => by omega), ⟨own_keepsT h.lists.players hk hT (by decide), own_keepsT h.lists.cards hk hT (by decide), rows_keepsT h.lists.zones hk hT (by decide) (by decide)⟩, h.keeps.setRow (fun h => absurd h (by omega)) _⟩
theorem Rg.ends (h : Rg w0 w r B A cap b i bad s Ap Ac Az cp cc cz cells) (hv : ∀ y j, readP b = .ok y j → s = y) (ha : (readP b).at_ = i) (hb : (readP b).isBad = bad) : StTells r B A cap b w0 (.returned (.agg (stC s Ap Ac Az cp cc cz))) (w.setRow (w0.heap.size + 1) (stC s Ap Ac Az cp cc cz)) := by
  obtain ⟨h1, h2, h3⟩ := h.tells (stC s Ap Ac Az cp cc cz)
  refine ⟨s, Ap, Ac, Az, cp, cc, cz, cells, hv, rfl, ?_, h2, h.ap, h3⟩
  rw [ha, hb]
  exact h1
theorem Rg.start (h : RdAt w r B A cap b i bad) : Rg w (((w.alloc (.cells #[.pointer (some ⟨r, 0, none⟩)] 101)).alloc (.cells #[.slice none 0 0, .slice none 0 0, .slice none 0 0, .int .i32 0, .int .i64 0, .int .i8 0, .int .i64 0] 27)).alloc (.cells #[.slice none 0 0, .slice none 0 0, .slice none 0 0, .int .i32 0, .int .i64 0, .int .i8 0, .int .i64 0] 27)) r B A cap b i bad zeroSt none none none 0 0 0 [] := by
  have k1 := (Keeps.refl (fun _ => False) w).alloc (.cells #[.pointer (some ⟨r, 0, none⟩)] 101)
  have k2 := k1.alloc (.cells #[.slice none 0 0, .slice none 0 0, .slice none 0 0, .int .i32 0, .int .i64 0, .int .i8 0, .int .i64 0] 27)
  have k3 := k2.alloc (.cells #[.slice none 0 0, .slice none 0 0, .slice none 0 0, .int .i32 0, .int .i64 0, .int .i8 0, .int .i64 0] 27)
  have m2 := Whole.made (w.alloc (.cells #[.pointer (some ⟨r, 0, none⟩)] 101)) 27 #[.slice none 0 0, .slice none 0 0, .slice none 0 0, .int .i32 0, .int .i64 0, .int .i8 0, .int .i64 0]
  have m3 := Whole.made ((w.alloc (.cells #[.pointer (some ⟨r, 0, none⟩)] 101)).alloc (.cells #[.slice none 0 0, .slice none 0 0, .slice none 0 0, .int .i32 0, .int .i64 0, .int .i8 0, .int .i64 0] 27)) 27 #[.slice none 0 0, .slice none 0 0, .slice none 0 0, .int .i32 0, .int .i64 0, .int .i8 0, .int .i64 0]
  simp only [World.size_alloc] at m2 m3
  exact ⟨h.keeps k3 id (fun _ _ => id), ((Whole.made w _ _).alloc _).alloc _, m2.alloc _, m3, ⟨World.ownsRow_nil _ _ _ _, World.ownsRow_nil _ _ _ _, RowsOwn.nil _ _⟩, (fun _ _ _ _ _ h => by simp at h), k3.mono fun _ _ e => e.elim, h.box.inside⟩
theorem Rg.setAt {j : Nat} (h : Rg w0 w r B A cap b i bad s Ap Ac Az cp cc cz cells) (hj : j ≤ b.length) : Rg w0 (w.setCell ⟨r, 1, none⟩ (.int .i64 j)) r B A cap b j bad s Ap Ac Az cp cc cz cells :=
  h.read (h.rd.setAt hj) (Keeps.setCell (S := fun k => k = r) (Keeps.refl _ _) (fun _ => rfl) _)
theorem Rg.setBad (h : Rg w0 w r B A cap b i bad s Ap Ac Az cp cc cz cells) (c : Bool) : Rg w0 (w.setCell ⟨r, 2, none⟩ (.bool c)) r B A cap b i c s Ap Ac Az cp cc cz cells :=
  h.read (h.rd.setBad c) (Keeps.setCell (S := fun k => k = r) (Keeps.refl _ _) (fun _ => rfl) _)
theorem read_bad0 {b : List Oct} {q : Nat} (h : litP headL b 0 = .bad q) : readP b = .bad q := by
  have e : stateP b 0 = .bad q := by
    unfold stateP
    rw [show ∀ (f : Unit → Pr St), (litP headL).andThen f b 0 = .bad q from fun f => by unfold Pr.andThen; rw [h]]
  unfold readP
  rw [e]
theorem read_lt {b : List Oct} {R : Rd St} {i : Nat} (h : stateP b 0 = R) (ha : R.at_ = i) (hi : i < b.length) : readP b = .bad i := by
  unfold readP
  rw [h]
  subst ha
  cases R with
  | bad q => rfl
  | ok s j => exact if_pos hi
theorem read_ge {b : List Oct} {R : Rd St} (h : stateP b 0 = R) (hi : ¬ R.at_ < b.length) : readP b = R := by
  unfold readP
  rw [h]
  cases R with
  | bad q => rfl
  | ok s j => exact if_neg hi
/-- The name's iterator moves on. -/
theorem Rg.iter {it pos pos' : Nat} {hs : ByteArray} (h : Rg w0 w r B A cap b i bad zeroSt none none none 0 0 0 []) (hi : w.heap[it]? = some (.stringIter hs pos)) (hlo : w0.heap.size ≤ it) : Rg w0 (w.iterAt it hs pos') r B A cap b i bad zeroSt none none none 0 0 0 [] := by
  have hne : ∀ g t cs, Whole w g t cs → g ≠ it := fun g t cs hw e => by
    subst e
    have := hw.symm.trans hi
    injection this with this
    cases this
  have hk : Keeps (fun x => x = it) w (w.iterAt it hs pos') := ⟨rfl, rfl, rfl, by rw [Lib.iterAt_size]; exact Nat.le_refl _, fun k _ hn => Lib.iterAt_other w it k hs pos' hn⟩
  have hB := h.rd.below
  have ho := h.old
  exact ⟨⟨h.rd.box.keeps hk (hne _ _ _ h.rd.box), h.rd.lies.keep fun g o hg => hk.cell (by have := h.rd.box.inside; omega) (by omega), h.rd.below, h.rd.place, h.rd.cap⟩, h.name.keeps hk (hne _ _ _ h.name), h.res.keeps hk (hne _ _ _ h.res), h.box.keeps hk (hne _ _ _ h.box),
    ⟨World.ownsRow_nil _ _ _ _, World.ownsRow_nil _ _ _ _, RowsOwn.nil _ _⟩, h.ap, h.keeps.and hk (fun k hk e => by omega), h.old⟩
end
theorem lit_step (b : List Oct) (k : Nat) (hk : k < headL.length) : litP (headL.drop k) b k = if b[k]? = some headL[k] then litP (headL.drop (k + 1)) b (k + 1) else .bad k := by
  rw [List.drop_eq_getElem_cons hk]
  rfl
def nameS : ByteArray := ⟨#[84, 66, 76, 83, 1]⟩
theorem name_at (k : Nat) (hk : k < 5) : (nameS[k]'hk).toNat = (headL[k]'hk).toNat ∧ (nameS[k]'hk).toNat < 128 := by
  have h : ∀ k : Fin 5, (nameS[k.1]'k.2).toNat = (headL[k.1]'k.2).toNat ∧ (nameS[k.1]'k.2).toNat < 128 := by decide
  exact h ⟨k, hk⟩
theorem index_name (k : Nat) (hk : k < 5) (w : World) : (Instr.index 9 (.string ⟨#[84, 66, 76, 83, 1]⟩) (.int .i64 (k : Int))).run Tryz.prog w = .ok (.int .u8 ((nameS[k]'hk).toNat : Int)) w := by
  rcases (show k = 0 ∨ k = 1 ∨ k = 2 ∨ k = 3 ∨ k = 4 by omega) with rfl | rfl | rfl | rfl | rfl <;> kernel_rfl
def CutCards (w0 : World) (r B : Nat) (A : Option Addr) (cap : Nat) (b : List Oct) (i : Nat) (bad : Bool) (s : St) (Ap Az : Option Addr) (cp cz : Nat) (cells : List Value) (m : Nat) (a a' : Act) (w' : World) : Prop :=
  (∃ u51 u52 u53 u54 u55 : Value, a' = (((((a.put (some 51) u51).put (some 52) u52).put (some 53) u53).put (some 54) u54).put (some 55) u55)) ∧ ReadCards w0 r B A cap b i bad s Ap Az cp cz cells m w'
def CutLast (w0 : World) (r B : Nat) (A : Option Addr) (cap : Nat) (b : List Oct) (i : Nat) (bad : Bool) (s : St) (Ap Ac Az : Option Addr) (cp cc cz : Nat) (cells : List Value) (a a' : Act) (w' : World) : Prop :=
  (∃ u61 u62 u63 u64 u65 u66 u67 u68 u69 u70 u71 u72 u73 u74 u75 : Value, a' = (((((((((((((((a.put (some 61) u61).put (some 62) u62).put (some 63) u63).put (some 64) u64).put (some 65) u65).put (some 66) u66).put (some 67) u67).put (some 68) u68).put (some 69) u69).put (some 70) u70).put (some 71) u71).put (some 72) u72).put (some 73) u73).put (some 74) u74).put (some 75) u75)) ∧ Rg w0 w' r B A cap b i bad s Ap Ac Az cp cc cz cells
set_option maxRecDepth 100000 in
set_option maxHeartbeats 4000000 in
theorem readState_any (r B : Nat) (A : Option Addr) (cap : Nat) (b : List Oct) (w : World) (h : RdAt w r B A cap b 0 false) (hl : b.length ≤ 1099511627776) :
    Calls Tryz.prog 64 #[.pointer (some ⟨r, 0, none⟩)] w fun e w' => StTells r B A cap b w e w' := by
  have H0 := Lib.hid (Rg.start h)
  clear h
  go_enter Tryz.func64, Tryz.ntmps64
  go_wp2_with fail
  go_step3
  go_wp2_with fail
  obtain ⟨W0, hW0⟩ : ∃ z, z = ((w.alloc (.cells #[.pointer (some ⟨r, 0, none⟩)] 101)).alloc (.cells #[.slice none 0 0, .slice none 0 0, .slice none 0 0, .int .i32 0, .int .i64 0, .int .i8 0, .int .i64 0] 27)).alloc (.cells #[.slice none 0 0, .slice none 0 0, .slice none 0 0, .int .i32 0, .int .i64 0, .int .i8 0, .int .i64 0] 27) := ⟨_, rfl⟩
  rw [← hW0, show w.heap.size + 1 + 1 = w.heap.size + 2 from rfl]
  rw [← hW0] at H0
  clear hW0
  have hlo0 : w.heap.size ≤ W0.heap.size := H0.out.keeps.size
  go_step3
  go_wp2_with fail
  go_loopw [4] (fun _ wr => wr = W0) (fun _ _ => 0)
  case atStart => exact rfl
  case round =>
    obtain rfl := hrel
    go_wp2_with fail
    obtain ⟨it, hit⟩ : ∃ z, z = wr.heap.size := ⟨_, rfl⟩
    have hI0 : (wr.iter nameS 0).heap[it]? = some (.stringIter nameS 0) := by rw [hit]; exact World.iter_heap wr nameS 0
    have HR0 := Lib.hid (H0.out.calm (w' := wr.iter nameS 0) ((Keeps.refl _ wr).alloc _))
    rw [← hit] at hlo0 ⊢
    clear hit H0
    go_loopw [4] (fun _ w2 => ∃ k : Nat, k ≤ 5 ∧ w2.heap[it]? = some (.stringIter nameS k) ∧ Hid (Rg w w2 r B A cap b k false zeroSt none none none 0 0 0 []) ∧ Hid (litP headL b 0 = litP (headL.drop k) b k)) (fun _ w2 => 5 - w2.iterPos it)
    case atStart => exact ⟨0, by omega, hI0, HR0, Lib.hid rfl⟩
    case round =>
      clear hI0 HR0
      obtain ⟨k, hk, hi, HR, HL⟩ := hrel
      by_cases hp : k < 5
      · obtain ⟨e1, e2⟩ := name_at k hp
        have hnext : ∀ ty, (Instr.next (.pointer (some ⟨it, 0, none⟩)) true ty).run Tryz.prog _ = _ := fun ty => Lib.run_next_ascii_at _ it nameS k ty hi hp e2
        have HR1 := Lib.hid (HR.out.iter (pos' := k + 1) hi hlo0)
        have hi1 := Lib.iterAt_heap _ it nameS k (k + 1) hi
        have hmu := iterPos_of hi
        obtain ⟨W1, hW1⟩ : ∃ z, z = World.iterAt wr it nameS (k + 1) := ⟨_, rfl⟩
        rw [← hW1] at HR1 hi1
        simp only [← hW1] at hnext
        clear hW1 HR hi
        have q0 : W1.cell? ⟨w.heap.size, 0, none⟩ = some (.pointer (some ⟨r, 0, none⟩)) := HR1.out.name.cellAt 0
        have q1 : W1.cell? ⟨r, 0, none⟩ = some (.slice A b.length cap) := HR1.out.rd.box.cellAt 0
        have q2 : W1.cell? ⟨r, 1, none⟩ = some (.int .i64 k) := HR1.out.rd.box.cellAt 1
        have q3 : W1.cell? ⟨r, 2, none⟩ = some (.bool false) := HR1.out.rd.box.cellAt 2
        have g1 := HR1.out.rd.box.free 1
        have g2 := HR1.out.rd.box.free 2
        have HS := lit_step b k hp
        have HIR : Hid (it ≠ r) := Lib.hid (fun e => by have := HR1.out.old; omega)
        by_cases hkb : k < b.length
        · obtain ⟨g, off, rfl, hg, hc⟩ := HR1.out.rd.lies k _ (bytesV_get b k hkb)
          have hdl : (b[k].toNat : Int) = (headL[k]'hp).toNat ∨ (b[k].toNat : Int) ≠ (headL[k]'hp).toNat := by omega
          have hkn : ((k : Int) == (b.length : Int)) = false := by simpa using (show (k : Int) ≠ b.length by omega)
          rcases hdl with hd | hd
          · have hne : ((b[k].toNat : Int) != ((nameS[k]'hp).toNat : Int)) = false := by rw [e1, hd]; simp
            have HL2 : Hid (litP headL b 0 = litP (headL.drop (k + 1)) b (k + 1)) := Lib.hid (by
              rw [HL.out, HS, if_pos]
              rw [List.getElem?_eq_getElem hkb]
              congr 1
              apply BitVec.eq_of_toNat_eq
              omega)
            clear hd HS HL e1
            have hix := index_name k hp
            go_wp2_with fail
            go_quiet (fail)
            go_wp2_with fail
            refine ⟨⟨k + 1, by omega, ?_, Lib.hid ((HR1.out.calm ((Keeps.refl _ W1).drewN _)).setAt (j := k + 1) (by omega)), HL2⟩, ?_⟩
            · rw [Below.heap_setCell _ _ _ _ (by intro e; exact HIR.out e)]
              exact hi1
            · rw [hmu, iterPos_of (s := nameS) (p := k + 1) (by
                rw [Below.heap_setCell _ _ _ _ (by intro e; exact HIR.out e)]
                exact hi1)]
              omega
          · have hne : ((b[k].toNat : Int) != ((nameS[k]'hp).toNat : Int)) = true := by rw [e1]; simpa using hd
            have HL2 : Hid (litP headL b 0 = .bad k) := Lib.hid (by
              rw [HL.out, HS, if_neg]
              rw [List.getElem?_eq_getElem hkb]
              intro e
              injection e with e
              rw [e] at hd
              exact hd rfl)
            clear hd HS HL e1
            have hix := index_name k hp
            go_wp2_with fail
            go_quiet (fail)
            go_wp2_with (first
              | (refine wpList_load_whole rfl 27 _ rfl (w.heap.size + 2) rfl 27 (stC zeroSt none none none 0 0 0) _ ((HR1.out.calm ((Keeps.refl _ W1).drewN _)).setBad true).box Tryz.underlying27 rfl sizeSt ?_)
              | (refine wpList_store_whole rfl 27 _ _ rfl rfl (w.heap.size + 1) rfl (stC zeroSt none none none 0 0 0) rfl 27 #[.slice none 0 0, .slice none 0 0, .slice none 0 0, .int .i32 0, .int .i64 0, .int .i8 0, .int .i64 0] ((HR1.out.calm ((Keeps.refl _ W1).drewN _)).setBad true).res sizeSt rfl (by simp [Value.oneCell', stC]) ?_))
            try refine noGoto_back ?_
            refine bodyPost_ret (results_cell (by rfl) _ (w.heap.size + 1) (by rfl) (stC zeroSt none none none 0 0 0) _ (heap_setRow_same ((HR1.out.calm ((Keeps.refl _ W1).drewN _)).setBad true).res _) _ Tryz.underlying27 rfl sizeSt) rfl ?_
            exact Rg.ends ((HR1.out.calm ((Keeps.refl _ W1).drewN _)).setBad true) (fun y j e => by rw [read_bad0 HL2.out] at e; cases e) (by rw [read_bad0 HL2.out]; rfl) (by rw [read_bad0 HL2.out]; rfl)
        · obtain rfl : k = b.length := by have := HR1.out.rd.place; omega
          have HL2 : Hid (litP headL b 0 = .bad b.length) := Lib.hid (by
            rw [HL.out, HS, if_neg]
            rw [List.getElem?_eq_none (Nat.le_refl _)]
            simp)
          have hkn : ((b.length : Int) == (b.length : Int)) = true := by simp
          clear HS HL e1
          go_wp2_with fail
          go_quiet (fail)
          go_wp2_with (first
            | (refine wpList_load_whole rfl 27 _ rfl (w.heap.size + 2) rfl 27 (stC zeroSt none none none 0 0 0) _ ((HR1.out.calm ((Keeps.refl _ W1).drewN _)).setBad true).box Tryz.underlying27 rfl sizeSt ?_)
            | (refine wpList_store_whole rfl 27 _ _ rfl rfl (w.heap.size + 1) rfl (stC zeroSt none none none 0 0 0) rfl 27 #[.slice none 0 0, .slice none 0 0, .slice none 0 0, .int .i32 0, .int .i64 0, .int .i8 0, .int .i64 0] ((HR1.out.calm ((Keeps.refl _ W1).drewN _)).setBad true).res sizeSt rfl (by simp [Value.oneCell', stC]) ?_))
          try refine noGoto_back ?_
          refine bodyPost_ret (results_cell (by rfl) _ (w.heap.size + 1) (by rfl) (stC zeroSt none none none 0 0 0) _ (heap_setRow_same ((HR1.out.calm ((Keeps.refl _ W1).drewN _)).setBad true).res _) _ Tryz.underlying27 rfl sizeSt) rfl ?_
          exact Rg.ends ((HR1.out.calm ((Keeps.refl _ W1).drewN _)).setBad true) (fun y j e => by rw [read_bad0 HL2.out] at e; cases e) (by rw [read_bad0 HL2.out]; rfl) (by rw [read_bad0 HL2.out]; rfl)
      · obtain rfl : k = 5 := by omega
        have hnext : ∀ ty, (Instr.next (.pointer (some ⟨it, 0, none⟩)) true ty).run Tryz.prog _ = _ := fun ty => Lib.run_next_end_at _ it nameS 5 ty hi (by decide)
        have HL5 : Hid (litP headL b 0 = .ok () 5) := HL
        clear HL hp hk
        have HSR : Hid (stateP b 0 = restP.from b 5 false) := Lib.hid (state_rest HL5.out)
        have H5 := HR
        clear HL5 HR hi hlo0
        obtain ⟨n, hn0, hn1, hn2, hn3⟩ := num_of (show 1 ≤ 2 by decide) b 5 false
        obtain ⟨i1, hi1⟩ : ∃ z, ((numP 1).from b 5 false).at_ = z := ⟨_, rfl⟩
        obtain ⟨b1, hb1⟩ : ∃ z, ((numP 1).from b 5 false).isBad = z := ⟨_, rfl⟩
        obtain ⟨i2, hi2⟩ : ∃ z, ((repP playerP n).from b i1 b1).at_ = z := ⟨_, rfl⟩
        obtain ⟨b2, hb2⟩ : ∃ z, ((repP playerP n).from b i1 b1).isBad = z := ⟨_, rfl⟩
        obtain ⟨m, hm0, hm1, hm2, _⟩ := num_of (Nat.le_refl 2) b i2 b2
        obtain ⟨i3, hi3⟩ : ∃ z, ((numP 2).from b i2 b2).at_ = z := ⟨_, rfl⟩
        obtain ⟨b3, hb3⟩ : ∃ z, ((numP 2).from b i2 b2).isBad = z := ⟨_, rfl⟩
        obtain ⟨i4, hi4⟩ : ∃ z, ((repP cardP m).from b i3 b3).at_ = z := ⟨_, rfl⟩
        obtain ⟨b4, hb4⟩ : ∃ z, ((repP cardP m).from b i3 b3).isBad = z := ⟨_, rfl⟩
        obtain ⟨i5, hi5⟩ : ∃ z, ((repP zoneP (4 * n)).from b i4 b4).at_ = z := ⟨_, rfl⟩
        obtain ⟨b5, hb5⟩ : ∃ z, ((repP zoneP (4 * n)).from b i4 b4).isBad = z := ⟨_, rfl⟩
        obtain ⟨i6, hi6⟩ : ∃ z, ((numP 4).from b i5 b5).at_ = z := ⟨_, rfl⟩
        obtain ⟨b6, hb6⟩ : ∃ z, ((numP 4).from b i5 b5).isBad = z := ⟨_, rfl⟩
        obtain ⟨i7, hi7⟩ : ∃ z, ((numP 1).from b i6 b6).at_ = z := ⟨_, rfl⟩
        obtain ⟨b7, hb7⟩ : ∃ z, ((numP 1).from b i6 b6).isBad = z := ⟨_, rfl⟩
        obtain ⟨i8, hi8⟩ : ∃ z, ((numP 1).from b i7 b7).at_ = z := ⟨_, rfl⟩
        obtain ⟨b8, hb8⟩ : ∃ z, ((numP 1).from b i7 b7).isBad = z := ⟨_, rfl⟩
        obtain ⟨i9, hi9⟩ : ∃ z, ((numP 1).from b i8 b8).at_ = z := ⟨_, rfl⟩
        obtain ⟨b9, hb9⟩ : ∃ z, ((numP 1).from b i8 b8).isBad = z := ⟨_, rfl⟩
        have HST : Hid (Steps b n m i1 i2 i3 i4 i5 i6 i7 i8 i9 b1 b2 b3 b4 b5 b6 b7 b8 b9) := Lib.hid ⟨by rw [hn2]; rfl, hi1, hb1, hi2, hb2, by rw [hm2]; rfl, hi3, hb3, hi4, hb4, hi5, hb5, hi6, hb6, hi7, hb7, hi8, hb8, hi9, hb9⟩
        obtain ⟨v6, hv6⟩ : ∃ z, sx32 (((numP 4).from b i5 b5).val 0) = z := ⟨_, rfl⟩
        obtain ⟨v7, hv7, hv7b, _, _⟩ := num_of (show 1 ≤ 2 by decide) b i6 b6
        obtain ⟨v8, hv8, _, hv8e, hv8b⟩ := num_of (show 1 ≤ 2 by decide) b i7 b7
        obtain ⟨v9, hv9, hv9b, _, _⟩ := num_of (show 1 ≤ 2 by decide) b i8 b8
        have HN1 := fun W (hW : RdAt W r B A cap b 5 false) => number_any 1 r B A cap 5 b false W hW hl (by decide) (by decide)
        rw [hn0, hi1, hb1] at HN1
        have HN3 := fun W (hW : RdAt W r B A cap b i2 b2) => number_any 2 r B A cap i2 b b2 W hW hl (by decide) (by decide)
        rw [hm0, hi3, hb3] at HN3
        have HN6 := fun W (hW : RdAt W r B A cap b i5 b5) => number_any 4 r B A cap i5 b b5 W hW hl (by decide) (by decide)
        rw [hv6, hi6, hb6] at HN6
        have HN7 := fun W (hW : RdAt W r B A cap b i6 b6) => number_any 1 r B A cap i6 b b6 W hW hl (by decide) (by decide)
        rw [hv7, hi7, hb7] at HN7
        have HN8 := fun W (hW : RdAt W r B A cap b i7 b7) => number_any 1 r B A cap i7 b b7 W hW hl (by decide) (by decide)
        rw [hv8, hi8, hb8] at HN8
        have HN9 := fun W (hW : RdAt W r B A cap b i8 b8) => number_any 1 r B A cap i8 b b8 W hW hl (by decide) (by decide)
        rw [hv9, hi9, hb9] at HN9
        have HI4 := Lib.hid hi4
        have hnb := hn3 (Nat.le_refl 1)
        have hv := fun (ps : List Pl) (cs : List Cd) (zs : List (List Int)) => HST.out.vals (ps := ps) (cs := cs) (zs := zs)
        simp only [hv6, hv7, hv8e, hv9] at hv
        have HV := Lib.hid hv
        clear hv
        have hmf : ∀ (fn : Fn) (first cap : Array Value) (w : World), (Instr.makeFunc fn first cap).run Tryz.prog w = .ok (.func fn first cap) w := fun _ _ _ _ => rfl
        have q0 : wr.cell? ⟨w.heap.size, 0, none⟩ = some (.pointer (some ⟨r, 0, none⟩)) := H5.out.name.cellAt 0
        have HP2 := Lib.hid hi2
        have HP2b := Lib.hid hb2
        have HP4b := Lib.hid hb4
        have HP5 := Lib.hid hi5
        have HP5b := Lib.hid hb5
        clear hn0 hn1 hn2 hn3 hm0 hm2 hi1 hi2 hi3 hi4 hi5 hi6 hi7 hi8 hi9 hb1 hb2 hb3 hb4 hb5 hb6 hb7 hb8 hb9 hv6 hv7 hv8 hv8e hv9
        go_wp2_with fail
        refine (HN1 _ H5.out.rd).mono ?_
        rintro e w1 ⟨rfl, h1, k1⟩
        have H6 := Lib.hid (H5.out.read h1 k1)
        clear h1 k1 H5 q0 HN1
        have q0 : w1.cell? ⟨w.heap.size, 0, none⟩ = some (.pointer (some ⟨r, 0, none⟩)) := H6.out.name.cellAt 0
        go_wp2_with fail
        refine (players_any H6.out rfl hl n (by omega)).mono ?_
        rintro e w2 ⟨rfl, ps, Ap, cp, hpl, hpv, h2⟩
        rw [HP2.out, HP2b.out] at h2
        have H7 := Lib.hid h2
        have HPV := Lib.hid hpv
        clear h2 hpv H6 q0 HP2 HP2b
        have q0 : w2.cell? ⟨w.heap.size, 0, none⟩ = some (.pointer (some ⟨r, 0, none⟩)) := H7.out.name.cellAt 0
        have H7d := Lib.hid (H7.out.calm (Keeps.refl _ w2).drew)
        go_wp2_with fail
        refine regionCut (CutCards w r B A cap b i3 b3 { zeroSt with players := ps } Ap none cp 0 [] m) ?_ ?_
        · skip
          refine wp_region_held_drew (S := fun W => W.cell? ⟨w.heap.size, 0, none⟩ = some (.pointer (some ⟨r, 0, none⟩))) (by kernel_rfl) (q0) ?_
          intro hSn
          refine wpAnyH_take (i := 0) (v := ?v1) rfl (by kernel_rfl) (by kernel_rfl) (by kernel_rfl) (fun _ _ _ h => by first | exact h | exact absurd h.1 (fun e => by cases e)) (Or.inl ⟨by rfl, ?hy1⟩) (by assumption) ?rest1
          case hy1 =>
            intro w hSw
            have qh := hSw
            go_simp
            try with_reducible rfl
          go_simp
          refine wpAnyH_take (i := 1) (v := ?v2) rfl (by kernel_rfl) (by kernel_rfl) (by kernel_rfl) (fun _ _ _ h => by first | exact h | exact absurd h.1 (fun e => by cases e)) (Or.inl ⟨by rfl, ?hy2⟩) (by assumption) ?rest2
          case hy2 =>
            intro w hSw
            have qh := hSw
            go_simp
            try with_reducible rfl
          go_simp
          refine wpAnyH_take (i := 3) (v := ?v3) rfl (by kernel_rfl) (by kernel_rfl) (by kernel_rfl) (fun _ _ _ h => by first | exact h | exact absurd h.1 (fun e => by cases e)) (Or.inl ⟨by rfl, ?hy3⟩) (by assumption) ?rest3
          case hy3 =>
            intro w hSw
            have qh := hSw
            go_simp
            try with_reducible rfl
          go_simp
          refine wpAnyH_ready (rs := [2]) (by kernel_rfl) (by simp) ?_
          refine AllReadyH.cons rfl (fun K hK => ?_) AllReadyH.nil
          go_simp
          refine (HN3 _ H7d.out.rd).mono ?_
          rintro e w3 ⟨rfl, h3, k3⟩
          have H8 := Lib.hid (H7d.out.read h3 k3)
          clear h3 k3
          refine hK.out _ _ (H8.out.name.cellAt 0) (fun hSn => ?_)
          clear hK K
          go_simp
          refine wpAnyH_ready (rs := [4]) (by kernel_rfl) (by simp) ?_
          refine AllReadyH.cons rfl (fun K hK => ?_) AllReadyH.nil
          go_simp
          refine (cards_any H8.out rfl hl m (by omega)).mono ?_
          rintro e w4 ⟨rfl, h4⟩
          have H9 := Lib.hid h4
          have hnm : w4.cell? ⟨w.heap.size, 0, none⟩ = some (.pointer (some ⟨r, 0, none⟩)) := by obtain ⟨xs, Ac, cc, _, _, hz⟩ := h4; exact hz.name.cellAt 0
          clear h4
          refine hK.out _ _ (hnm) (fun hSn => ?_)
          clear hK K
          go_simp
          refine wpAnyH_done (by kernel_rfl) ?_ _
          refine ⟨rfl, ?_, ?_⟩
          · exact ⟨_, _, _, _, _, rfl⟩
          · exact H9.out
        · rintro a' w4 ⟨⟨u51, u52, u53, u54, u55, rfl⟩, cs, Ac, cc, hcl, hcv, h4⟩
          rw [HI4.out, HP4b.out] at h4
          have H9 := Lib.hid h4
          have HCV := Lib.hid hcv
          clear h4 hcv H7 H7d q0 HI4 HP4b HN3
          have q0 : w4.cell? ⟨w.heap.size, 0, none⟩ = some (.pointer (some ⟨r, 0, none⟩)) := H9.out.name.cellAt 0
          have HZ := zones_any H9.out rfl hl (4 * n) (by omega)
          rw [show ((4 * n : Nat) : Int) = 4 * (n : Int) by omega] at HZ
          go_wp2_with fail
          refine HZ.mono ?_
          rintro e w5 ⟨rfl, zs, Az, cz, cells, hzl, hzv, h5⟩
          rw [HP5.out, HP5b.out] at h5
          have H10 := Lib.hid h5
          have HZV := Lib.hid hzv
          clear h5 hzv H9 HZ q0 HP5 HP5b
          have hval := HV.out ps cs zs HPV.out HCV.out HZV.out
          have HVV := Lib.hid hval
          clear hval HV HPV HCV HZV
          have q0 : w5.cell? ⟨w.heap.size, 0, none⟩ = some (.pointer (some ⟨r, 0, none⟩)) := H10.out.name.cellAt 0
          have H10d := Lib.hid (H10.out.calm (Keeps.refl _ w5).drew)
          have hw7 : IntKind.i64.wrap (v7 : Int) = v7 := IntWalk.i64_in _ (by omega)
          have hw8 := wrap8_sx (v8 : Int) (by omega) (by have := hv8b (Nat.le_refl 1); omega)
          have hw9 : IntKind.i64.wrap (v9 : Int) = v9 := IntWalk.i64_in _ (by omega)
          obtain ⟨x8, hx8⟩ : ∃ z, z = sx8 (v8 : Int) := ⟨_, rfl⟩
          rw [← hx8] at hw8 HVV
          clear hx8
          go_wp2_with fail
          go_simp
          refine regionCut (CutLast w r B A cap b i9 b9 { players := ps, cards := cs, zones := zs, turn := v6, whose := v7, fin := x8, winner := v9 } Ap Ac Az cp cc cz cells) ?_ ?_
          · skip
            refine wp_region_held_drew (S := fun W => W.cell? ⟨w.heap.size, 0, none⟩ = some (.pointer (some ⟨r, 0, none⟩))) (by kernel_rfl) (q0) ?_
            intro hSn
            refine wpAnyH_take (i := 0) (v := ?v4) rfl (by kernel_rfl) (by kernel_rfl) (by kernel_rfl) (fun _ _ _ h => by first | exact h | exact absurd h.1 (fun e => by cases e)) (Or.inl ⟨by rfl, ?hy4⟩) (by assumption) ?rest4
            case hy4 =>
              intro w hSw
              have qh := hSw
              go_simp
              try with_reducible rfl
            go_simp
            refine wpAnyH_take (i := 2) (v := ?v5) rfl (by kernel_rfl) (by kernel_rfl) (by kernel_rfl) (fun _ _ _ h => by first | exact h | exact absurd h.1 (fun e => by cases e)) (Or.inl ⟨by rfl, ?hy5⟩) (by assumption) ?rest5
            case hy5 =>
              intro w hSw
              have qh := hSw
              go_simp
              try with_reducible rfl
            go_simp
            refine wpAnyH_take (i := 5) (v := ?v6) rfl (by kernel_rfl) (by kernel_rfl) (by kernel_rfl) (fun _ _ _ h => by first | exact h | exact absurd h.1 (fun e => by cases e)) (Or.inl ⟨by rfl, ?hy6⟩) (by assumption) ?rest6
            case hy6 =>
              intro w hSw
              have qh := hSw
              go_simp
              try with_reducible rfl
            go_simp
            refine wpAnyH_take (i := 8) (v := ?v7) rfl (by kernel_rfl) (by kernel_rfl) (by kernel_rfl) (fun _ _ _ h => by first | exact h | exact absurd h.1 (fun e => by cases e)) (Or.inl ⟨by rfl, ?hy7⟩) (by assumption) ?rest7
            case hy7 =>
              intro w hSw
              have qh := hSw
              go_simp
              try with_reducible rfl
            go_simp
            refine wpAnyH_ready (rs := [1]) (by kernel_rfl) (by simp) ?_
            refine AllReadyH.cons rfl (fun K hK => ?_) AllReadyH.nil
            go_simp
            refine (HN6 _ H10d.out.rd).mono ?_
            rintro e y6 ⟨rfl, h3, k3⟩
            have G6 := Lib.hid (H10d.out.read h3 k3)
            clear h3 k3
            refine hK.out _ _ (G6.out.name.cellAt 0) (fun hSn => ?_)
            clear hK K
            go_simp
            refine wpAnyH_take (i := 11) (v := ?v8) rfl (by kernel_rfl) (by kernel_rfl) (by kernel_rfl) (fun _ _ _ h => by first | exact h | exact absurd h.1 (fun e => by cases e)) (Or.inl ⟨by rfl, ?hy8⟩) (by assumption) ?rest8
            case hy8 =>
              intro w hSw
              have qh := hSw
              go_simp
              try with_reducible rfl
            go_simp
            refine wpAnyH_ready (rs := [3]) (by kernel_rfl) (by simp) ?_
            refine AllReadyH.cons rfl (fun K hK => ?_) AllReadyH.nil
            go_simp
            refine (HN7 _ G6.out.rd).mono ?_
            rintro e y7 ⟨rfl, h3, k3⟩
            have G7 := Lib.hid (G6.out.read h3 k3)
            clear h3 k3
            refine hK.out _ _ (G7.out.name.cellAt 0) (fun hSn => ?_)
            clear hK K
            go_simp
            refine wpAnyH_take (i := 4) (v := ?v9) rfl (by kernel_rfl) (by kernel_rfl) (by kernel_rfl) (fun _ _ _ h => by first | exact h | exact absurd h.1 (fun e => by cases e)) (Or.inl ⟨by rfl, ?hy9⟩) (by assumption) ?rest9
            case hy9 =>
              intro w hSw
              have qh := hSw
              go_simp
              try with_reducible rfl
            go_simp
            refine wpAnyH_ready (rs := [6]) (by kernel_rfl) (by simp) ?_
            refine AllReadyH.cons rfl (fun K hK => ?_) AllReadyH.nil
            go_simp
            refine (HN8 _ G7.out.rd).mono ?_
            rintro e y8 ⟨rfl, h3, k3⟩
            have G8 := Lib.hid (G7.out.read h3 k3)
            clear h3 k3
            refine hK.out _ _ (G8.out.name.cellAt 0) (fun hSn => ?_)
            clear hK K
            go_simp
            refine wpAnyH_take (i := 7) (v := ?v10) rfl (by kernel_rfl) (by kernel_rfl) (by kernel_rfl) (fun _ _ _ h => by first | exact h | exact absurd h.1 (fun e => by cases e)) (Or.inl ⟨by rfl, ?hy10⟩) (by assumption) ?rest10
            case hy10 =>
              intro w hSw
              have qh := hSw
              go_simp
              try with_reducible rfl
            go_simp
            refine wpAnyH_ready (rs := [9]) (by kernel_rfl) (by simp) ?_
            refine AllReadyH.cons rfl (fun K hK => ?_) AllReadyH.nil
            go_simp
            refine (HN9 _ G8.out.rd).mono ?_
            rintro e y9 ⟨rfl, h3, k3⟩
            have G9 := Lib.hid (G8.out.read h3 k3)
            clear h3 k3
            refine hK.out _ _ (G9.out.name.cellAt 0) (fun hSn => ?_)
            clear hK K
            go_simp
            refine wpAnyH_take (i := 10) (v := ?v11) rfl (by kernel_rfl) (by kernel_rfl) (by kernel_rfl) (fun _ _ _ h => by first | exact h | exact absurd h.1 (fun e => by cases e)) (Or.inl ⟨by rfl, ?hy11⟩) (by assumption) ?rest11
            case hy11 =>
              intro w hSw
              have qh := hSw
              go_simp
              try with_reducible rfl
            go_simp
            refine wpAnyH_ready (rs := [12]) (by kernel_rfl) (by simp) ?_
            refine AllReadyH.cons rfl (fun K hK => ?_) AllReadyH.nil
            obtain ⟨t0, t1, t2, t3, t4, t5, t6, f0, f1, f2, f3, f4, f5, f6⟩ := seven G9.out.box
            clear t0 t1 t2 f0 f1 f2
            go_simp
            have P3 : Hid (Rg w _ r B A cap b i9 b9 ({ players := ps, cards := cs, zones := zs, turn := v6, whose := 0, fin := 0, winner := 0 } : St) Ap Ac Az cp cc cz cells) := Lib.hid (G9.out.field 3 (.int .i32 v6) rfl ⟨G9.out.lists.players, G9.out.lists.cards, G9.out.lists.zones⟩)
            clear t3 t4 t5 t6 f3 f4 f5 f6
            refine hK.out _ _ (P3.out.name.cellAt 0) (fun hSn => ?_)
            clear hK K
            go_simp
            refine wpAnyH_take (i := 13) (v := ?v12) rfl (by kernel_rfl) (by kernel_rfl) (by kernel_rfl) (fun _ _ _ h => by first | exact h | exact absurd h.1 (fun e => by cases e)) (Or.inl ⟨by rfl, ?hy12⟩) (by assumption) ?rest12
            case hy12 =>
              intro w hSw
              have qh := hSw
              go_simp
              try with_reducible rfl
            go_simp
            refine wpAnyH_ready (rs := [14]) (by kernel_rfl) (by simp) ?_
            refine AllReadyH.cons rfl (fun K hK => ?_) AllReadyH.nil
            obtain ⟨t0, t1, t2, t3, t4, t5, t6, f0, f1, f2, f3, f4, f5, f6⟩ := seven P3.out.box
            clear t0 t1 t2 f0 f1 f2
            go_simp
            have P4 : Hid (Rg w _ r B A cap b i9 b9 ({ players := ps, cards := cs, zones := zs, turn := v6, whose := v7, fin := 0, winner := 0 } : St) Ap Ac Az cp cc cz cells) := Lib.hid (P3.out.field 4 (.int .i64 v7) rfl ⟨P3.out.lists.players, P3.out.lists.cards, P3.out.lists.zones⟩)
            clear t3 t4 t5 t6 f3 f4 f5 f6
            refine hK.out _ _ (P4.out.name.cellAt 0) (fun hSn => ?_)
            clear hK K
            go_simp
            refine wpAnyH_take (i := 15) (v := ?v13) rfl (by kernel_rfl) (by kernel_rfl) (by kernel_rfl) (fun _ _ _ h => by first | exact h | exact absurd h.1 (fun e => by cases e)) (Or.inl ⟨by rfl, ?hy13⟩) (by assumption) ?rest13
            case hy13 =>
              intro w hSw
              have qh := hSw
              go_simp
              try with_reducible rfl
            go_simp
            refine wpAnyH_ready (rs := [16]) (by kernel_rfl) (by simp) ?_
            refine AllReadyH.cons rfl (fun K hK => ?_) AllReadyH.nil
            obtain ⟨t0, t1, t2, t3, t4, t5, t6, f0, f1, f2, f3, f4, f5, f6⟩ := seven P4.out.box
            clear t0 t1 t2 f0 f1 f2
            go_simp
            have P5 : Hid (Rg w _ r B A cap b i9 b9 ({ players := ps, cards := cs, zones := zs, turn := v6, whose := v7, fin := x8, winner := 0 } : St) Ap Ac Az cp cc cz cells) := Lib.hid (P4.out.field 5 (.int .i8 x8) rfl ⟨P4.out.lists.players, P4.out.lists.cards, P4.out.lists.zones⟩)
            clear t3 t4 t5 t6 f3 f4 f5 f6
            refine hK.out _ _ (P5.out.name.cellAt 0) (fun hSn => ?_)
            clear hK K
            go_simp
            refine wpAnyH_take (i := 17) (v := ?v14) rfl (by kernel_rfl) (by kernel_rfl) (by kernel_rfl) (fun _ _ _ h => by first | exact h | exact absurd h.1 (fun e => by cases e)) (Or.inl ⟨by rfl, ?hy14⟩) (by assumption) ?rest14
            case hy14 =>
              intro w hSw
              have qh := hSw
              go_simp
              try with_reducible rfl
            go_simp
            refine wpAnyH_ready (rs := [18]) (by kernel_rfl) (by simp) ?_
            refine AllReadyH.cons rfl (fun K hK => ?_) AllReadyH.nil
            obtain ⟨t0, t1, t2, t3, t4, t5, t6, f0, f1, f2, f3, f4, f5, f6⟩ := seven P5.out.box
            clear t0 t1 t2 f0 f1 f2
            go_simp
            have P6 : Hid (Rg w _ r B A cap b i9 b9 ({ players := ps, cards := cs, zones := zs, turn := v6, whose := v7, fin := x8, winner := v9 } : St) Ap Ac Az cp cc cz cells) := Lib.hid (P5.out.field 6 (.int .i64 v9) rfl ⟨P5.out.lists.players, P5.out.lists.cards, P5.out.lists.zones⟩)
            clear t3 t4 t5 t6 f3 f4 f5 f6
            refine hK.out _ _ (P6.out.name.cellAt 0) (fun hSn => ?_)
            clear hK K
            go_simp
            refine wpAnyH_done (by kernel_rfl) ?_ _
            refine ⟨rfl, ?_, ?_⟩
            · exact ⟨.pointer (some ⟨r, 0, none⟩), .int .i32 v6, .pointer (some ⟨r, 0, none⟩), .int .i32 v7, .int .i64 v7, .pointer (some ⟨r, 0, none⟩), .int .i32 v8, .int .i8 x8, .pointer (some ⟨r, 0, none⟩), .int .i32 v9, .int .i64 v9, .pointer (some ⟨w.heap.size + 2, 3, none⟩), .pointer (some ⟨w.heap.size + 2, 4, none⟩), .pointer (some ⟨w.heap.size + 2, 5, none⟩), .pointer (some ⟨w.heap.size + 2, 6, none⟩), by go_simp⟩
            · exact P6.out
          · rintro a' w6 ⟨⟨u61, u62, u63, u64, u65, u66, u67, u68, u69, u70, u71, u72, u73, u74, u75, rfl⟩, h6⟩
            have H11 := Lib.hid h6
            clear h6 H10 H10d q0 HN6 HN7 HN8 HN9 hw7 hw8 hw9
            have HEN := Lib.hid HST.out.ends
            have q0 : w6.cell? ⟨w.heap.size, 0, none⟩ = some (.pointer (some ⟨r, 0, none⟩)) := H11.out.name.cellAt 0
            have q1 : w6.cell? ⟨r, 0, none⟩ = some (.slice A b.length cap) := H11.out.rd.box.cellAt 0
            have q2 : w6.cell? ⟨r, 1, none⟩ = some (.int .i64 i9) := H11.out.rd.box.cellAt 1
            have q3 : w6.cell? ⟨r, 2, none⟩ = some (.bool b9) := H11.out.rd.box.cellAt 2
            have g2 := H11.out.rd.box.free 2
            clear HST
            by_cases hlt : i9 < b.length
            · have hd : decide ((i9 : Int) < (b.length : Int)) = true := decide_eq_true (by omega)
              have HRD : Hid (readP b = .bad i9) := Lib.hid (read_lt HSR.out HEN.out.1 hlt)
              go_wp2_with fail
              go_quiet (fail)
              go_wp2_with (first
                | (refine wpList_load_whole rfl 27 _ rfl (w.heap.size + 2) rfl 27 (stC { players := ps, cards := cs, zones := zs, turn := v6, whose := v7, fin := x8, winner := v9 } Ap Ac Az cp cc cz) _ ((H11.out.calm ((Keeps.refl _ w6).drewN _)).setBad true).box Tryz.underlying27 rfl sizeSt ?_)
                | (refine wpList_store_whole rfl 27 _ _ rfl rfl (w.heap.size + 1) rfl (stC { players := ps, cards := cs, zones := zs, turn := v6, whose := v7, fin := x8, winner := v9 } Ap Ac Az cp cc cz) rfl 27 #[.slice none 0 0, .slice none 0 0, .slice none 0 0, .int .i32 0, .int .i64 0, .int .i8 0, .int .i64 0] ((H11.out.calm ((Keeps.refl _ w6).drewN _)).setBad true).res sizeSt rfl (by simp [Value.oneCell', stC]) ?_))
              try refine noGoto_back ?_
              refine bodyPost_ret (results_cell (by rfl) _ (w.heap.size + 1) (by rfl) (stC { players := ps, cards := cs, zones := zs, turn := v6, whose := v7, fin := x8, winner := v9 } Ap Ac Az cp cc cz) _ (heap_setRow_same ((H11.out.calm ((Keeps.refl _ w6).drewN _)).setBad true).res _) _ Tryz.underlying27 rfl sizeSt) rfl ?_
              exact Rg.ends ((H11.out.calm ((Keeps.refl _ w6).drewN _)).setBad true) (fun y j e => by rw [HRD.out] at e; cases e) (by rw [HRD.out]; rfl) (by rw [HRD.out]; rfl)
            · have hd : decide ((i9 : Int) < (b.length : Int)) = false := decide_eq_false (by omega)
              have HRD : Hid (readP b = restP.from b 5 false) := Lib.hid (read_ge HSR.out (by rw [HEN.out.1]; exact hlt))
              go_wp2_with fail
              go_quiet (fail)
              go_wp2_with (first
                | (refine wpList_load_whole rfl 27 _ rfl (w.heap.size + 2) rfl 27 (stC { players := ps, cards := cs, zones := zs, turn := v6, whose := v7, fin := x8, winner := v9 } Ap Ac Az cp cc cz) _ (H11.out.calm ((Keeps.refl _ w6).drewN _)).box Tryz.underlying27 rfl sizeSt ?_)
                | (refine wpList_store_whole rfl 27 _ _ rfl rfl (w.heap.size + 1) rfl (stC { players := ps, cards := cs, zones := zs, turn := v6, whose := v7, fin := x8, winner := v9 } Ap Ac Az cp cc cz) rfl 27 #[.slice none 0 0, .slice none 0 0, .slice none 0 0, .int .i32 0, .int .i64 0, .int .i8 0, .int .i64 0] (H11.out.calm ((Keeps.refl _ w6).drewN _)).res sizeSt rfl (by simp [Value.oneCell', stC]) ?_))
              try refine noGoto_back ?_
              refine bodyPost_ret (results_cell (by rfl) _ (w.heap.size + 1) (by rfl) (stC { players := ps, cards := cs, zones := zs, turn := v6, whose := v7, fin := x8, winner := v9 } Ap Ac Az cp cc cz) _ (heap_setRow_same (H11.out.calm ((Keeps.refl _ w6).drewN _)).res _) _ Tryz.underlying27 rfl sizeSt) rfl ?_
              exact Rg.ends (H11.out.calm ((Keeps.refl _ w6).drewN _)) (fun y j e => by rw [HRD.out] at e; exact HVV.out y j e) (by rw [HRD.out]; exact HEN.out.1) (by rw [HRD.out]; exact HEN.out.2)
end Go.Proofs.YthmfbcfbcookiaaGreatDoor
