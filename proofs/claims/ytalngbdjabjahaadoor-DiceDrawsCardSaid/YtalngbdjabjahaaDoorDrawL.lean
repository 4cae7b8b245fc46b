/-
  The law DiceDraws: the walk. Conditions: the script lies in memory that was there.
-/
import Derived.Test.YtalngbdjabjahaaDoorDrawX
import Derived.Test.YtalngbdjabjahaaDoorDiceL
import Derived.RegionTactic
import Derived.Deep.RegionWith
namespace Go.Proofs.YtalngbdjabjahaaDoor
open Go.RowKit
/-- A script, read. -/
def OpLies (w : World) (F : Nat → Prop) (A : Option Addr) (len : Nat) (kind on n : Nat → Int) : Prop :=
  ∀ i, i < len → ∃ g off, A = some ⟨g, off, none⟩ ∧ F g ∧ g < w.heap.size ∧ w.cell? ⟨g, off + i * 3, none⟩ = some (.int .i64 (kind i)) ∧ w.cell? ⟨g, off + i * 3 + 1, none⟩ = some (.int .i64 (on i)) ∧ w.cell? ⟨g, off + i * 3 + 2, none⟩ = some (.int .i64 (n i)) ∧
    (-9223372036854775808 ≤ on i ∧ on i ≤ 9223372036854775807) ∧ (-9223372036854775808 ≤ n i ∧ n i ≤ 9223372036854775807)
theorem OpLies.keeps {S : Nat → Prop} {w w' : World} {F : Nat → Prop} {A : Option Addr} {len : Nat} {kind on n : Nat → Int} (h : OpLies w F A len kind on n) (hk : Keeps S w w') (hn : ∀ g, F g → ¬ S g) : OpLies w' F A len kind on n := fun i hi => by
  obtain ⟨g, off, e, hF, hg, c0, c1, c2, b⟩ := h i hi
  exact ⟨g, off, e, hF, Nat.lt_of_lt_of_le hg hk.size, (hk.cell hg (hn g hF)).trans c0, (hk.cell hg (hn g hF)).trans c1, (hk.cell hg (hn g hF)).trans c2, b⟩
/-- The two pairs of dice, and the lists that hold them. -/
structure Two (w : World) (g0 g1 db q0 q1 rb z0 z1 : Nat) : Prop where
  order : g0 < g1 ∧ g1 < db ∧ db < q0 ∧ q0 < q1 ∧ q1 < rb
  d0 : DiceAt w g0 z0
  d1 : DiceAt w g1 z1
  ds : Whole w db 63 #[.pointer (some ⟨g0, 0, none⟩), .pointer (some ⟨g1, 0, none⟩)]
  r0 : RDiceAt w q0 z0
  r1 : RDiceAt w q1 z1
  rs : Whole w rb 66 #[.pointer (some ⟨q0, 0, none⟩), .pointer (some ⟨q1, 0, none⟩)]
theorem Two.keeps {S : Nat → Prop} {w w' : World} {g0 g1 db q0 q1 rb z0 z1 : Nat} (t : Two w g0 g1 db q0 q1 rb z0 z1) (hk : Keeps S w w') (hS : ∀ b, S b → b ≠ g0 ∧ b ≠ g1 ∧ b ≠ db ∧ b ≠ q0 ∧ b ≠ q1 ∧ b ≠ rb) : Two w' g0 g1 db q0 q1 rb z0 z1 :=
  ⟨t.order, Whole.keeps t.d0 hk (fun h => (hS _ h).1 rfl), Whole.keeps t.d1 hk (fun h => (hS _ h).2.1 rfl), t.ds.keeps hk (fun h => (hS _ h).2.2.1 rfl), Whole.keeps t.r0 hk (fun h => (hS _ h).2.2.2.1 rfl), Whole.keeps t.r1 hk (fun h => (hS _ h).2.2.2.2.1 rfl), t.rs.keeps hk (fun h => (hS _ h).2.2.2.2.2 rfl)⟩
section
variable {w wr w8 : World} {g0 g1 db q0 q1 rb z0 z1 p c len : Nat} {rows : List Sl} {Ab A : Option Addr} {kind on n : Nat → Int} {e : Ending}
theorem dstep_of {g q z' c' y0 y1 : Nat} {rows' : List Sl} {A' : Option Addr} (t : Two wr g0 g1 db q0 q1 rb z0 z1) (hB : BagIn wr p rows Ab c) (hp : rb < p) (low : ∀ b, blks rows b → g0 ≤ b) (hb : Below g0 w wr) (ho : OpLies wr (fun x => x < g0) A len kind on n)
    (hgq : g0 ≤ g ∧ g0 ≤ q) (hD : Dw w8 g q p z' rows' A' c') (hR : ∀ b, blks rows' b → blks rows b ∨ wr.heap.size ≤ b) (hK : Keeps (fun b => b = g ∨ b = q ∨ b = p ∨ (Value.slice Ab rows.length c).ownBlock = some b) wr w8)
    (ht : Two w8 g0 g1 db q0 q1 rb y0 y1) : Two w8 g0 g1 db q0 q1 rb y0 y1 ∧ BagIn w8 p rows' A' c' ∧ rows'.length ≤ 400 ∧ (∀ (k : Nat) (r : Sl), rows'[k]? = some r → r.len ≤ 1000) ∧ (∀ b, blks rows' b → g0 ≤ b) ∧ Below g0 w w8 ∧ OpLies w8 (fun x => x < g0) A len kind on n := by
  have hg := Whole.inside t.d0
  have h1 := t.order
  have hS : ∀ b, (b = g ∨ b = q ∨ b = p ∨ (Value.slice Ab rows.length c).ownBlock = some b) → g0 ≤ b := fun b h => by
    rcases h with h | h | h | h
    · omega
    · omega
    · omega
    · have := (hB.hO.lt b h).1; omega
  refine ⟨ht, hD.bag, hD.few, hD.len, fun b h => ?_, hb.trans (hK.below (Nat.le_of_lt hg) (fun k h => hS k h)), ho.keeps hK (fun x hx h => absurd (hS x h) (by omega))⟩
  rcases hR b h with h | h
  · exact low b h
  · omega
theorem dfar_of (t : Two wr g0 g1 db q0 q1 rb z0 z1) (hB : BagIn wr p rows Ab c) : (∀ b, b = p ∨ (Value.slice Ab rows.length c).ownBlock = some b → b ≠ g0 ∧ b ≠ g1 ∧ b ≠ db ∧ b ≠ q0 ∧ b ≠ q1 ∧ b ≠ rb) := fun b h => by
  have e0 := hB.off t.d0 (by decide) (by decide) (by decide)
  have e1 := hB.off t.d1 (by decide) (by decide) (by decide)
  have e2 := hB.off t.ds (by decide) (by decide) (by decide)
  have e3 := hB.off t.r0 (by decide) (by decide) (by decide)
  have e4 := hB.off t.r1 (by decide) (by decide) (by decide)
  have e5 := hB.off t.rs (by decide) (by decide) (by decide)
  rcases h with rfl | h
  · exact ⟨e0.2.2.symm, e1.2.2.symm, e2.2.2.symm, e3.2.2.symm, e4.2.2.symm, e5.2.2.symm⟩
  · refine ⟨fun e => ?_, fun e => ?_, fun e => ?_, fun e => ?_, fun e => ?_, fun e => ?_⟩ <;> subst e
    · exact e0.2.1 h
    · exact e1.2.1 h
    · exact e2.2.1 h
    · exact e3.2.1 h
    · exact e4.2.1 h
    · exact e5.2.1 h
theorem dstep0 (t : Two wr g0 g1 db q0 q1 rb z0 z1) (hB : BagIn wr p rows Ab c) (hp : rb < p) (low : ∀ b, blks rows b → g0 ≤ b) (hb : Below g0 w wr) (ho : OpLies wr (fun x => x < g0) A len kind on n) (hE : DoesPost g0 q0 p rows Ab c wr.drew e w8) :
    e = .returned (.bool true) ∧ ∃ z' rows' A' c', Two w8 g0 g1 db q0 q1 rb z' z1 ∧ BagIn w8 p rows' A' c' ∧ rows'.length ≤ 400 ∧ (∀ (k : Nat) (r : Sl), rows'[k]? = some r → r.len ≤ 1000) ∧ (∀ b, blks rows' b → g0 ≤ b) ∧ Below g0 w w8 ∧ OpLies w8 (fun x => x < g0) A len kind on n := by
  obtain ⟨he, z', rows', A', c', hD, hR, hK⟩ := hE.from ((Keeps.refl (fun _ => False) wr).drew)
  have h1 := t.order
  have hf := dfar_of t hB
  have hS : ∀ b, (b = g0 ∨ b = q0 ∨ b = p ∨ (Value.slice Ab rows.length c).ownBlock = some b) → b ≠ g1 ∧ b ≠ db ∧ b ≠ q1 ∧ b ≠ rb := fun b h => by
    rcases h with h | h | h
    · exact ⟨by omega, by omega, by omega, by omega⟩
    · exact ⟨by omega, by omega, by omega, by omega⟩
    · obtain ⟨_, a, b, _, c, d⟩ := hf b h; exact ⟨a, b, c, d⟩
  exact ⟨he, z', rows', A', c', dstep_of t hB hp low hb ho ⟨Nat.le_refl _, by omega⟩ hD hR hK ⟨h1, hD.dice, Whole.keeps t.d1 hK (fun e => (hS _ e).1 rfl), t.ds.keeps hK (fun e => (hS _ e).2.1 rfl), hD.doc, Whole.keeps t.r1 hK (fun e => (hS _ e).2.2.1 rfl), t.rs.keeps hK (fun e => (hS _ e).2.2.2 rfl)⟩⟩
theorem dstep1 (t : Two wr g0 g1 db q0 q1 rb z0 z1) (hB : BagIn wr p rows Ab c) (hp : rb < p) (low : ∀ b, blks rows b → g0 ≤ b) (hb : Below g0 w wr) (ho : OpLies wr (fun x => x < g0) A len kind on n) (hE : DoesPost g1 q1 p rows Ab c wr.drew e w8) :
    e = .returned (.bool true) ∧ ∃ z' rows' A' c', Two w8 g0 g1 db q0 q1 rb z0 z' ∧ BagIn w8 p rows' A' c' ∧ rows'.length ≤ 400 ∧ (∀ (k : Nat) (r : Sl), rows'[k]? = some r → r.len ≤ 1000) ∧ (∀ b, blks rows' b → g0 ≤ b) ∧ Below g0 w w8 ∧ OpLies w8 (fun x => x < g0) A len kind on n := by
  obtain ⟨he, z', rows', A', c', hD, hR, hK⟩ := hE.from ((Keeps.refl (fun _ => False) wr).drew)
  have h1 := t.order
  have hf := dfar_of t hB
  have hS : ∀ b, (b = g1 ∨ b = q1 ∨ b = p ∨ (Value.slice Ab rows.length c).ownBlock = some b) → b ≠ g0 ∧ b ≠ db ∧ b ≠ q0 ∧ b ≠ rb := fun b h => by
    rcases h with h | h | h
    · exact ⟨by omega, by omega, by omega, by omega⟩
    · exact ⟨by omega, by omega, by omega, by omega⟩
    · obtain ⟨a, _, b, c, _, d⟩ := hf b h; exact ⟨a, b, c, d⟩
  exact ⟨he, z', rows', A', c', dstep_of t hB hp low hb ho ⟨by omega, by omega⟩ hD hR hK ⟨h1, Whole.keeps t.d0 hK (fun e => (hS _ e).1 rfl), hD.dice, t.ds.keeps hK (fun e => (hS _ e).2.1 rfl), Whole.keeps t.r0 hK (fun e => (hS _ e).2.2.1 rfl), hD.doc, t.rs.keeps hK (fun e => (hS _ e).2.2.2 rfl)⟩⟩
end
/-- The two pairs of dice, each at a place of its own. -/
structure Fo (w0 X : World) (g0 g1 db q0 q1 rb a0 a1 b0 b1 : Nat) : Prop where
  order : g0 < g1 ∧ g1 < db ∧ db < q0 ∧ q0 < q1 ∧ q1 < rb
  d0 : DiceAt X g0 a0
  d1 : DiceAt X g1 a1
  ds : Whole X db 63 #[.pointer (some ⟨g0, 0, none⟩), .pointer (some ⟨g1, 0, none⟩)]
  r0 : RDiceAt X q0 b0
  r1 : RDiceAt X q1 b1
  rs : Whole X rb 66 #[.pointer (some ⟨q0, 0, none⟩), .pointer (some ⟨q1, 0, none⟩)]
  below : Below g0 w0 X
section
variable {w0 X : World} {g0 g1 db q0 q1 rb a0 a1 b0 b1 : Nat}
theorem Fo.cells (t : Fo w0 X g0 g1 db q0 q1 rb a0 a1 b0 b1) : X.cell? ⟨db, 0, none⟩ = some (.pointer (some ⟨g0, 0, none⟩)) ∧ X.cell? ⟨db, 1, none⟩ = some (.pointer (some ⟨g1, 0, none⟩)) ∧ X.cell? ⟨rb, 0, none⟩ = some (.pointer (some ⟨q0, 0, none⟩)) ∧ X.cell? ⟨rb, 1, none⟩ = some (.pointer (some ⟨q1, 0, none⟩)) :=
  ⟨t.ds.cellAt 0, t.ds.cellAt 1, t.rs.cellAt 0, t.rs.cellAt 1⟩
theorem fo_n0 (t : Fo w0 X g0 g1 db q0 q1 rb a0 a1 b0 b1) (x : Nat) (hx : mix (adv a0) = x) : Calls Tryd.prog 15 #[.pointer (some ⟨g0, 0, none⟩)] X fun e X' => e = .returned (.int .u64 x) ∧ Fo w0 X' g0 g1 db q0 q1 rb (adv a0) a1 b0 b1 := by
  subst hx
  have ho := t.order
  have hi := Whole.inside t.d0
  exact (next_rel g0 a0 X t.d0).mono fun e X' ⟨he, hd, hk⟩ => ⟨he, ho, hd, Whole.keeps t.d1 hk (by omega), t.ds.keeps hk (by omega), Whole.keeps t.r0 hk (by omega), Whole.keeps t.r1 hk (by omega), t.rs.keeps hk (by omega), t.below.trans (hk.below (Nat.le_of_lt hi) (fun k h => by omega))⟩
theorem fo_n1 (t : Fo w0 X g0 g1 db q0 q1 rb a0 a1 b0 b1) (x : Nat) (hx : mix (adv a1) = x) : Calls Tryd.prog 15 #[.pointer (some ⟨g1, 0, none⟩)] X fun e X' => e = .returned (.int .u64 x) ∧ Fo w0 X' g0 g1 db q0 q1 rb a0 (adv a1) b0 b1 := by
  subst hx
  have ho := t.order
  have hi := Whole.inside t.d0
  exact (next_rel g1 a1 X t.d1).mono fun e X' ⟨he, hd, hk⟩ => ⟨he, ho, Whole.keeps t.d0 hk (by omega), hd, t.ds.keeps hk (by omega), Whole.keeps t.r0 hk (by omega), Whole.keeps t.r1 hk (by omega), t.rs.keeps hk (by omega), t.below.trans (hk.below (Nat.le_of_lt hi) (fun k h => by omega))⟩
theorem fo_m0 (t : Fo w0 X g0 g1 db q0 q1 rb a0 a1 b0 b1) (x : Nat) (hx : mix (adv b0) = x) : Calls Tryd.prog 16 #[.pointer (some ⟨q0, 0, none⟩)] X fun e X' => e = .returned (.int .u64 x) ∧ Fo w0 X' g0 g1 db q0 q1 rb a0 a1 (adv b0) b1 := by
  subst hx
  have ho := t.order
  have hi := Whole.inside t.d0
  exact (rnext_rel q0 b0 X t.r0).mono fun e X' ⟨he, hd, hk⟩ => ⟨he, ho, Whole.keeps t.d0 hk (by omega), Whole.keeps t.d1 hk (by omega), t.ds.keeps hk (by omega), hd, Whole.keeps t.r1 hk (by omega), t.rs.keeps hk (by omega), t.below.trans (hk.below (Nat.le_of_lt hi) (fun k h => by omega))⟩
theorem fo_m1 (t : Fo w0 X g0 g1 db q0 q1 rb a0 a1 b0 b1) (x : Nat) (hx : mix (adv b1) = x) : Calls Tryd.prog 16 #[.pointer (some ⟨q1, 0, none⟩)] X fun e X' => e = .returned (.int .u64 x) ∧ Fo w0 X' g0 g1 db q0 q1 rb a0 a1 b0 (adv b1) := by
  subst hx
  have ho := t.order
  have hi := Whole.inside t.d0
  exact (rnext_rel q1 b1 X t.r1).mono fun e X' ⟨he, hd, hk⟩ => ⟨he, ho, Whole.keeps t.d0 hk (by omega), Whole.keeps t.d1 hk (by omega), t.ds.keeps hk (by omega), Whole.keeps t.r0 hk (by omega), hd, t.rs.keeps hk (by omega), t.below.trans (hk.below (Nat.le_of_lt hi) (fun k h => by omega))⟩
theorem fo_apart {z0 z1 p c : Nat} {rows : List Sl} {Ab : Option Addr} (t : Two X g0 g1 db q0 q1 rb z0 z1) (hB : BagIn X p rows Ab c) (few : rows.length ≤ 400) (len : ∀ (k : Nat) (r : Sl), rows[k]? = some r → r.len ≤ 1000) (low : ∀ b, blks rows b → g0 ≤ b) (hb : Below g0 w0 X) :
    Calls Tryd.prog 10 #[.pointer (some ⟨p, 0, none⟩)] X.drew fun e X' => e = .returned (.bool true) ∧ Fo w0 X' g0 g1 db q0 q1 rb z0 z1 z0 z1 := by
  have hi := Whole.inside t.d0
  have kd := (Keeps.refl (fun _ => False) X).drew
  have e0 := hB.off t.d0 (by decide) (by decide) (by decide)
  have e1 := hB.off t.d1 (by decide) (by decide) (by decide)
  have e2 := hB.off t.ds (by decide) (by decide) (by decide)
  have e3 := hB.off t.r0 (by decide) (by decide) (by decide)
  have e4 := hB.off t.r1 (by decide) (by decide) (by decide)
  have e5 := hB.off t.rs (by decide) (by decide) (by decide)
  refine ((hB.keeps kd (fun _ h => h.elim)).apart few (fun k r h => Nat.le_trans (len k r h) (by decide))).mono ?_
  rintro e X' ⟨he, hk⟩
  have K := (kd.mono (T := blks rows) (fun _ _ h => h.elim)).trans hk
  exact ⟨he, t.order, Whole.keeps t.d0 K e0.1, Whole.keeps t.d1 K e1.1, t.ds.keeps K e2.1, Whole.keeps t.r0 K e3.1, Whole.keeps t.r1 K e4.1, t.rs.keeps K e5.1, hb.trans (K.below (Nat.le_of_lt hi) (fun k h => low k h))⟩
end
theorem and_one_i64 (x : Int) : bits .and .i64 x 1 = 0 ∨ bits .and .i64 x 1 = 1 := by
  have e : (BitVec.ofInt IntKind.i64.bits x &&& BitVec.ofInt IntKind.i64.bits 1).toNat = (BitVec.ofInt IntKind.i64.bits x).toNat % 2 := by
    rw [BitVec.toNat_and]
    show _ &&& 1 = _
    exact Nat.and_one_is_mod _
  have h : bits .and .i64 x 1 = IntKind.i64.wrap (((BitVec.ofInt IntKind.i64.bits x).toNat % 2 : Nat) : Int) := by
    show IntKind.i64.wrap (((BitVec.ofInt IntKind.i64.bits x &&& BitVec.ofInt IntKind.i64.bits 1).toNat : Nat) : Int) = _
    rw [e]
  rw [h]
  rcases Nat.mod_two_eq_zero_or_one (BitVec.ofInt IntKind.i64.bits x).toNat with h | h
  · rw [h]; exact .inl (by decide)
  · rw [h]; exact .inr (by decide)
set_option maxHeartbeats 4000000 in
set_option maxRecDepth 100000 in
theorem diceDraws_any (one two : Nat) (A : Option Addr) (len cap : Nat) (kind on n : Nat → Int) (w : World) (hL : OpLies w (fun g => g < w.heap.size) A len kind on n) :
    Calls Tryd.prog 4 #[.int .u64 one, .int .u64 two, .slice A len cap] w fun e w' => e = .returned (.bool true) ∧ Below w.heap.size w w' := by
  have HL := Lib.hid hL; clear hL
  have hb0 := Lib.hid (Below.refl w.heap.size w)
  go_enter Tryd.func4, Tryd.ntmps4
  go_wp2_with fail
  refine (new_rel one _).mono ?_
  rintro e w1 ⟨rfl, hd1, hk⟩
  have hi1 := Whole.inside hd1
  have HL1 := Lib.hid (HL.out.keeps hk (fun _ _ h => h))
  have HD1 := Lib.hid hd1
  have HB1 := Lib.hid (hb0.out.trans (hk.below (Nat.le_refl _) (fun _ h => h.elim)))
  clear hd1 hk hb0 HL
  go_wp2_with fail
  refine (new_rel two _).mono ?_
  rintro e w2 ⟨rfl, hd2, hk⟩
  have hi2 := Whole.inside hd2
  have hz2 := hk.size
  have HL2 := Lib.hid (HL1.out.keeps hk (fun _ _ h => h))
  have HD1' := Lib.hid (Whole.keeps HD1.out hk (fun h => h))
  have HD2 := Lib.hid hd2
  have HB2 := Lib.hid (HB1.out.trans (hk.below (by omega) (fun _ h => h.elim)))
  clear hd2 hk HB1 HL1 HD1
  go_wp2_with fail
  have HP2 := Lib.hid (Whole.made w2 63 #[.pointer (some ⟨w.heap.size, 0, none⟩), .pointer (some ⟨w1.heap.size, 0, none⟩)])
  have HL3 := Lib.hid (HL2.out.keeps ((Keeps.refl (fun _ => False) w2).alloc (.cells #[.pointer (some ⟨w.heap.size, 0, none⟩), .pointer (some ⟨w1.heap.size, 0, none⟩)] 63)) (fun _ _ h => h))
  have HD13 := Lib.hid (Whole.alloc HD1'.out (.cells #[.pointer (some ⟨w.heap.size, 0, none⟩), .pointer (some ⟨w1.heap.size, 0, none⟩)] 63))
  have HD23 := Lib.hid (Whole.alloc HD2.out (.cells #[.pointer (some ⟨w.heap.size, 0, none⟩), .pointer (some ⟨w1.heap.size, 0, none⟩)] 63))
  have HB3 := Lib.hid (HB2.out.alloc (by omega) (.cells #[.pointer (some ⟨w.heap.size, 0, none⟩), .pointer (some ⟨w1.heap.size, 0, none⟩)] 63))
  have hs3 : (w2.alloc (.cells #[.pointer (some ⟨w.heap.size, 0, none⟩), .pointer (some ⟨w1.heap.size, 0, none⟩)] 63)).heap.size = w2.heap.size + 1 := by simp
  clear HL2 HD1' HD2 HB2
  generalize w2.alloc (.cells #[.pointer (some ⟨w.heap.size, 0, none⟩), .pointer (some ⟨w1.heap.size, 0, none⟩)] 63) = w3 at *
  refine (rnew_rel one _).mono ?_
  rintro e w4 ⟨rfl, hr1, hk⟩
  rw [hs3] at hr1 ⊢
  have hi4 := Whole.inside hr1
  have HL4 := Lib.hid (HL3.out.keeps hk (fun _ _ h => h))
  have HP4 := Lib.hid (HP2.out.keeps hk (fun h => h))
  have HD14 := Lib.hid (Whole.keeps HD13.out hk (fun h => h))
  have HD24 := Lib.hid (Whole.keeps HD23.out hk (fun h => h))
  have HR14 := Lib.hid hr1
  have HB4 := Lib.hid (HB3.out.trans (hk.below (by omega) (fun _ h => h.elim)))
  clear hr1 hk HL3 HP2 HD13 HD23 HB3
  go_wp2_with fail
  refine (rnew_rel two _).mono ?_
  rintro e w5 ⟨rfl, hr2, hk⟩
  have hi5 := Whole.inside hr2
  have HL5 := Lib.hid (HL4.out.keeps hk (fun _ _ h => h))
  have HP5 := Lib.hid (HP4.out.keeps hk (fun h => h))
  have HD15 := Lib.hid (Whole.keeps HD14.out hk (fun h => h))
  have HD25 := Lib.hid (Whole.keeps HD24.out hk (fun h => h))
  have HR15 := Lib.hid (Whole.keeps HR14.out hk (fun h => h))
  have HR25 := Lib.hid hr2
  have HB5 := Lib.hid (HB4.out.trans (hk.below (by omega) (fun _ h => h.elim)))
  clear hr2 hk HL4 HP4 HD14 HD24 HR14 HB4
  have k5 := (Keeps.refl (fun _ => False) w5).alloc (.cells #[.pointer (some ⟨w2.heap.size + 1, 0, none⟩), .pointer (some ⟨w4.heap.size, 0, none⟩)] 66)
  have TW : Hid (Two (w5.alloc (.cells #[.pointer (some ⟨w2.heap.size + 1, 0, none⟩), .pointer (some ⟨w4.heap.size, 0, none⟩)] 66)) w.heap.size w1.heap.size w2.heap.size (w2.heap.size + 1) w4.heap.size w5.heap.size one two) :=
    Lib.hid ⟨⟨by omega, by omega, by omega, by omega, by omega⟩, Whole.keeps HD15.out k5 (fun h => h), Whole.keeps HD25.out k5 (fun h => h), Whole.keeps HP5.out k5 (fun h => h), Whole.keeps HR15.out k5 (fun h => h), Whole.keeps HR25.out k5 (fun h => h), Whole.made _ _ _⟩
  have HL6 := Lib.hid (HL5.out.keeps k5 (fun _ _ h => h))
  have HB6 := Lib.hid (HB5.out.alloc (by omega) (.cells #[.pointer (some ⟨w2.heap.size + 1, 0, none⟩), .pointer (some ⟨w4.heap.size, 0, none⟩)] 66))
  have h56 : w5.heap.size < (w5.alloc (.cells #[.pointer (some ⟨w2.heap.size + 1, 0, none⟩), .pointer (some ⟨w4.heap.size, 0, none⟩)] 66)).heap.size := by simp
  clear k5 HD15 HD25 HP5 HR15 HR25 HL5 HB5
  have c0 := TW.out.ds.cellAt 0
  have c1 := TW.out.ds.cellAt 1
  generalize hw6 : w5.alloc (.cells #[.pointer (some ⟨w2.heap.size + 1, 0, none⟩), .pointer (some ⟨w4.heap.size, 0, none⟩)] 66) = w6 at TW HL6 HB6 h56 c0 c1
  by_cases hlen : 1048576 < len
  · go_wp2_with fail
    refine (lives_any _).mono ?_
    rintro e w9 ⟨rfl, hb⟩
    have HB9 := Lib.hid (belowThen' HB6.out hb)
    clear hb
    go_wp2_with fail
    go_ret
    exact ⟨rfl, HB9.out⟩
  · go_wp2_with fail
    have hpp : w6.heap.size < (w6.alloc (.cells bagNone 57)).heap.size := by simp
    have HG := Lib.hid (BagIn.start w6)
    have hrp : w5.heap.size < w6.heap.size := h56
    have HT7 := Lib.hid (TW.out.keeps (S := fun _ => False) ((Keeps.refl _ w6).alloc (.cells bagNone 57)) (fun _ h => h.elim))
    have HL7 := Lib.hid (HL6.out.keeps ((Keeps.refl (fun _ => False) w6).alloc (.cells bagNone 57)) (fun _ _ h => h))
    have HB7 := Lib.hid (HB6.out.alloc (by omega) (.cells bagNone 57))
    change Code.wp Tryd.prog _ _ _ (w6.alloc (.cells bagNone 57))
    clear HL6 HB6 TW c0 c1 hw6
    generalize w6.alloc (.cells bagNone 57) = w7 at *
    generalize w6.heap.size = p at *
    generalize w5.heap.size = rb at *
    generalize w4.heap.size = q1 at *
    generalize w2.heap.size = db at *
    generalize w1.heap.size = g1 at *
    go_loopw [10] (fun v wr => ∃ (i z0 z1 c : Nat) (rows : List Sl) (Ab : Option Addr), i ≤ len ∧ v = .int .i64 i ∧ Hid (Two wr w.heap.size g1 db (db + 1) q1 rb z0 z1) ∧ Hid (BagIn wr p rows Ab c) ∧ rows.length ≤ 400 ∧ Hid (∀ (k : Nat) (r : Sl), rows[k]? = some r → r.len ≤ 1000) ∧ Hid (∀ b, blks rows b → w.heap.size ≤ b) ∧ Hid (Below w.heap.size w wr) ∧ Hid (OpLies wr (fun g => g < w.heap.size) A len kind on n)) (fun v _ => len - (intOf v).toNat)
    case atStart => exact ⟨0, one, two, 0, [], none, by omega, rfl, HT7, HG, by simp, Lib.hid (fun k r h => by simp at h), Lib.hid (fun b ⟨k, r, h, _⟩ => by simp at h), HB7, HL7⟩
    case round =>
      clear HT7 HG HB7 HL7
      obtain ⟨i, z0, z1, c, rows, Ab, hi, rfl, HT, HG, few, HN, HR, HB, HL⟩ := hrel
      by_cases hil : i < len
      · obtain ⟨gA, off, rfl, _, _, a0, a1, a2, _, hnb⟩ := HL.out i hil
        have hc0 := HT.out.ds.cellAt 0
        have hc1 := HT.out.ds.cellAt 1
        have hc2 := HT.out.rs.cellAt 0
        have hc3 := HT.out.rs.cellAt 1
        have hown : ∀ b, (Value.slice Ab rows.length c).ownBlock = some b → p < b := fun b hb => (HG.out.hO.lt b hb).1
        rcases and_one_i64 (on i) with hk | hk
        · have HW := Lib.hid (Dw.past ⟨HT.out.d0, HT.out.r0, HG.out, few, HN.out⟩ ((Keeps.refl (fun _ => False) wr).drew))
          clear few
          go_wp2_with fail
          go_region_with (first | (go_at_call 14; with_reducible refine Calls.mono (does_any hnb HW.out) ?_; rintro e w8 hE; obtain ⟨rfl, z', rows', A', c', HI⟩ := dstep0 HT.out HG.out hrp HR.out HB.out HL.out hE; replace HI := Lib.hid HI; clear hE))
          all_goals
            go_wp2_with fail
            go_roundw
            case rel => exact ⟨i + 1, _, _, c', rows', A', by omega, by go_num, Lib.hid HI.out.1, Lib.hid HI.out.2.1, HI.out.2.2.1, Lib.hid HI.out.2.2.2.1, Lib.hid HI.out.2.2.2.2.1, Lib.hid HI.out.2.2.2.2.2.1, Lib.hid HI.out.2.2.2.2.2.2⟩
            case measure => (simp [intOf] <;> omega)
        · have HW := Lib.hid (Dw.past ⟨HT.out.d1, HT.out.r1, HG.out, few, HN.out⟩ ((Keeps.refl (fun _ => False) wr).drew))
          clear few
          go_wp2_with fail
          go_region_with (first | (go_at_call 14; with_reducible refine Calls.mono (does_any hnb HW.out) ?_; rintro e w8 hE; obtain ⟨rfl, z', rows', A', c', HI⟩ := dstep1 HT.out HG.out hrp HR.out HB.out HL.out hE; replace HI := Lib.hid HI; clear hE))
          all_goals
            go_wp2_with fail
            go_roundw
            case rel => exact ⟨i + 1, _, _, c', rows', A', by omega, by go_num, Lib.hid HI.out.1, Lib.hid HI.out.2.1, HI.out.2.2.1, Lib.hid HI.out.2.2.2.1, Lib.hid HI.out.2.2.2.2.1, Lib.hid HI.out.2.2.2.2.2.1, Lib.hid HI.out.2.2.2.2.2.2⟩
            case measure => (simp [intOf] <;> omega)
      · obtain rfl : i = len := by omega
        have HAp := Lib.hid (fo_apart HT.out HG.out few HN.out HR.out HB.out)
        obtain ⟨x0, hx0⟩ : ∃ x, mix (adv z0) = x := ⟨_, rfl⟩
        obtain ⟨x1, hx1⟩ : ∃ x, mix (adv z1) = x := ⟨_, rfl⟩
        have HX0 := Lib.hid hx0; have HX1 := Lib.hid hx1
        have e0 : ((x0 : Int) == x0) = true := by simp
        have e1 : ((x1 : Int) == x1) = true := by simp
        clear HT HG few HN HR HB HL hx0 hx1
        go_wp2_with fail
        refine wp_region_any (by kernel_rfl) ?_
        change wpAny _ _ _ _ _ _ _ (World.drew _)
        refine wpAny_take (i := 0) (v := ?v1) rfl (by kernel_rfl) (by kernel_rfl) (by kernel_rfl) (fun _ _ _ h => h) (Or.inl ⟨by rfl, ?hy1⟩) ?rest1
        case hy1 => (intro w; go_simp; try with_reducible rfl)
        go_simp
        refine wpAny_ready (rs := [1]) (by kernel_rfl) (by simp) ?_
        refine AllReady.cons rfl (fun K hK => ?_) AllReady.nil
        go_simp
        refine HAp.out.mono ?_
        rintro e X ⟨rfl, hX⟩
        have H := Lib.hid hX
        obtain ⟨c0, c1, c2, c3⟩ := hX.cells
        clear hX
        refine hK _ _ ?_
        clear hK K
        refine wpAny_take (i := 2) (v := ?v2) rfl (by kernel_rfl) (by kernel_rfl) (by kernel_rfl) (fun _ _ _ h => h) (Or.inl ⟨by rfl, ?hy2⟩) ?rest2
        case hy2 => (intro w; go_simp; try with_reducible rfl)
        go_simp
        refine wpAny_take (i := 3) (v := ?v3) rfl (by kernel_rfl) (by kernel_rfl) (by kernel_rfl) (fun _ _ _ h => h) (Or.inl ⟨by rfl, ?hy3⟩) ?rest3
        case hy3 => (intro w; go_simp; try with_reducible rfl)
        go_simp
        refine wpAny_take (i := 4) (v := ?v4) rfl (by kernel_rfl) (by kernel_rfl) (by kernel_rfl) (fun _ _ _ h => h) (Or.inl ⟨by rfl, ?hy4⟩) ?rest4
        case hy4 => (intro w; go_simp; try with_reducible rfl)
        go_simp
        refine wpAny_take (i := 7) (v := ?v5) rfl (by kernel_rfl) (by kernel_rfl) (by kernel_rfl) (fun _ _ _ h => h) (Or.inl ⟨by rfl, ?hy5⟩) ?rest5
        case hy5 => (intro w; go_simp; try with_reducible rfl)
        go_simp
        refine wpAny_take (i := 8) (v := ?v6) rfl (by kernel_rfl) (by kernel_rfl) (by kernel_rfl) (fun _ _ _ h => h) (Or.inl ⟨by rfl, ?hy6⟩) ?rest6
        case hy6 => (intro w; go_simp; try with_reducible rfl)
        go_simp
        refine wpAny_ready (rs := [5, 9]) (by kernel_rfl) (by simp) ?_
        refine AllReady.cons rfl (fun K hK => ?s7) ?m7
        case s7 =>
          go_simp
          refine hK _ _ ?_
          clear hK K
          refine wpAny_ready (rs := [6, 9]) (by kernel_rfl) (by simp) ?_
          refine AllReady.cons rfl (fun K hK => ?s8) ?m8
          case s8 =>
            go_simp
            refine (fo_n0 H.out _ HX0.out).mono ?_
            rintro e X ⟨rfl, hX⟩
            clear c0 c1 c2 c3 H
            have H := Lib.hid hX
            obtain ⟨c0, c1, c2, c3⟩ := hX.cells
            clear hX
            refine hK _ _ ?_
            clear hK K
            refine wpAny_ready (rs := [9]) (by kernel_rfl) (by simp) ?_
            refine AllReady.cons rfl (fun K hK => ?_) AllReady.nil
            go_simp
            refine hK _ _ ?_
            clear hK K
            refine wpAny_ready (rs := [10]) (by kernel_rfl) (by simp) ?_
            refine AllReady.cons rfl (fun K hK => ?_) AllReady.nil
            go_simp
            refine (fo_m0 H.out _ HX0.out).mono ?_
            rintro e X ⟨rfl, hX⟩
            clear c0 c1 c2 c3 H
            have H := Lib.hid hX
            obtain ⟨c0, c1, c2, c3⟩ := hX.cells
            clear hX
            refine hK _ _ ?_
            clear hK K
            refine wpAny_take (i := 11) (v := ?v9) rfl (by kernel_rfl) (by kernel_rfl) (by kernel_rfl) (fun _ _ _ h => h) (Or.inl ⟨by rfl, ?hy9⟩) ?rest9
            case hy9 => (intro w; go_simp; try with_reducible rfl)
            go_simp
            refine wpAny_take (i := 12) (v := ?v10) rfl (by kernel_rfl) (by kernel_rfl) (by kernel_rfl) (fun _ _ _ h => h) (Or.inl ⟨by rfl, ?hy10⟩) ?rest10
            case hy10 => (intro w; go_simp; try with_reducible rfl)
            go_simp
            refine wpAny_take (i := 13) (v := ?v11) rfl (by kernel_rfl) (by kernel_rfl) (by kernel_rfl) (fun _ _ _ h => h) (Or.inl ⟨by rfl, ?hy11⟩) ?rest11
            case hy11 => (intro w; go_simp; try with_reducible rfl)
            go_simp
            refine wpAny_take (i := 14) (v := ?v12) rfl (by kernel_rfl) (by kernel_rfl) (by kernel_rfl) (fun _ _ _ h => h) (Or.inl ⟨by rfl, ?hy12⟩) ?rest12
            case hy12 => (intro w; go_simp; try with_reducible rfl)
            go_simp
            refine wpAny_take (i := 15) (v := ?v13) rfl (by kernel_rfl) (by kernel_rfl) (by kernel_rfl) (fun _ _ _ h => h) (Or.inl ⟨by rfl, ?hy13⟩) ?rest13
            case hy13 => (intro w; go_simp; try with_reducible rfl)
            go_simp
            refine wpAny_take (i := 18) (v := ?v14) rfl (by kernel_rfl) (by kernel_rfl) (by kernel_rfl) (fun _ _ _ h => h) (Or.inl ⟨by rfl, ?hy14⟩) ?rest14
            case hy14 => (intro w; go_simp; try with_reducible rfl)
            go_simp
            refine wpAny_take (i := 19) (v := ?v15) rfl (by kernel_rfl) (by kernel_rfl) (by kernel_rfl) (fun _ _ _ h => h) (Or.inl ⟨by rfl, ?hy15⟩) ?rest15
            case hy15 => (intro w; go_simp; try with_reducible rfl)
            go_simp
            refine wpAny_ready (rs := [16, 20]) (by kernel_rfl) (by simp) ?_
            refine AllReady.cons rfl (fun K hK => ?s16) ?m16
            case s16 =>
              go_simp
              refine hK _ _ ?_
              clear hK K
              refine wpAny_ready (rs := [17, 20]) (by kernel_rfl) (by simp) ?_
              refine AllReady.cons rfl (fun K hK => ?s17) ?m17
              case s17 =>
                go_simp
                refine (fo_n1 H.out _ HX1.out).mono ?_
                rintro e X ⟨rfl, hX⟩
                clear c0 c1 c2 c3 H
                have H := Lib.hid hX
                obtain ⟨c0, c1, c2, c3⟩ := hX.cells
                clear hX
                refine hK _ _ ?_
                clear hK K
                refine wpAny_ready (rs := [20]) (by kernel_rfl) (by simp) ?_
                refine AllReady.cons rfl (fun K hK => ?_) AllReady.nil
                go_simp
                refine hK _ _ ?_
                clear hK K
                refine wpAny_ready (rs := [21]) (by kernel_rfl) (by simp) ?_
                refine AllReady.cons rfl (fun K hK => ?_) AllReady.nil
                go_simp
                refine (fo_m1 H.out _ HX1.out).mono ?_
                rintro e X ⟨rfl, hX⟩
                clear c0 c1 c2 c3 H
                have H := Lib.hid hX
                obtain ⟨c0, c1, c2, c3⟩ := hX.cells
                clear hX
                refine hK _ _ ?_
                clear hK K
                refine wpAny_take (i := 22) (v := ?v20) rfl (by kernel_rfl) (by kernel_rfl) (by kernel_rfl) (fun _ _ _ h => h) (Or.inl ⟨by rfl, ?hy20⟩) ?rest20
                case hy20 => (intro w; go_simp; try with_reducible rfl)
                go_simp
                refine wpAny_take (i := 23) (v := ?v21) rfl (by kernel_rfl) (by kernel_rfl) (by kernel_rfl) (fun _ _ _ h => h) (Or.inl ⟨by rfl, ?hy21⟩) ?rest21
                case hy21 => (intro w; go_simp; try with_reducible rfl)
                go_simp
                refine wpAny_take (i := 24) (v := ?v22) rfl (by kernel_rfl) (by kernel_rfl) (by kernel_rfl) (fun _ _ _ h => h) (Or.inl ⟨by rfl, ?hy22⟩) ?rest22
                case hy22 => (intro w; go_simp; try with_reducible rfl)
                go_simp
                refine wpAny_ready (rs := [25]) (by kernel_rfl) (by simp) ?_
                refine AllReady.cons rfl (fun K hK => ?_) AllReady.nil
                go_simp
                refine (lives_any _).mono ?_
                rintro e X9 ⟨rfl, hb⟩
                have HB9 := Lib.hid (belowThen' H.out.below hb)
                clear hb c0 c1 c2 c3 H
                refine hK _ _ ?_
                clear hK K
                refine wpAny_take (i := 26) (v := ?v18) rfl (by kernel_rfl) (by kernel_rfl) (by kernel_rfl) (fun _ _ _ h => h) (Or.inl ⟨by rfl, ?hy18⟩) ?rest18
                case hy18 => (intro w; go_simp; try with_reducible rfl)
                go_simp
                refine wpAny_take (i := 27) (v := ?v19) rfl (by kernel_rfl) (by kernel_rfl) (by kernel_rfl) (fun _ _ _ h => h) (Or.inl ⟨by rfl, ?hy19⟩) ?rest19
                case hy19 => (intro w; go_simp; try with_reducible rfl)
                go_simp
                refine wpAny_done (by kernel_rfl) ?_ _
                go_wp2_with fail
                go_ret
                exact ⟨rfl, HB9.out⟩
              refine AllReady.cons rfl (fun K hK => ?s23) ?m23
              case s23 =>
                go_simp
                refine hK _ _ ?_
                clear hK K
                refine wpAny_ready (rs := [17]) (by kernel_rfl) (by simp) ?_
                refine AllReady.cons rfl (fun K hK => ?_) AllReady.nil
                go_simp
                refine (fo_n1 H.out _ HX1.out).mono ?_
                rintro e X ⟨rfl, hX⟩
                clear c0 c1 c2 c3 H
                have H := Lib.hid hX
                obtain ⟨c0, c1, c2, c3⟩ := hX.cells
                clear hX
                refine hK _ _ ?_
                clear hK K
                refine wpAny_ready (rs := [21]) (by kernel_rfl) (by simp) ?_
                refine AllReady.cons rfl (fun K hK => ?_) AllReady.nil
                go_simp
                refine (fo_m1 H.out _ HX1.out).mono ?_
                rintro e X ⟨rfl, hX⟩
                clear c0 c1 c2 c3 H
                have H := Lib.hid hX
                obtain ⟨c0, c1, c2, c3⟩ := hX.cells
                clear hX
                refine hK _ _ ?_
                clear hK K
                refine wpAny_take (i := 22) (v := ?v26) rfl (by kernel_rfl) (by kernel_rfl) (by kernel_rfl) (fun _ _ _ h => h) (Or.inl ⟨by rfl, ?hy26⟩) ?rest26
                case hy26 => (intro w; go_simp; try with_reducible rfl)
                go_simp
                refine wpAny_take (i := 23) (v := ?v27) rfl (by kernel_rfl) (by kernel_rfl) (by kernel_rfl) (fun _ _ _ h => h) (Or.inl ⟨by rfl, ?hy27⟩) ?rest27
                case hy27 => (intro w; go_simp; try with_reducible rfl)
                go_simp
                refine wpAny_take (i := 24) (v := ?v28) rfl (by kernel_rfl) (by kernel_rfl) (by kernel_rfl) (fun _ _ _ h => h) (Or.inl ⟨by rfl, ?hy28⟩) ?rest28
                case hy28 => (intro w; go_simp; try with_reducible rfl)
                go_simp
                refine wpAny_ready (rs := [25]) (by kernel_rfl) (by simp) ?_
                refine AllReady.cons rfl (fun K hK => ?_) AllReady.nil
                go_simp
                refine (lives_any _).mono ?_
                rintro e X9 ⟨rfl, hb⟩
                have HB9 := Lib.hid (belowThen' H.out.below hb)
                clear hb c0 c1 c2 c3 H
                refine hK _ _ ?_
                clear hK K
                refine wpAny_take (i := 26) (v := ?v24) rfl (by kernel_rfl) (by kernel_rfl) (by kernel_rfl) (fun _ _ _ h => h) (Or.inl ⟨by rfl, ?hy24⟩) ?rest24
                case hy24 => (intro w; go_simp; try with_reducible rfl)
                go_simp
                refine wpAny_take (i := 27) (v := ?v25) rfl (by kernel_rfl) (by kernel_rfl) (by kernel_rfl) (fun _ _ _ h => h) (Or.inl ⟨by rfl, ?hy25⟩) ?rest25
                case hy25 => (intro w; go_simp; try with_reducible rfl)
                go_simp
                refine wpAny_done (by kernel_rfl) ?_ _
                go_wp2_with fail
                go_ret
                exact ⟨rfl, HB9.out⟩
              exact AllReady.nil
            refine AllReady.cons rfl (fun K hK => ?s29) ?m29
            case s29 =>
              go_simp
              refine hK _ _ ?_
              clear hK K
              refine wpAny_ready (rs := [16]) (by kernel_rfl) (by simp) ?_
              refine AllReady.cons rfl (fun K hK => ?_) AllReady.nil
              go_simp
              refine hK _ _ ?_
              clear hK K
              refine wpAny_ready (rs := [17]) (by kernel_rfl) (by simp) ?_
              refine AllReady.cons rfl (fun K hK => ?_) AllReady.nil
              go_simp
              refine (fo_n1 H.out _ HX1.out).mono ?_
              rintro e X ⟨rfl, hX⟩
              clear c0 c1 c2 c3 H
              have H := Lib.hid hX
              obtain ⟨c0, c1, c2, c3⟩ := hX.cells
              clear hX
              refine hK _ _ ?_
              clear hK K
              refine wpAny_ready (rs := [21]) (by kernel_rfl) (by simp) ?_
              refine AllReady.cons rfl (fun K hK => ?_) AllReady.nil
              go_simp
              refine (fo_m1 H.out _ HX1.out).mono ?_
              rintro e X ⟨rfl, hX⟩
              clear c0 c1 c2 c3 H
              have H := Lib.hid hX
              obtain ⟨c0, c1, c2, c3⟩ := hX.cells
              clear hX
              refine hK _ _ ?_
              clear hK K
              refine wpAny_take (i := 22) (v := ?v32) rfl (by kernel_rfl) (by kernel_rfl) (by kernel_rfl) (fun _ _ _ h => h) (Or.inl ⟨by rfl, ?hy32⟩) ?rest32
              case hy32 => (intro w; go_simp; try with_reducible rfl)
              go_simp
              refine wpAny_take (i := 23) (v := ?v33) rfl (by kernel_rfl) (by kernel_rfl) (by kernel_rfl) (fun _ _ _ h => h) (Or.inl ⟨by rfl, ?hy33⟩) ?rest33
              case hy33 => (intro w; go_simp; try with_reducible rfl)
              go_simp
              refine wpAny_take (i := 24) (v := ?v34) rfl (by kernel_rfl) (by kernel_rfl) (by kernel_rfl) (fun _ _ _ h => h) (Or.inl ⟨by rfl, ?hy34⟩) ?rest34
              case hy34 => (intro w; go_simp; try with_reducible rfl)
              go_simp
              refine wpAny_ready (rs := [25]) (by kernel_rfl) (by simp) ?_
              refine AllReady.cons rfl (fun K hK => ?_) AllReady.nil
              go_simp
              refine (lives_any _).mono ?_
              rintro e X9 ⟨rfl, hb⟩
              have HB9 := Lib.hid (belowThen' H.out.below hb)
              clear hb c0 c1 c2 c3 H
              refine hK _ _ ?_
              clear hK K
              refine wpAny_take (i := 26) (v := ?v30) rfl (by kernel_rfl) (by kernel_rfl) (by kernel_rfl) (fun _ _ _ h => h) (Or.inl ⟨by rfl, ?hy30⟩) ?rest30
              case hy30 => (intro w; go_simp; try with_reducible rfl)
              go_simp
              refine wpAny_take (i := 27) (v := ?v31) rfl (by kernel_rfl) (by kernel_rfl) (by kernel_rfl) (fun _ _ _ h => h) (Or.inl ⟨by rfl, ?hy31⟩) ?rest31
              case hy31 => (intro w; go_simp; try with_reducible rfl)
              go_simp
              refine wpAny_done (by kernel_rfl) ?_ _
              go_wp2_with fail
              go_ret
              exact ⟨rfl, HB9.out⟩
            exact AllReady.nil
          refine AllReady.cons rfl (fun K hK => ?s35) ?m35
          case s35 =>
            go_simp
            refine hK _ _ ?_
            clear hK K
            refine wpAny_ready (rs := [6]) (by kernel_rfl) (by simp) ?_
            refine AllReady.cons rfl (fun K hK => ?_) AllReady.nil
            go_simp
            refine (fo_n0 H.out _ HX0.out).mono ?_
            rintro e X ⟨rfl, hX⟩
            clear c0 c1 c2 c3 H
            have H := Lib.hid hX
            obtain ⟨c0, c1, c2, c3⟩ := hX.cells
            clear hX
            refine hK _ _ ?_
            clear hK K
            refine wpAny_ready (rs := [10]) (by kernel_rfl) (by simp) ?_
            refine AllReady.cons rfl (fun K hK => ?_) AllReady.nil
            go_simp
            refine (fo_m0 H.out _ HX0.out).mono ?_
            rintro e X ⟨rfl, hX⟩
            clear c0 c1 c2 c3 H
            have H := Lib.hid hX
            obtain ⟨c0, c1, c2, c3⟩ := hX.cells
            clear hX
            refine hK _ _ ?_
            clear hK K
            refine wpAny_take (i := 11) (v := ?v36) rfl (by kernel_rfl) (by kernel_rfl) (by kernel_rfl) (fun _ _ _ h => h) (Or.inl ⟨by rfl, ?hy36⟩) ?rest36
            case hy36 => (intro w; go_simp; try with_reducible rfl)
            go_simp
            refine wpAny_take (i := 12) (v := ?v37) rfl (by kernel_rfl) (by kernel_rfl) (by kernel_rfl) (fun _ _ _ h => h) (Or.inl ⟨by rfl, ?hy37⟩) ?rest37
            case hy37 => (intro w; go_simp; try with_reducible rfl)
            go_simp
            refine wpAny_take (i := 13) (v := ?v38) rfl (by kernel_rfl) (by kernel_rfl) (by kernel_rfl) (fun _ _ _ h => h) (Or.inl ⟨by rfl, ?hy38⟩) ?rest38
            case hy38 => (intro w; go_simp; try with_reducible rfl)
            go_simp
            refine wpAny_take (i := 14) (v := ?v39) rfl (by kernel_rfl) (by kernel_rfl) (by kernel_rfl) (fun _ _ _ h => h) (Or.inl ⟨by rfl, ?hy39⟩) ?rest39
            case hy39 => (intro w; go_simp; try with_reducible rfl)
            go_simp
            refine wpAny_take (i := 15) (v := ?v40) rfl (by kernel_rfl) (by kernel_rfl) (by kernel_rfl) (fun _ _ _ h => h) (Or.inl ⟨by rfl, ?hy40⟩) ?rest40
            case hy40 => (intro w; go_simp; try with_reducible rfl)
            go_simp
            refine wpAny_take (i := 18) (v := ?v41) rfl (by kernel_rfl) (by kernel_rfl) (by kernel_rfl) (fun _ _ _ h => h) (Or.inl ⟨by rfl, ?hy41⟩) ?rest41
            case hy41 => (intro w; go_simp; try with_reducible rfl)
            go_simp
            refine wpAny_take (i := 19) (v := ?v42) rfl (by kernel_rfl) (by kernel_rfl) (by kernel_rfl) (fun _ _ _ h => h) (Or.inl ⟨by rfl, ?hy42⟩) ?rest42
            case hy42 => (intro w; go_simp; try with_reducible rfl)
            go_simp
            refine wpAny_ready (rs := [16, 20]) (by kernel_rfl) (by simp) ?_
            refine AllReady.cons rfl (fun K hK => ?s43) ?m43
            case s43 =>
              go_simp
              refine hK _ _ ?_
              clear hK K
              refine wpAny_ready (rs := [17, 20]) (by kernel_rfl) (by simp) ?_
              refine AllReady.cons rfl (fun K hK => ?s44) ?m44
              case s44 =>
                go_simp
                refine (fo_n1 H.out _ HX1.out).mono ?_
                rintro e X ⟨rfl, hX⟩
                clear c0 c1 c2 c3 H
                have H := Lib.hid hX
                obtain ⟨c0, c1, c2, c3⟩ := hX.cells
                clear hX
                refine hK _ _ ?_
                clear hK K
                refine wpAny_ready (rs := [20]) (by kernel_rfl) (by simp) ?_
                refine AllReady.cons rfl (fun K hK => ?_) AllReady.nil
                go_simp
                refine hK _ _ ?_
                clear hK K
                refine wpAny_ready (rs := [21]) (by kernel_rfl) (by simp) ?_
                refine AllReady.cons rfl (fun K hK => ?_) AllReady.nil
                go_simp
                refine (fo_m1 H.out _ HX1.out).mono ?_
                rintro e X ⟨rfl, hX⟩
                clear c0 c1 c2 c3 H
                have H := Lib.hid hX
                obtain ⟨c0, c1, c2, c3⟩ := hX.cells
                clear hX
                refine hK _ _ ?_
                clear hK K
                refine wpAny_take (i := 22) (v := ?v47) rfl (by kernel_rfl) (by kernel_rfl) (by kernel_rfl) (fun _ _ _ h => h) (Or.inl ⟨by rfl, ?hy47⟩) ?rest47
                case hy47 => (intro w; go_simp; try with_reducible rfl)
                go_simp
                refine wpAny_take (i := 23) (v := ?v48) rfl (by kernel_rfl) (by kernel_rfl) (by kernel_rfl) (fun _ _ _ h => h) (Or.inl ⟨by rfl, ?hy48⟩) ?rest48
                case hy48 => (intro w; go_simp; try with_reducible rfl)
                go_simp
                refine wpAny_take (i := 24) (v := ?v49) rfl (by kernel_rfl) (by kernel_rfl) (by kernel_rfl) (fun _ _ _ h => h) (Or.inl ⟨by rfl, ?hy49⟩) ?rest49
                case hy49 => (intro w; go_simp; try with_reducible rfl)
                go_simp
                refine wpAny_ready (rs := [25]) (by kernel_rfl) (by simp) ?_
                refine AllReady.cons rfl (fun K hK => ?_) AllReady.nil
                go_simp
                refine (lives_any _).mono ?_
                rintro e X9 ⟨rfl, hb⟩
                have HB9 := Lib.hid (belowThen' H.out.below hb)
                clear hb c0 c1 c2 c3 H
                refine hK _ _ ?_
                clear hK K
                refine wpAny_take (i := 26) (v := ?v45) rfl (by kernel_rfl) (by kernel_rfl) (by kernel_rfl) (fun _ _ _ h => h) (Or.inl ⟨by rfl, ?hy45⟩) ?rest45
                case hy45 => (intro w; go_simp; try with_reducible rfl)
                go_simp
                refine wpAny_take (i := 27) (v := ?v46) rfl (by kernel_rfl) (by kernel_rfl) (by kernel_rfl) (fun _ _ _ h => h) (Or.inl ⟨by rfl, ?hy46⟩) ?rest46
                case hy46 => (intro w; go_simp; try with_reducible rfl)
                go_simp
                refine wpAny_done (by kernel_rfl) ?_ _
                go_wp2_with fail
                go_ret
                exact ⟨rfl, HB9.out⟩
              refine AllReady.cons rfl (fun K hK => ?s50) ?m50
              case s50 =>
                go_simp
                refine hK _ _ ?_
                clear hK K
                refine wpAny_ready (rs := [17]) (by kernel_rfl) (by simp) ?_
                refine AllReady.cons rfl (fun K hK => ?_) AllReady.nil
                go_simp
                refine (fo_n1 H.out _ HX1.out).mono ?_
                rintro e X ⟨rfl, hX⟩
                clear c0 c1 c2 c3 H
                have H := Lib.hid hX
                obtain ⟨c0, c1, c2, c3⟩ := hX.cells
                clear hX
                refine hK _ _ ?_
                clear hK K
                refine wpAny_ready (rs := [21]) (by kernel_rfl) (by simp) ?_
                refine AllReady.cons rfl (fun K hK => ?_) AllReady.nil
                go_simp
                refine (fo_m1 H.out _ HX1.out).mono ?_
                rintro e X ⟨rfl, hX⟩
                clear c0 c1 c2 c3 H
                have H := Lib.hid hX
                obtain ⟨c0, c1, c2, c3⟩ := hX.cells
                clear hX
                refine hK _ _ ?_
                clear hK K
                refine wpAny_take (i := 22) (v := ?v53) rfl (by kernel_rfl) (by kernel_rfl) (by kernel_rfl) (fun _ _ _ h => h) (Or.inl ⟨by rfl, ?hy53⟩) ?rest53
                case hy53 => (intro w; go_simp; try with_reducible rfl)
                go_simp
                refine wpAny_take (i := 23) (v := ?v54) rfl (by kernel_rfl) (by kernel_rfl) (by kernel_rfl) (fun _ _ _ h => h) (Or.inl ⟨by rfl, ?hy54⟩) ?rest54
                case hy54 => (intro w; go_simp; try with_reducible rfl)
                go_simp
                refine wpAny_take (i := 24) (v := ?v55) rfl (by kernel_rfl) (by kernel_rfl) (by kernel_rfl) (fun _ _ _ h => h) (Or.inl ⟨by rfl, ?hy55⟩) ?rest55
                case hy55 => (intro w; go_simp; try with_reducible rfl)
                go_simp
                refine wpAny_ready (rs := [25]) (by kernel_rfl) (by simp) ?_
                refine AllReady.cons rfl (fun K hK => ?_) AllReady.nil
                go_simp
                refine (lives_any _).mono ?_
                rintro e X9 ⟨rfl, hb⟩
                have HB9 := Lib.hid (belowThen' H.out.below hb)
                clear hb c0 c1 c2 c3 H
                refine hK _ _ ?_
                clear hK K
                refine wpAny_take (i := 26) (v := ?v51) rfl (by kernel_rfl) (by kernel_rfl) (by kernel_rfl) (fun _ _ _ h => h) (Or.inl ⟨by rfl, ?hy51⟩) ?rest51
                case hy51 => (intro w; go_simp; try with_reducible rfl)
                go_simp
                refine wpAny_take (i := 27) (v := ?v52) rfl (by kernel_rfl) (by kernel_rfl) (by kernel_rfl) (fun _ _ _ h => h) (Or.inl ⟨by rfl, ?hy52⟩) ?rest52
                case hy52 => (intro w; go_simp; try with_reducible rfl)
                go_simp
                refine wpAny_done (by kernel_rfl) ?_ _
                go_wp2_with fail
                go_ret
                exact ⟨rfl, HB9.out⟩
              exact AllReady.nil
            refine AllReady.cons rfl (fun K hK => ?s56) ?m56
            case s56 =>
              go_simp
              refine hK _ _ ?_
              clear hK K
              refine wpAny_ready (rs := [16]) (by kernel_rfl) (by simp) ?_
              refine AllReady.cons rfl (fun K hK => ?_) AllReady.nil
              go_simp
              refine hK _ _ ?_
              clear hK K
              refine wpAny_ready (rs := [17]) (by kernel_rfl) (by simp) ?_
              refine AllReady.cons rfl (fun K hK => ?_) AllReady.nil
              go_simp
              refine (fo_n1 H.out _ HX1.out).mono ?_
              rintro e X ⟨rfl, hX⟩
              clear c0 c1 c2 c3 H
              have H := Lib.hid hX
              obtain ⟨c0, c1, c2, c3⟩ := hX.cells
              clear hX
              refine hK _ _ ?_
              clear hK K
              refine wpAny_ready (rs := [21]) (by kernel_rfl) (by simp) ?_
              refine AllReady.cons rfl (fun K hK => ?_) AllReady.nil
              go_simp
              refine (fo_m1 H.out _ HX1.out).mono ?_
              rintro e X ⟨rfl, hX⟩
              clear c0 c1 c2 c3 H
              have H := Lib.hid hX
              obtain ⟨c0, c1, c2, c3⟩ := hX.cells
              clear hX
              refine hK _ _ ?_
              clear hK K
              refine wpAny_take (i := 22) (v := ?v59) rfl (by kernel_rfl) (by kernel_rfl) (by kernel_rfl) (fun _ _ _ h => h) (Or.inl ⟨by rfl, ?hy59⟩) ?rest59
              case hy59 => (intro w; go_simp; try with_reducible rfl)
              go_simp
              refine wpAny_take (i := 23) (v := ?v60) rfl (by kernel_rfl) (by kernel_rfl) (by kernel_rfl) (fun _ _ _ h => h) (Or.inl ⟨by rfl, ?hy60⟩) ?rest60
              case hy60 => (intro w; go_simp; try with_reducible rfl)
              go_simp
              refine wpAny_take (i := 24) (v := ?v61) rfl (by kernel_rfl) (by kernel_rfl) (by kernel_rfl) (fun _ _ _ h => h) (Or.inl ⟨by rfl, ?hy61⟩) ?rest61
              case hy61 => (intro w; go_simp; try with_reducible rfl)
              go_simp
              refine wpAny_ready (rs := [25]) (by kernel_rfl) (by simp) ?_
              refine AllReady.cons rfl (fun K hK => ?_) AllReady.nil
              go_simp
              refine (lives_any _).mono ?_
              rintro e X9 ⟨rfl, hb⟩
              have HB9 := Lib.hid (belowThen' H.out.below hb)
              clear hb c0 c1 c2 c3 H
              refine hK _ _ ?_
              clear hK K
              refine wpAny_take (i := 26) (v := ?v57) rfl (by kernel_rfl) (by kernel_rfl) (by kernel_rfl) (fun _ _ _ h => h) (Or.inl ⟨by rfl, ?hy57⟩) ?rest57
              case hy57 => (intro w; go_simp; try with_reducible rfl)
              go_simp
              refine wpAny_take (i := 27) (v := ?v58) rfl (by kernel_rfl) (by kernel_rfl) (by kernel_rfl) (fun _ _ _ h => h) (Or.inl ⟨by rfl, ?hy58⟩) ?rest58
              case hy58 => (intro w; go_simp; try with_reducible rfl)
              go_simp
              refine wpAny_done (by kernel_rfl) ?_ _
              go_wp2_with fail
              go_ret
              exact ⟨rfl, HB9.out⟩
            exact AllReady.nil
          exact AllReady.nil
        refine AllReady.cons rfl (fun K hK => ?s62) ?m62
        case s62 =>
          go_simp
          refine hK _ _ ?_
          clear hK K
          refine wpAny_ready (rs := [5]) (by kernel_rfl) (by simp) ?_
          refine AllReady.cons rfl (fun K hK => ?_) AllReady.nil
          go_simp
          refine hK _ _ ?_
          clear hK K
          refine wpAny_ready (rs := [6]) (by kernel_rfl) (by simp) ?_
          refine AllReady.cons rfl (fun K hK => ?_) AllReady.nil
          go_simp
          refine (fo_n0 H.out _ HX0.out).mono ?_
          rintro e X ⟨rfl, hX⟩
          clear c0 c1 c2 c3 H
          have H := Lib.hid hX
          obtain ⟨c0, c1, c2, c3⟩ := hX.cells
          clear hX
          refine hK _ _ ?_
          clear hK K
          refine wpAny_ready (rs := [10]) (by kernel_rfl) (by simp) ?_
          refine AllReady.cons rfl (fun K hK => ?_) AllReady.nil
          go_simp
          refine (fo_m0 H.out _ HX0.out).mono ?_
          rintro e X ⟨rfl, hX⟩
          clear c0 c1 c2 c3 H
          have H := Lib.hid hX
          obtain ⟨c0, c1, c2, c3⟩ := hX.cells
          clear hX
          refine hK _ _ ?_
          clear hK K
          refine wpAny_take (i := 11) (v := ?v63) rfl (by kernel_rfl) (by kernel_rfl) (by kernel_rfl) (fun _ _ _ h => h) (Or.inl ⟨by rfl, ?hy63⟩) ?rest63
          case hy63 => (intro w; go_simp; try with_reducible rfl)
          go_simp
          refine wpAny_take (i := 12) (v := ?v64) rfl (by kernel_rfl) (by kernel_rfl) (by kernel_rfl) (fun _ _ _ h => h) (Or.inl ⟨by rfl, ?hy64⟩) ?rest64
          case hy64 => (intro w; go_simp; try with_reducible rfl)
          go_simp
          refine wpAny_take (i := 13) (v := ?v65) rfl (by kernel_rfl) (by kernel_rfl) (by kernel_rfl) (fun _ _ _ h => h) (Or.inl ⟨by rfl, ?hy65⟩) ?rest65
          case hy65 => (intro w; go_simp; try with_reducible rfl)
          go_simp
          refine wpAny_take (i := 14) (v := ?v66) rfl (by kernel_rfl) (by kernel_rfl) (by kernel_rfl) (fun _ _ _ h => h) (Or.inl ⟨by rfl, ?hy66⟩) ?rest66
          case hy66 => (intro w; go_simp; try with_reducible rfl)
          go_simp
          refine wpAny_take (i := 15) (v := ?v67) rfl (by kernel_rfl) (by kernel_rfl) (by kernel_rfl) (fun _ _ _ h => h) (Or.inl ⟨by rfl, ?hy67⟩) ?rest67
          case hy67 => (intro w; go_simp; try with_reducible rfl)
          go_simp
          refine wpAny_take (i := 18) (v := ?v68) rfl (by kernel_rfl) (by kernel_rfl) (by kernel_rfl) (fun _ _ _ h => h) (Or.inl ⟨by rfl, ?hy68⟩) ?rest68
          case hy68 => (intro w; go_simp; try with_reducible rfl)
          go_simp
          refine wpAny_take (i := 19) (v := ?v69) rfl (by kernel_rfl) (by kernel_rfl) (by kernel_rfl) (fun _ _ _ h => h) (Or.inl ⟨by rfl, ?hy69⟩) ?rest69
          case hy69 => (intro w; go_simp; try with_reducible rfl)
          go_simp
          refine wpAny_ready (rs := [16, 20]) (by kernel_rfl) (by simp) ?_
          refine AllReady.cons rfl (fun K hK => ?s70) ?m70
          case s70 =>
            go_simp
            refine hK _ _ ?_
            clear hK K
            refine wpAny_ready (rs := [17, 20]) (by kernel_rfl) (by simp) ?_
            refine AllReady.cons rfl (fun K hK => ?s71) ?m71
            case s71 =>
              go_simp
              refine (fo_n1 H.out _ HX1.out).mono ?_
              rintro e X ⟨rfl, hX⟩
              clear c0 c1 c2 c3 H
              have H := Lib.hid hX
              obtain ⟨c0, c1, c2, c3⟩ := hX.cells
              clear hX
              refine hK _ _ ?_
              clear hK K
              refine wpAny_ready (rs := [20]) (by kernel_rfl) (by simp) ?_
              refine AllReady.cons rfl (fun K hK => ?_) AllReady.nil
              go_simp
              refine hK _ _ ?_
              clear hK K
              refine wpAny_ready (rs := [21]) (by kernel_rfl) (by simp) ?_
              refine AllReady.cons rfl (fun K hK => ?_) AllReady.nil
              go_simp
              refine (fo_m1 H.out _ HX1.out).mono ?_
              rintro e X ⟨rfl, hX⟩
              clear c0 c1 c2 c3 H
              have H := Lib.hid hX
              obtain ⟨c0, c1, c2, c3⟩ := hX.cells
              clear hX
              refine hK _ _ ?_
              clear hK K
              refine wpAny_take (i := 22) (v := ?v74) rfl (by kernel_rfl) (by kernel_rfl) (by kernel_rfl) (fun _ _ _ h => h) (Or.inl ⟨by rfl, ?hy74⟩) ?rest74
              case hy74 => (intro w; go_simp; try with_reducible rfl)
              go_simp
              refine wpAny_take (i := 23) (v := ?v75) rfl (by kernel_rfl) (by kernel_rfl) (by kernel_rfl) (fun _ _ _ h => h) (Or.inl ⟨by rfl, ?hy75⟩) ?rest75
              case hy75 => (intro w; go_simp; try with_reducible rfl)
              go_simp
              refine wpAny_take (i := 24) (v := ?v76) rfl (by kernel_rfl) (by kernel_rfl) (by kernel_rfl) (fun _ _ _ h => h) (Or.inl ⟨by rfl, ?hy76⟩) ?rest76
              case hy76 => (intro w; go_simp; try with_reducible rfl)
              go_simp
              refine wpAny_ready (rs := [25]) (by kernel_rfl) (by simp) ?_
              refine AllReady.cons rfl (fun K hK => ?_) AllReady.nil
              go_simp
              refine (lives_any _).mono ?_
              rintro e X9 ⟨rfl, hb⟩
              have HB9 := Lib.hid (belowThen' H.out.below hb)
              clear hb c0 c1 c2 c3 H
              refine hK _ _ ?_
              clear hK K
              refine wpAny_take (i := 26) (v := ?v72) rfl (by kernel_rfl) (by kernel_rfl) (by kernel_rfl) (fun _ _ _ h => h) (Or.inl ⟨by rfl, ?hy72⟩) ?rest72
              case hy72 => (intro w; go_simp; try with_reducible rfl)
              go_simp
              refine wpAny_take (i := 27) (v := ?v73) rfl (by kernel_rfl) (by kernel_rfl) (by kernel_rfl) (fun _ _ _ h => h) (Or.inl ⟨by rfl, ?hy73⟩) ?rest73
              case hy73 => (intro w; go_simp; try with_reducible rfl)
              go_simp
              refine wpAny_done (by kernel_rfl) ?_ _
              go_wp2_with fail
              go_ret
              exact ⟨rfl, HB9.out⟩
            refine AllReady.cons rfl (fun K hK => ?s77) ?m77
            case s77 =>
              go_simp
              refine hK _ _ ?_
              clear hK K
              refine wpAny_ready (rs := [17]) (by kernel_rfl) (by simp) ?_
              refine AllReady.cons rfl (fun K hK => ?_) AllReady.nil
              go_simp
              refine (fo_n1 H.out _ HX1.out).mono ?_
              rintro e X ⟨rfl, hX⟩
              clear c0 c1 c2 c3 H
              have H := Lib.hid hX
              obtain ⟨c0, c1, c2, c3⟩ := hX.cells
              clear hX
              refine hK _ _ ?_
              clear hK K
              refine wpAny_ready (rs := [21]) (by kernel_rfl) (by simp) ?_
              refine AllReady.cons rfl (fun K hK => ?_) AllReady.nil
              go_simp
              refine (fo_m1 H.out _ HX1.out).mono ?_
              rintro e X ⟨rfl, hX⟩
              clear c0 c1 c2 c3 H
              have H := Lib.hid hX
              obtain ⟨c0, c1, c2, c3⟩ := hX.cells
              clear hX
              refine hK _ _ ?_
              clear hK K
              refine wpAny_take (i := 22) (v := ?v80) rfl (by kernel_rfl) (by kernel_rfl) (by kernel_rfl) (fun _ _ _ h => h) (Or.inl ⟨by rfl, ?hy80⟩) ?rest80
              case hy80 => (intro w; go_simp; try with_reducible rfl)
              go_simp
              refine wpAny_take (i := 23) (v := ?v81) rfl (by kernel_rfl) (by kernel_rfl) (by kernel_rfl) (fun _ _ _ h => h) (Or.inl ⟨by rfl, ?hy81⟩) ?rest81
              case hy81 => (intro w; go_simp; try with_reducible rfl)
              go_simp
              refine wpAny_take (i := 24) (v := ?v82) rfl (by kernel_rfl) (by kernel_rfl) (by kernel_rfl) (fun _ _ _ h => h) (Or.inl ⟨by rfl, ?hy82⟩) ?rest82
              case hy82 => (intro w; go_simp; try with_reducible rfl)
              go_simp
              refine wpAny_ready (rs := [25]) (by kernel_rfl) (by simp) ?_
              refine AllReady.cons rfl (fun K hK => ?_) AllReady.nil
              go_simp
              refine (lives_any _).mono ?_
              rintro e X9 ⟨rfl, hb⟩
              have HB9 := Lib.hid (belowThen' H.out.below hb)
              clear hb c0 c1 c2 c3 H
              refine hK _ _ ?_
              clear hK K
              refine wpAny_take (i := 26) (v := ?v78) rfl (by kernel_rfl) (by kernel_rfl) (by kernel_rfl) (fun _ _ _ h => h) (Or.inl ⟨by rfl, ?hy78⟩) ?rest78
              case hy78 => (intro w; go_simp; try with_reducible rfl)
              go_simp
              refine wpAny_take (i := 27) (v := ?v79) rfl (by kernel_rfl) (by kernel_rfl) (by kernel_rfl) (fun _ _ _ h => h) (Or.inl ⟨by rfl, ?hy79⟩) ?rest79
              case hy79 => (intro w; go_simp; try with_reducible rfl)
              go_simp
              refine wpAny_done (by kernel_rfl) ?_ _
              go_wp2_with fail
              go_ret
              exact ⟨rfl, HB9.out⟩
            exact AllReady.nil
          refine AllReady.cons rfl (fun K hK => ?s83) ?m83
          case s83 =>
            go_simp
            refine hK _ _ ?_
            clear hK K
            refine wpAny_ready (rs := [16]) (by kernel_rfl) (by simp) ?_
            refine AllReady.cons rfl (fun K hK => ?_) AllReady.nil
            go_simp
            refine hK _ _ ?_
            clear hK K
            refine wpAny_ready (rs := [17]) (by kernel_rfl) (by simp) ?_
            refine AllReady.cons rfl (fun K hK => ?_) AllReady.nil
            go_simp
            refine (fo_n1 H.out _ HX1.out).mono ?_
            rintro e X ⟨rfl, hX⟩
            clear c0 c1 c2 c3 H
            have H := Lib.hid hX
            obtain ⟨c0, c1, c2, c3⟩ := hX.cells
            clear hX
            refine hK _ _ ?_
            clear hK K
            refine wpAny_ready (rs := [21]) (by kernel_rfl) (by simp) ?_
            refine AllReady.cons rfl (fun K hK => ?_) AllReady.nil
            go_simp
            refine (fo_m1 H.out _ HX1.out).mono ?_
            rintro e X ⟨rfl, hX⟩
            clear c0 c1 c2 c3 H
            have H := Lib.hid hX
            obtain ⟨c0, c1, c2, c3⟩ := hX.cells
            clear hX
            refine hK _ _ ?_
            clear hK K
            refine wpAny_take (i := 22) (v := ?v86) rfl (by kernel_rfl) (by kernel_rfl) (by kernel_rfl) (fun _ _ _ h => h) (Or.inl ⟨by rfl, ?hy86⟩) ?rest86
            case hy86 => (intro w; go_simp; try with_reducible rfl)
            go_simp
            refine wpAny_take (i := 23) (v := ?v87) rfl (by kernel_rfl) (by kernel_rfl) (by kernel_rfl) (fun _ _ _ h => h) (Or.inl ⟨by rfl, ?hy87⟩) ?rest87
            case hy87 => (intro w; go_simp; try with_reducible rfl)
            go_simp
            refine wpAny_take (i := 24) (v := ?v88) rfl (by kernel_rfl) (by kernel_rfl) (by kernel_rfl) (fun _ _ _ h => h) (Or.inl ⟨by rfl, ?hy88⟩) ?rest88
            case hy88 => (intro w; go_simp; try with_reducible rfl)
            go_simp
            refine wpAny_ready (rs := [25]) (by kernel_rfl) (by simp) ?_
            refine AllReady.cons rfl (fun K hK => ?_) AllReady.nil
            go_simp
            refine (lives_any _).mono ?_
            rintro e X9 ⟨rfl, hb⟩
            have HB9 := Lib.hid (belowThen' H.out.below hb)
            clear hb c0 c1 c2 c3 H
            refine hK _ _ ?_
            clear hK K
            refine wpAny_take (i := 26) (v := ?v84) rfl (by kernel_rfl) (by kernel_rfl) (by kernel_rfl) (fun _ _ _ h => h) (Or.inl ⟨by rfl, ?hy84⟩) ?rest84
            case hy84 => (intro w; go_simp; try with_reducible rfl)
            go_simp
            refine wpAny_take (i := 27) (v := ?v85) rfl (by kernel_rfl) (by kernel_rfl) (by kernel_rfl) (fun _ _ _ h => h) (Or.inl ⟨by rfl, ?hy85⟩) ?rest85
            case hy85 => (intro w; go_simp; try with_reducible rfl)
            go_simp
            refine wpAny_done (by kernel_rfl) ?_ _
            go_wp2_with fail
            go_ret
            exact ⟨rfl, HB9.out⟩
          exact AllReady.nil
        exact AllReady.nil
end Go.Proofs.YtalngbdjabjahaaDoor
