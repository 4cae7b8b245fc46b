/-
  Heads and tails of slices, whatever slice that reads as a list. Conditions: none.
-/
import Derived.Test.YtgbikcliembkcaaDoorAppend
import Derived.Test.YtgbikcliembkcaaDoorStandP
import Derived.Test.YtgbikcliembkcaaDoorStMe
import Derived.Test.YtgbikcliembkcaaDoorNwB
import Derived.Test.YtgbikcliembkcaaDoorCopyRows
import Derived.Test.YtgbikcliembkcaaDoorProg
import Derived.Deep.RegionHeld3
import Derived.Deep.RegionLaw
namespace Go.Proofs.YtgbikcliembkcaaDoor
open Go.RowKit
/-- Where a tail begins. -/
def tailA (A : Option Addr) (k c : Nat) : Option Addr := if c = k then A else A.map (·.add k)
theorem Lies.head {w : World} {B : Nat} {A : Option Addr} {xs : List Value} (h : Lies w B A xs) (k : Nat) : Lies w B A (xs.take k) := fun i u hu => h i u (by
  rw [List.getElem?_take] at hu
  split at hu
  · exact hu
  · cases hu)
theorem Lies.tail {w : World} {B k c : Nat} {A : Option Addr} {xs : List Value} (h : Lies w B A xs) (hc : xs.length ≤ c) : Lies w B (tailA A k c) (xs.drop k) := fun i u hu => by
  rw [List.getElem?_drop] at hu
  obtain ⟨g, off, hA, hg, hcell⟩ := h (k + i) u hu
  have hl := (List.getElem?_eq_some_iff.1 hu).1
  subst hA
  refine ⟨g, off + k, ?_, hg, by rw [Nat.add_assoc]; exact hcell⟩
  unfold tailA
  rw [if_neg (by omega)]
  simp only [Option.map_some, Option.some.injEq]
  unfold Addr.add
  split
  · subst_vars; rfl
  · rfl
section
variable {P : Program} {w : World} {ops : Array Oper} {rest : List Oper} {o : Oper} {a : Act} {Q : Exit → Act → World → Prop}
theorem run_size_of {t e : TypeId} {size : Nat} (ht : P.underlying t = some (.slice e)) (hsz : (P.info? e).map (·.size) = some size) (w : World) : (sizeOf (P.elem t)).run P w = .ok size w := by
  obtain ⟨i, hi, rfl⟩ := Option.map_eq_some_iff.1 hsz
  have : P.elem t = e := by simp [Program.elem, ht]
  rw [this]
  simp [sizeOf, typeInfo, hi]
theorem wpList_slice_head (hgd : o.guard = none) (t e : TypeId) (x y : Operand) (ho : o.op = .slice t x none (some y) none) (ht : P.underlying t = some (.slice e)) {size : Nat} (hsz : (P.info? e).map (·.size) = some size) (A : Option Addr) (n c k : Nat)
    (hx : a.eval x = .slice A n c) (hy : a.eval y = .int .i64 k) (hk : k ≤ c) (h : wpList P ops Q rest (a.put o.dst (.slice A k c)) w) : wpList P ops Q (o :: rest) a w :=
  wpList_plain hgd fun K hK => by
    have he : P.elem t = e := by simp [Program.elem, ht]
    have hr : (Instr.sliceAt t (.slice A n c) none (some (.int .i64 (k : Int))) none).run P w = .ok (.slice A k c) w := by
      rw [run_sliceAt_slice w t _ _ _ _ (by rw [he]; exact ht), run_slice_h w t A n c (by rw [he]; exact ht) .i64 (k : Int) (by omega) (by omega), run_size_of ht hsz]
      simp only [Result.andThen, sliced, Int.toNat_natCast, Nat.sub_zero, Nat.zero_mul]
      congr 1
      cases A with
      | none => simp
      | some q => simp [Addr.add]
    unfold Oper.wp execOp
    simp only [ho, hx, hy, Option.map_none, Option.map_some, Sem.run_bind, Sem.run_pure, Result.andThen_ok, hr]
    exact hK _ _ h
theorem wpList_slice_tail (hgd : o.guard = none) (t e : TypeId) (x y : Operand) (ho : o.op = .slice t x (some y) none none) (ht : P.underlying t = some (.slice e)) (hsz : (P.info? e).map (·.size) = some 1) (A : Option Addr) (n c k : Nat)
    (hx : a.eval x = .slice A n c) (hy : a.eval y = .int .i64 k) (hk : k ≤ n) (h : wpList P ops Q rest (a.put o.dst (.slice (tailA A k c) (n - k) (c - k))) w) : wpList P ops Q (o :: rest) a w :=
  wpList_plain hgd fun K hK => by
    have he : P.elem t = e := by simp [Program.elem, ht]
    have hr : (Instr.sliceAt t (.slice A n c) (some (.int .i64 (k : Int))) none none).run P w = .ok (.slice (tailA A k c) (n - k) (c - k)) w := by
      rw [run_sliceAt_slice w t _ _ _ _ (by rw [he]; exact ht), run_slice_l w t A n c (by rw [he]; exact ht) .i64 (k : Int) (by omega) (by omega), run_size_of ht hsz]
      simp only [Result.andThen, sliced, Int.toNat_natCast, Nat.mul_one, tailA]
    unfold Oper.wp execOp
    simp only [ho, hx, hy, Option.map_none, Option.map_some, Sem.run_bind, Sem.run_pure, Result.andThen_ok, hr]
    exact hK _ _ h
end
end Go.Proofs.YtgbikcliembkcaaDoor
/-
  A number put into a zone: the walks. Conditions: lengths within 10 ^ 9.
-/
namespace Go.Proofs.YtgbikcliembkcaaDoor
open Go.RowKit
theorem own_set {w : World} {base g n cap k : Nat} {e : TypeId} {xs : List Value} (h : w.ownsRow base e 1 (.slice (some ⟨g, 0, none⟩) n cap) n xs) (u : Value) : (w.setCell ⟨g, k, none⟩ u).ownsRow base e 1 (.slice (some ⟨g, 0, none⟩) n cap) n (xs.set k u) := by
  refine ⟨by rw [List.length_set]; exact h.1, ?_⟩
  rcases h.2 with ⟨h0, _⟩ | ⟨g', cap', cur, hv, hb, hh, hc, hm, hs, ht⟩
  · cases h0
  · injection hv with h1 h2 h3
    injection h1 with h1
    injection h1 with h1
    subst h1 h3
    refine .inr ⟨g, cap, cur.setIfInBounds k u, rfl, hb, heap_setCell_same w g k cur e u hh, hc, hm, by rw [Array.size_setIfInBounds]; exact hs, ?_⟩
    rw [← ht, Array.toList_setIfInBounds, List.take_set]
/-- A row of a copy is another one. -/
theorem CopyIn.putRow {w : World} {lo : Nat} {s : St} {Aq Ad Ay Al : Option Addr} {cq cd cy cl z : Nat} {cells : List Value} {r2 : List Int} (h : CopyIn w lo s Aq Ad Ay cq cd cy cells) (hz : z < s.zones.length) (ho : w.ownsRow lo 3 1 (.slice Al r2.length cl) r2.length (r2.map (Value.int .i64))) :
    ∃ g, Ay = some ⟨g, 0, none⟩ ∧ lo ≤ g ∧ (∃ u, w.cell? ⟨g, z, none⟩ = some u) ∧ w.frozen? ⟨g, z, none⟩ = false ∧ CopyIn (w.setCell ⟨g, z, none⟩ (.slice Al r2.length cl)) lo (rowS s z r2) Aq Ad Ay cq cd cy (cells.set z (.slice Al r2.length cl)) := by
  obtain ⟨g, cs, rfl, hb, hw, hsz, hnc, _⟩ := own_whole h.zones.own (by omega)
  have hK : Keeps (fun b => b = g) w (w.setCell ⟨g, z, none⟩ (.slice Al r2.length cl)) := (Keeps.refl (fun b => b = g) w).setCell (p := ⟨g, z, none⟩) (fun _ => rfl) _
  have hne : ∀ {e' : TypeId} {sz n' : Nat} {v' : Value} {xs' : List Value}, w.ownsRow lo e' sz v' n' xs' → 74 ≠ e' → ∀ b, v'.ownBlock = some b → ¬ b = g := fun h' hne' b hb' e => by
    subst e
    exact own_kind h.zones.own h' hne' rfl hb'
  refine ⟨g, rfl, hb, ⟨_, (hw.cellAt z).trans (Array.getElem?_eq_getElem (by omega))⟩, hw.free z, ⟨own_keepsS h.players hK (hne h.players (by decide)), own_keepsS h.cards hK (hne h.cards (by decide)), ⟨?_, fun i r hi => ?_⟩⟩⟩
  · have := own_set (k := z) h.zones.own (.slice Al r2.length cl)
    show (w.setCell _ _).ownsRow lo 74 1 _ (s.zones.set z r2).length _
    rw [List.length_set]
    have e : (rowS s z r2).zones.length = s.zones.length := by simp [rowS]
    rw [e]; exact this
  · have hcl : cells.length = s.zones.length := own_length h.zones.own
    by_cases e : i = z
    · subst e
      obtain rfl : r2 = r := by
        have : (s.zones.set i r2)[i]? = some r := hi
        rw [List.getElem?_set_self hz] at this
        exact Option.some.inj this
      exact ⟨Al, cl, List.getElem?_set_self (by omega), own_keepsS ho hK (hne ho (by decide))⟩
    · have hi' : s.zones[i]? = some r := by
        have : (s.zones.set z r2)[i]? = some r := hi
        rwa [List.getElem?_set_ne (by omega)] at this
      obtain ⟨Ai, ci, h1, h2⟩ := h.zones.row i r hi'
      exact ⟨Ai, ci, by rw [List.getElem?_set_ne (by omega)]; exact h1, own_keepsS h2 hK (hne h2 (by decide))⟩
theorem size_st : (Tryd.prog.info? 32).map (·.size) = some 7 := by kernel_rfl
end Go.Proofs.YtgbikcliembkcaaDoor
/-
  state.Copy: the walk. Conditions: lengths within 10 ^ 9.
-/
namespace Go.Proofs.YtgbikcliembkcaaDoor
open Go.RowKit
/-- A row of rows of the call's own is another one. -/
theorem RowsOwn.put {w : World} {B g n cap z cl : Nat} {Al : Option Addr} {rows : List (List Int)} {cells : List Value} {r2 : List Int} (h : RowsOwn w B (.slice (some ⟨g, 0, none⟩) n cap) rows cells) (hn : n = rows.length) (hz : z < rows.length) (ho : w.ownsRow B 3 1 (.slice Al r2.length cl) r2.length (r2.map (Value.int .i64))) :
    RowsOwn (w.setCell ⟨g, z, none⟩ (.slice Al r2.length cl)) B (.slice (some ⟨g, 0, none⟩) n cap) (rows.set z r2) (cells.set z (.slice Al r2.length cl)) := by
  subst hn
  have hK : Keeps (fun b => b = g) w (w.setCell ⟨g, z, none⟩ (.slice Al r2.length cl)) := (Keeps.refl (fun b => b = g) w).setCell (p := ⟨g, z, none⟩) (fun _ => rfl) _
  have hne : ∀ {n' : Nat} {v' : Value} {xs' : List Value}, w.ownsRow B 3 1 v' n' xs' → ∀ b, v'.ownBlock = some b → ¬ b = g := fun h' b hb' e => by
    subst e
    exact own_kind h.own h' (by decide) rfl hb'
  refine ⟨?_, fun i r hi => ?_⟩
  · rw [List.length_set]
    exact own_set (k := z) h.own (.slice Al r2.length cl)
  · have hcl : cells.length = rows.length := own_length h.own
    by_cases e : i = z
    · subst e
      obtain rfl : r2 = r := by
        rw [List.getElem?_set_self hz] at hi
        exact Option.some.inj hi
      exact ⟨Al, cl, List.getElem?_set_self (by omega), own_keepsS ho hK (hne ho)⟩
    · rw [List.getElem?_set_ne (by omega)] at hi
      obtain ⟨Ai, ci, h1, h2⟩ := h.row i r hi
      exact ⟨Ai, ci, by rw [List.getElem?_set_ne (by omega)]; exact h1, own_keepsS h2 hK (hne h2)⟩
/-- A copy that is being made: the box, the place of the answer, what is done. -/
structure CpAt (w wr : World) (s : St) (Aq Ad Az : Option Addr) (cq cd cz gz i : Nat) (cells : List Value) : Prop where
  keeps : Keeps (fun _ => False) w wr
  box : Whole wr w.heap.size 32 #[.slice Aq s.players.length cq, .slice Ad s.cards.length cd, .slice Az s.zones.length cz, .int .i32 s.turn, .int .i64 s.whose, .int .i8 s.fin, .int .i64 s.winner]
  res : Whole wr (w.heap.size + 1) 32 #[.slice none 0 0, .slice none 0 0, .slice none 0 0, .int .i32 0, .int .i64 0, .int .i8 0, .int .i64 0]
  pl : wr.ownsRow (w.heap.size + 2) 72 3 (.slice Aq s.players.length cq) s.players.length (flat Pl.cells s.players)
  cd : wr.ownsRow (w.heap.size + 2) 68 6 (.slice Ad s.cards.length cd) s.cards.length (flat Cd.cells s.cards)
  zn : RowsOwn wr (w.heap.size + 2) (.slice (some ⟨gz, 0, none⟩) s.zones.length s.zones.length) (s.zones.take i ++ List.replicate (s.zones.length - i) []) cells
  src : RowsLie wr w.heap.size Az s.zones
section
variable {w wr w' : World} {s : St} {Aq Ad Az : Option Addr} {cq cd cz gz i : Nat} {cells : List Value}
theorem CpAt.calm (h : CpAt w wr s Aq Ad Az cq cd cz gz i cells) (hk : Keeps (fun _ => False) wr w') : CpAt w w' s Aq Ad Az cq cd cz gz i cells :=
  ⟨h.keeps.trans hk, h.box.keeps hk id, h.res.keeps hk id, own_keepsS h.pl hk (fun _ _ => id), own_keepsS h.cd hk (fun _ _ => id), h.zn.keeps hk (fun _ _ => id), h.src.keeps hk (fun _ _ => id) h.keeps.size⟩
theorem CpAt.len (s : St) (i : Nat) (hi : i ≤ s.zones.length) : (s.zones.take i ++ List.replicate (s.zones.length - i) ([] : List Int)).length = s.zones.length := by
  rw [List.length_append, List.length_take, List.length_replicate]; omega
theorem CpAt.zone (h : CpAt w wr s Aq Ad Az cq cd cz gz i cells) (hi : i < s.zones.length) {Al : Option Addr} {cl : Nat} {r : List Int} (hr : s.zones[i]? = some r) (ho : wr.ownsRow (w.heap.size + 2) 3 1 (.slice Al r.length cl) r.length (r.map (Value.int .i64))) :
    CpAt w (wr.setCell ⟨gz, i, none⟩ (.slice Al r.length cl)) s Aq Ad Az cq cd cz gz (i + 1) (cells.set i (.slice Al r.length cl)) := by
  have hg := (h.zn.own.lt gz rfl).1
  have hl := CpAt.len s i (Nat.le_of_lt hi)
  have hK : Keeps (fun b => b = gz) wr (wr.setCell ⟨gz, i, none⟩ (.slice Al r.length cl)) := (Keeps.refl (fun b => b = gz) wr).setCell (p := ⟨gz, i, none⟩) (fun _ => rfl) _
  have hrow : (s.zones.take i ++ List.replicate (s.zones.length - i) ([] : List Int)).set i r = s.zones.take (i + 1) ++ List.replicate (s.zones.length - (i + 1)) [] := by
    have hlt : (s.zones.take i).length = i := by rw [List.length_take]; omega
    rw [List.set_append_right _ _ (by omega), hlt, Nat.sub_self, show s.zones.length - i = (s.zones.length - (i + 1)) + 1 by omega, List.replicate_succ, List.set_cons_zero]
    rw [List.take_add_one, hr]
    simp
  have hz := h.zn.put (z := i) hl.symm (by omega) ho
  rw [hrow] at hz
  exact ⟨h.keeps.setCell (p := ⟨gz, i, none⟩) (fun hb => absurd hb (by show ¬ gz < _; omega)) _, h.box.keeps hK (by omega), h.res.keeps hK (by omega),
    own_keepsS h.pl hK (fun b hb e => by subst e; exact own_kind h.zn.own h.pl (by decide) rfl hb), own_keepsS h.cd hK (fun b hb e => by subst e; exact own_kind h.zn.own h.cd (by decide) rfl hb), hz, h.src.keeps hK (fun b hb e => by omega) h.keeps.size⟩
end
set_option maxRecDepth 100000 in
set_option maxHeartbeats 4000000 in
theorem stCopy_any (s : St) (Ap Ac Az : Option Addr) (cp cc cz : Nat) (w : World) (hx : StIn w w.heap.size s Ap Ac Az) (hs : StSmall s) :
    Calls Tryd.prog 18 #[stV s Ap Ac Az cp cc cz] w fun e w' => ∃ Aq Ad Ay cq cd cy cells, e = .returned (stV s Aq Ad Ay cq cd cy) ∧ CopyIn w' w.heap.size s Aq Ad Ay cq cd cy cells ∧ Keeps (fun _ => False) w w' := by
  unfold stV
  have hK : Keeps (fun _ => False) w ((w.alloc (.cells #[.slice Ap s.players.length cp, .slice Ac s.cards.length cc, .slice Az s.zones.length cz, .int .i32 s.turn, .int .i64 s.whose, .int .i8 s.fin, .int .i64 s.winner] 32)).alloc (.cells #[.slice none 0 0, .slice none 0 0, .slice none 0 0, .int .i32 0, .int .i64 0, .int .i8 0, .int .i64 0] 32)) := ((Keeps.refl _ w).alloc _).alloc _
  have K0 := Lib.hid hK
  have B0 : Hid (Whole ((w.alloc (.cells #[.slice Ap s.players.length cp, .slice Ac s.cards.length cc, .slice Az s.zones.length cz, .int .i32 s.turn, .int .i64 s.whose, .int .i8 s.fin, .int .i64 s.winner] 32)).alloc (.cells #[.slice none 0 0, .slice none 0 0, .slice none 0 0, .int .i32 0, .int .i64 0, .int .i8 0, .int .i64 0] 32)) w.heap.size 32 #[.slice Ap s.players.length cp, .slice Ac s.cards.length cc, .slice Az s.zones.length cz, .int .i32 s.turn, .int .i64 s.whose, .int .i8 s.fin, .int .i64 s.winner]) := Lib.hid ((Whole.made w _ _).alloc _)
  have R0 : Hid (Whole ((w.alloc (.cells #[.slice Ap s.players.length cp, .slice Ac s.cards.length cc, .slice Az s.zones.length cz, .int .i32 s.turn, .int .i64 s.whose, .int .i8 s.fin, .int .i64 s.winner] 32)).alloc (.cells #[.slice none 0 0, .slice none 0 0, .slice none 0 0, .int .i32 0, .int .i64 0, .int .i8 0, .int .i64 0] 32)) (w.heap.size + 1) 32 #[.slice none 0 0, .slice none 0 0, .slice none 0 0, .int .i32 0, .int .i64 0, .int .i8 0, .int .i64 0]) := Lib.hid (by
    have h := Whole.made (w.alloc (.cells #[.slice Ap s.players.length cp, .slice Ac s.cards.length cc, .slice Az s.zones.length cz, .int .i32 s.turn, .int .i64 s.whose, .int .i8 s.fin, .int .i64 s.winner] 32)) 32 #[.slice none 0 0, .slice none 0 0, .slice none 0 0, .int .i32 0, .int .i64 0, .int .i8 0, .int .i64 0]
    rw [show (w.alloc (.cells #[.slice Ap s.players.length cp, .slice Ac s.cards.length cc, .slice Az s.zones.length cz, .int .i32 s.turn, .int .i64 s.whose, .int .i8 s.fin, .int .i64 s.winner] 32)).heap.size = w.heap.size + 1 by simp] at h
    exact h)
  have X0 := Lib.hid (hx.keeps hK (fun _ _ => id) (Nat.le_refl _))
  have Z0 : Hid (((w.alloc (.cells #[.slice Ap s.players.length cp, .slice Ac s.cards.length cc, .slice Az s.zones.length cz, .int .i32 s.turn, .int .i64 s.whose, .int .i8 s.fin, .int .i64 s.winner] 32)).alloc (.cells #[.slice none 0 0, .slice none 0 0, .slice none 0 0, .int .i32 0, .int .i64 0, .int .i8 0, .int .i64 0] 32)).heap.size = w.heap.size + 2) := Lib.hid (by simp)
  have hpl := hs.players
  have hcl := hs.cards
  have hzl := hs.zones
  have HR := Lib.hid hs.rows
  clear hK hx hs
  go_enter Tryd.func18, Tryd.ntmps18
  have HMK := fun w => make_rows (P := Tryd.prog) 29 74 (.slice none 0 0) 1 24 Tryd.underlying29 info_row s.zones.length (by omega) (by omega) w
  obtain ⟨a0, a1, a2, a3, a4, a5, a6, f0, f1, f2, f3, f4, f5, f6⟩ := seven B0.out
  go_wp2_with (first
    | (at_builtin
       refine wpList_append_cells _ rfl _ (.tmp 7) 28 rfl (w.heap.size + 2) 72 (.agg #[.int .i32 0, .int .i32 0, .bool false]) 3 12 Tryd.underlying28 info_pl rfl (by decide) (.slice none 0 0) 0 [] rfl (World.ownsRow_nil _ _ _ _) w.heap.size Ap s.players.length cp (flat Pl.cells s.players) rfl (FLies.lies (f := Pl.cells) (fun _ => rfl) (by decide) X0.out.players) (flat_length (k := 3) (fun _ => rfl) _) (cells_one_pl _) (by simp only [maxLen]; omega) (by omega) (by simp) ?_
       intro A1 c1 w1 own1 hg1 _ _ _
       rw [Nat.zero_add, List.nil_append] at own1
       have k1 : Keeps (fun _ => False) ((w.alloc (.cells #[.slice Ap s.players.length cp, .slice Ac s.cards.length cc, .slice Az s.zones.length cz, .int .i32 s.turn, .int .i64 s.whose, .int .i8 s.fin, .int .i64 s.winner] 32)).alloc (.cells #[.slice none 0 0, .slice none 0 0, .slice none 0 0, .int .i32 0, .int .i64 0, .int .i8 0, .int .i64 0] 32)) w1 := (Keeps.refl _ _).grown hg1 (fun k hk => by cases hk)
       have z1 : w.heap.size + 2 ≤ w1.heap.size := by have := k1.size; have := Z0.out; omega
       have ks : Keeps (fun b => b = w.heap.size) w1 (w1.setCell ⟨w.heap.size, 0, none⟩ (.slice A1 s.players.length c1)) := (Keeps.refl (fun b => b = w.heap.size) w1).setCell (p := ⟨w.heap.size, 0, none⟩) (fun _ => rfl) _
       have P1 := Lib.hid (own_keepsS own1 ks (fun b hb e => by have := (own1.lt b hb).1; omega))
       have B1 := Lib.hid ((B0.out.keeps k1 id).put 0 (.slice A1 s.players.length c1))
       have R1 := Lib.hid ((R0.out.keeps k1 id).keeps ks (by omega))
       have X1 := Lib.hid ((X0.out.keeps k1 (fun _ _ => id) (by have := Z0.out; omega)).keeps ks (fun b hb e => by omega) (by omega))
       have K1 : Hid (Keeps (fun _ => False) w (w1.setCell ⟨w.heap.size, 0, none⟩ (.slice A1 s.players.length c1))) := Lib.hid ((K0.out.trans k1).setCell (p := ⟨w.heap.size, 0, none⟩) (fun h => absurd h (by show ¬ w.heap.size < _; omega)) _)
       have Z1 : Hid (w.heap.size + 2 ≤ (w1.setCell ⟨w.heap.size, 0, none⟩ (.slice A1 s.players.length c1)).heap.size) := Lib.hid (Nat.le_trans z1 ks.size)
       clear a0 a1 a2 a3 a4 a5 a6 f0 f1 f2 f3 f4 f5 f6
       obtain ⟨a0, a1, a2, a3, a4, a5, a6, f0, f1, f2, f3, f4, f5, f6⟩ := seven (B0.out.keeps k1 id)
       clear own1 hg1 k1 ks B0 R0 X0 K0 Z0 z1)
    | (at_builtin
       generalize w1.setCell ⟨w.heap.size, 0, none⟩ (.slice A1 s.players.length c1) = v1 at *
       refine wpList_append_cells _ rfl _ (.tmp 11) 26 rfl (w.heap.size + 2) 68 (.agg #[.int .i64 0, .int .i64 0, .int .i32 0, .int .i32 0, .int .i32 0, .int .i32 0]) 6 32 Tryd.underlying26 info_cd rfl (by decide) (.slice none 0 0) 0 [] rfl (World.ownsRow_nil _ _ _ _) w.heap.size Ac s.cards.length cc (flat Cd.cells s.cards) rfl (FLies.lies (f := Cd.cells) (fun _ => rfl) (by decide) X1.out.cards) (flat_length (k := 6) (fun _ => rfl) _) (cells_one_cd _) (by simp only [maxLen]; omega) (by omega) Z1.out ?_
       intro A2 c2 w2 own2 hg2 _ _ _
       rw [Nat.zero_add, List.nil_append] at own2
       have k2 : Keeps (fun _ => False) v1 w2 := (Keeps.refl _ _).grown hg2 (fun k hk => by cases hk)
       have z2 : w.heap.size + 2 ≤ w2.heap.size := by have := k2.size; have := Z1.out; omega
       have ks : Keeps (fun b => b = w.heap.size) w2 (w2.setCell ⟨w.heap.size, 1, none⟩ (.slice A2 s.cards.length c2)) := (Keeps.refl (fun b => b = w.heap.size) w2).setCell (p := ⟨w.heap.size, 1, none⟩) (fun _ => rfl) _
       have P1' := P1.out
       have P2 := Lib.hid (own_keepsS (own_keepsS P1' k2 (fun _ _ => id)) ks (fun b hb e => by have := (P1'.lt b hb).1; omega))
       have C2 := Lib.hid (own_keepsS own2 ks (fun b hb e => by have := (own2.lt b hb).1; omega))
       have B2 := Lib.hid ((B1.out.keeps k2 id).put 1 (.slice A2 s.cards.length c2))
       have R2 := Lib.hid ((R1.out.keeps k2 id).keeps ks (by omega))
       have X2 := Lib.hid ((X1.out.zones.keeps k2 (fun _ _ => id) (by have := Z1.out; omega)).keeps ks (fun b hb e => by omega) (by omega))
       have K2 : Hid (Keeps (fun _ => False) w (w2.setCell ⟨w.heap.size, 1, none⟩ (.slice A2 s.cards.length c2))) := Lib.hid ((K1.out.trans k2).setCell (p := ⟨w.heap.size, 1, none⟩) (fun h => absurd h (by show ¬ w.heap.size < _; omega)) _)
       have Z2 : Hid (w.heap.size + 2 ≤ (w2.setCell ⟨w.heap.size, 1, none⟩ (.slice A2 s.cards.length c2)).heap.size) := Lib.hid (Nat.le_trans z2 ks.size)
       clear a0 a1 a2 a3 a4 a5 a6 f0 f1 f2 f3 f4 f5 f6
       obtain ⟨a0, a1, a2, a3, a4, a5, a6, f0, f1, f2, f3, f4, f5, f6⟩ := seven (B1.out.keeps k2 id)
       have q2 : w.heap.size < w2.heap.size := by omega
       clear own2 hg2 k2 ks B1 R1 X1 K1 Z1 z2 P1 P1'))
  clear a0 a1 a2 a3 a4 a5 a6 f0 f1 f2 f3 f4 f5 f6
  have hsz2 : (w2.setCell ⟨w.heap.size, 1, none⟩ (.slice A2 s.cards.length c2)).heap.size = w2.heap.size := by simp [World.setCell]
  have T0 : Hid (CpAt w ((w2.setCell ⟨w.heap.size, 1, none⟩ (.slice A2 s.cards.length c2)).alloc (.cells (madeCells #[.slice none 0 0] s.zones.length) 74)) s A1 A2 Az c1 c2 cz w2.heap.size 0 (List.replicate s.zones.length (.slice none 0 0))) := Lib.hid (by
    have km : Keeps (fun _ => False) (w2.setCell ⟨w.heap.size, 1, none⟩ (.slice A2 s.cards.length c2)) ((w2.setCell ⟨w.heap.size, 1, none⟩ (.slice A2 s.cards.length c2)).alloc (.cells (madeCells #[.slice none 0 0] s.zones.length) 74)) := (Keeps.refl _ _).alloc _
    have hw := Whole.made (w2.setCell ⟨w.heap.size, 1, none⟩ (.slice A2 s.cards.length c2)) 74 (madeCells #[.slice none 0 0] s.zones.length)
    rw [hsz2] at hw
    have hz := RowsOwn.made (B := w.heap.size + 2) hw (by have := Z2.out; omega) (by simp only [maxLen]; omega)
    rw [List.length_replicate] at hz
    exact ⟨K2.out.trans km, B2.out.keeps km id, R2.out.keeps km id, own_keepsS P2.out km (fun _ _ => id), own_keepsS C2.out km (fun _ _ => id), by simpa using hz, X2.out.keeps km (fun _ _ => id) (by have := Z2.out; omega)⟩)
  clear K2 B2 R2 P2 C2 X2 Z2 hsz2 q2
  generalize (w2.setCell ⟨w.heap.size, 1, none⟩ (.slice A2 s.cards.length c2)).alloc (.cells (madeCells #[.slice none 0 0] s.zones.length) 74) = w3 at *
  generalize w2.heap.size = gz at *
  go_loopw [21] (fun vi wr => ∃ (i : Nat) (cells : List Value), i ≤ s.zones.length ∧ vi = .int .i64 i ∧ Hid (CpAt w wr s A1 A2 Az c1 c2 cz gz i cells)) (fun vi _ => s.zones.length - (intOf vi).toNat)
  case atStart => exact ⟨0, _, by omega, rfl, T0⟩
  case round =>
    clear T0
    obtain ⟨i, cells, hi, rfl, TT⟩ := hrel
    obtain ⟨a0, a1, a2, a3, a4, a5, a6, f0, f1, f2, f3, f4, f5, f6⟩ := seven TT.out.box
    by_cases hlt : i < s.zones.length
    · obtain ⟨g, off, Ai, ci, hAz, hg, hcz, hli⟩ := TT.out.src i s.zones[i] (List.getElem?_eq_getElem hlt)
      subst hAz
      have hxi : Hid (s.zones[i]? = some s.zones[i]) := Lib.hid (List.getElem?_eq_getElem hlt)
      have hrl := HR.out s.zones[i] (List.getElem_mem hlt)
      have LI := Lib.hid hli
      have ZR : Hid (w.heap.size + 2 ≤ wr.heap.size ∧ w.heap.size + 2 ≤ gz) := Lib.hid (by have h := TT.out.zn.own.lt gz rfl; omega)
      have hown := TT.out.zn.own
      rw [CpAt.len s i hi] at hown
      obtain ⟨gz', csz, hgz', _, hwz, hszz, _⟩ := own_whole hown (by omega)
      obtain rfl : gz = gz' := by injection hgz' with h; injection h
      have HZ := fun (x : List Int) (hx : s.zones[i]? = some x) (w' : World) (Al : Option Addr) (cl : Nat) (hk : Keeps (fun _ => False) wr w') (ho : w'.ownsRow (w.heap.size + 2) 3 1 (.slice Al x.length cl) x.length (x.map (Value.int .i64))) => (TT.out.calm hk).zone hlt hx ho
      have HW := fun (w' : World) (hk : Keeps (fun _ => False) wr w') => hwz.keeps hk id
      generalize s.zones[i] = x at *
      have HX := HZ x hxi.out
      clear HZ hown hgz' hli hwz hg
      have hci : i < csz.size := by omega
      go_wp2_with (first
        | (at_builtin
           refine wpList_append_cells _ rfl _ _ 74 rfl wr.heap.size 3 (.int .i64 0) 1 8 Tryd.underlying74 info_int rfl (by decide) (.slice none 0 0) 0 [] rfl (World.ownsRow_nil _ _ _ _) w.heap.size Ai x.length ci (x.map (Value.int .i64)) rfl LI.out (by simp) (cells_one_int _) (by simp only [maxLen]; omega) (by omega) (Nat.le_refl _) ?_
           intro A3 c3 w4 own3 hg3 _ _ _
           rw [Nat.zero_add, List.nil_append] at own3
           have k3 : Keeps (fun _ => False) wr w4 := (Keeps.refl _ _).grown hg3 (fun k hk => by cases hk)
           have TN := Lib.hid (HX w4 A3 c3 k3 (own3.mono (by have := ZR.out; omega)))
           have cz1 : w4.cell? ⟨gz, i, none⟩ = some csz[i] := ((HW w4 k3).cellAt i).trans (Array.getElem?_eq_getElem hci)
           have cz2 := (HW w4 k3).free i
           clear own3 hg3 k3 HX HW))
      exact ⟨⟨i + 1, _, by omega, by first | rfl | go_num, TN⟩, by simp [intOf]; omega⟩
    · obtain rfl : i = s.zones.length := by omega
      have hgz := (TT.out.zn.own.lt gz rfl).1
      have R5 := Lib.hid (TT.out.res.putFar (p := ⟨w.heap.size, 2, none⟩) (Nat.succ_ne_self _) (.slice (some ⟨gz, 0, none⟩) s.zones.length s.zones.length))
      have B5 := Lib.hid (TT.out.box.put 2 (.slice (some ⟨gz, 0, none⟩) s.zones.length s.zones.length))
      go_wp2_with (first
        | (refine wpList_load_whole rfl 32 _ rfl w.heap.size rfl 32 #[.slice A1 s.players.length c1, .slice A2 s.cards.length c2, .slice (some ⟨gz, 0, none⟩) s.zones.length s.zones.length, .int .i32 s.turn, .int .i64 s.whose, .int .i8 s.fin, .int .i64 s.winner] _ B5.out Tryd.underlying32 rfl size_st ?_)
        | (refine wpList_store_whole rfl 32 _ _ rfl rfl (w.heap.size + 1) rfl #[.slice A1 s.players.length c1, .slice A2 s.cards.length c2, .slice (some ⟨gz, 0, none⟩) s.zones.length s.zones.length, .int .i32 s.turn, .int .i64 s.whose, .int .i8 s.fin, .int .i64 s.winner] rfl 32 #[.slice none 0 0, .slice none 0 0, .slice none 0 0, .int .i32 0, .int .i64 0, .int .i8 0, .int .i64 0] R5.out size_st rfl (by simp [Value.oneCell']) ?_))
      refine bodyPost_ret (results_cell (by rfl) _ (w.heap.size + 1) (by rfl) #[.slice A1 s.players.length c1, .slice A2 s.cards.length c2, .slice (some ⟨gz, 0, none⟩) s.zones.length s.zones.length, .int .i32 s.turn, .int .i64 s.whose, .int .i8 s.fin, .int .i64 s.winner] _ (heap_setRow_same R5.out _) _ Tryd.underlying32 rfl size_st) rfl ?_
      have ks : Keeps (fun b => b = w.heap.size ∨ b = w.heap.size + 1) wr ((wr.setCell ⟨w.heap.size, 2, none⟩ (.slice (some ⟨gz, 0, none⟩) s.zones.length s.zones.length)).setRow (w.heap.size + 1) #[.slice A1 s.players.length c1, .slice A2 s.cards.length c2, .slice (some ⟨gz, 0, none⟩) s.zones.length s.zones.length, .int .i32 s.turn, .int .i64 s.whose, .int .i8 s.fin, .int .i64 s.winner]) := ((Keeps.refl (fun b => b = w.heap.size ∨ b = w.heap.size + 1) wr).setCell (p := ⟨w.heap.size, 2, none⟩) (fun _ => .inl rfl) _).setRow (fun _ => .inr rfl) _
      have hzn := TT.out.zn
      rw [List.take_length, Nat.sub_self, List.replicate_zero, List.append_nil] at hzn
      exact ⟨A1, A2, some ⟨gz, 0, none⟩, c1, c2, s.zones.length, cells, rfl,
        ⟨(own_keepsS TT.out.pl ks (fun b hb e => by have := (TT.out.pl.lt b hb).1; omega)).mono (by omega), (own_keepsS TT.out.cd ks (fun b hb e => by have := (TT.out.cd.lt b hb).1; omega)).mono (by omega), (hzn.keeps ks (fun b hb e => by omega)).mono (by omega)⟩,
        TT.out.keeps.and ks (fun b hb e => by omega)⟩
end Go.Proofs.YtgbikcliembkcaaDoor
/-
  Slices that lie apart; a region cut off from what follows. Conditions: none.
-/
namespace Go.Proofs.YtgbikcliembkcaaDoor
open Go.RowKit
/-- No two of these slices lie in one block. -/
def Apt (cells : List Value) : Prop := ∀ (i j : Nat) (u v : Value) (b : Nat), cells[i]? = some u → cells[j]? = some v → u.ownBlock = some b → v.ownBlock = some b → i = j
theorem Apt.none (n : Nat) : Apt (List.replicate n (.slice none 0 0)) := fun i j u v b hu _ hb _ => by
  rw [List.getElem?_replicate] at hu
  split at hu
  · injection hu with hu; rw [← hu] at hb; cases hb
  · cases hu
theorem Apt.set {cells : List Value} {i : Nat} {x : Value} (h : Apt cells) (hnew : ∀ b, x.ownBlock = some b → ∀ (j : Nat) (u : Value), cells[j]? = some u → u.ownBlock ≠ some b) : Apt (cells.set i x) := fun j k u v b hu hv hb hb' => by
  rw [List.getElem?_set] at hu hv
  by_cases e1 : i = j
  · by_cases e2 : i = k
    · omega
    · rw [if_pos e1] at hu
      rw [if_neg e2] at hv
      split at hu
      · injection hu with hu; subst hu; exact absurd hb' (hnew b hb k v hv)
      · cases hu
  · rw [if_neg e1] at hu
    by_cases e2 : i = k
    · rw [if_pos e2] at hv
      split at hv
      · injection hv with hv; subst hv; exact absurd hb (hnew b hb' j u hu)
      · cases hv
    · rw [if_neg e2] at hv
      exact h j k u v b hu hv hb hb'
theorem RowsOwn.cell_lt {w : World} {B : Nat} {v : Value} {rows : List (List Int)} {cells : List Value} (h : RowsOwn w B v rows cells) {j b : Nat} {u : Value} (hu : cells[j]? = some u) (hb : u.ownBlock = some b) : b < w.heap.size := by
  have hl : cells.length = rows.length := own_length h.own
  have hj := (List.getElem?_eq_some_iff.1 hu).1
  obtain ⟨Ai, ci, h1, h2⟩ := h.row j rows[j] (List.getElem?_eq_getElem (by omega))
  rw [hu] at h1
  injection h1 with h1
  subst h1
  exact (h2.lt b hb).2
theorem regionCut {P : Program} {c : Code} {Q : Exit → Act → World → Prop} {a : Act} {w : World} (R : Act → Act → World → Prop) (h1 : Code.wp P c (fun e a' w' => e = .normal ∧ R a a' w') a w) (h2 : ∀ a' w', R a a' w' → Q .normal a' w') : Code.wp P c Q a w :=
  Code.wp_mono (fun e a' w' h => by obtain ⟨rfl, h⟩ := h; exact h2 a' w' h) h1
theorem stepIf {c : Bool} {A B : Prop} (hc : c = true) (h : A) : if c = true then A else B := by rw [if_pos hc]; exact h
theorem sizeSt : (Tryd.prog.info? 32).map (·.size) = some 7 := by kernel_rfl
end Go.Proofs.YtgbikcliembkcaaDoor
/-
  state.Copy: the walk, and that the new rows lie apart. Conditions: lengths within 10 ^ 9.
-/
namespace Go.Proofs.YtgbikcliembkcaaDoor
open Go.RowKit
/-- A copy that is being made: the box, the place of the answer, what is done. -/
structure CpAu (w wr : World) (s : St) (Aq Ad Az : Option Addr) (cq cd cz gz i : Nat) (cells : List Value) : Prop where
  keeps : Keeps (fun _ => False) w wr
  box : Whole wr w.heap.size 32 #[.slice Aq s.players.length cq, .slice Ad s.cards.length cd, .slice Az s.zones.length cz, .int .i32 s.turn, .int .i64 s.whose, .int .i8 s.fin, .int .i64 s.winner]
  res : Whole wr (w.heap.size + 1) 32 #[.slice none 0 0, .slice none 0 0, .slice none 0 0, .int .i32 0, .int .i64 0, .int .i8 0, .int .i64 0]
  pl : wr.ownsRow (w.heap.size + 2) 72 3 (.slice Aq s.players.length cq) s.players.length (flat Pl.cells s.players)
  cd : wr.ownsRow (w.heap.size + 2) 68 6 (.slice Ad s.cards.length cd) s.cards.length (flat Cd.cells s.cards)
  zn : RowsOwn wr (w.heap.size + 2) (.slice (some ⟨gz, 0, none⟩) s.zones.length s.zones.length) (s.zones.take i ++ List.replicate (s.zones.length - i) []) cells
  src : RowsLie wr w.heap.size Az s.zones
  ap : Apt cells
section
variable {w wr w' : World} {s : St} {Aq Ad Az : Option Addr} {cq cd cz gz i : Nat} {cells : List Value}
theorem CpAu.calm (h : CpAu w wr s Aq Ad Az cq cd cz gz i cells) (hk : Keeps (fun _ => False) wr w') : CpAu w w' s Aq Ad Az cq cd cz gz i cells :=
  ⟨h.keeps.trans hk, h.box.keeps hk id, h.res.keeps hk id, own_keepsS h.pl hk (fun _ _ => id), own_keepsS h.cd hk (fun _ _ => id), h.zn.keeps hk (fun _ _ => id), h.src.keeps hk (fun _ _ => id) h.keeps.size, h.ap⟩
theorem CpAu.len (s : St) (i : Nat) (hi : i ≤ s.zones.length) : (s.zones.take i ++ List.replicate (s.zones.length - i) ([] : List Int)).length = s.zones.length := by
  rw [List.length_append, List.length_take, List.length_replicate]; omega
theorem CpAu.zone (h : CpAu w wr s Aq Ad Az cq cd cz gz i cells) (hi : i < s.zones.length) {Al : Option Addr} {cl : Nat} {r : List Int} (hr : s.zones[i]? = some r) (ho : wr.ownsRow (w.heap.size + 2) 3 1 (.slice Al r.length cl) r.length (r.map (Value.int .i64))) (hnew : ∀ b, (Value.slice Al r.length cl).ownBlock = some b → ∀ (j : Nat) (u : Value), cells[j]? = some u → u.ownBlock ≠ some b) :
    CpAu w (wr.setCell ⟨gz, i, none⟩ (.slice Al r.length cl)) s Aq Ad Az cq cd cz gz (i + 1) (cells.set i (.slice Al r.length cl)) := by
  have hg := (h.zn.own.lt gz rfl).1
  have hl := CpAu.len s i (Nat.le_of_lt hi)
  have hK : Keeps (fun b => b = gz) wr (wr.setCell ⟨gz, i, none⟩ (.slice Al r.length cl)) := (Keeps.refl (fun b => b = gz) wr).setCell (p := ⟨gz, i, none⟩) (fun _ => rfl) _
  have hrow : (s.zones.take i ++ List.replicate (s.zones.length - i) ([] : List Int)).set i r = s.zones.take (i + 1) ++ List.replicate (s.zones.length - (i + 1)) [] := by
    have hlt : (s.zones.take i).length = i := by rw [List.length_take]; omega
    rw [List.set_append_right _ _ (by omega), hlt, Nat.sub_self, show s.zones.length - i = (s.zones.length - (i + 1)) + 1 by omega, List.replicate_succ, List.set_cons_zero]
    rw [List.take_add_one, hr]
    simp
  have hz := h.zn.put (z := i) hl.symm (by omega) ho
  rw [hrow] at hz
  exact ⟨h.keeps.setCell (p := ⟨gz, i, none⟩) (fun hb => absurd hb (by show ¬ gz < _; omega)) _, h.box.keeps hK (by omega), h.res.keeps hK (by omega),
    own_keepsS h.pl hK (fun b hb e => by subst e; exact own_kind h.zn.own h.pl (by decide) rfl hb), own_keepsS h.cd hK (fun b hb e => by subst e; exact own_kind h.zn.own h.cd (by decide) rfl hb), hz, h.src.keeps hK (fun b hb e => by omega) h.keeps.size, h.ap.set hnew⟩
end
set_option maxRecDepth 100000 in
set_option maxHeartbeats 4000000 in
theorem stCopy_at (s : St) (Ap Ac Az : Option Addr) (cp cc cz : Nat) (w : World) (hx : StIn w w.heap.size s Ap Ac Az) (hs : StSmall s) :
    Calls Tryd.prog 18 #[stV s Ap Ac Az cp cc cz] w fun e w' => ∃ Aq Ad Ay cq cd cy cells, e = .returned (stV s Aq Ad Ay cq cd cy) ∧ CopyIn w' w.heap.size s Aq Ad Ay cq cd cy cells ∧ Apt cells ∧ Keeps (fun _ => False) w w' := by
  unfold stV
  have hK : Keeps (fun _ => False) w ((w.alloc (.cells #[.slice Ap s.players.length cp, .slice Ac s.cards.length cc, .slice Az s.zones.length cz, .int .i32 s.turn, .int .i64 s.whose, .int .i8 s.fin, .int .i64 s.winner] 32)).alloc (.cells #[.slice none 0 0, .slice none 0 0, .slice none 0 0, .int .i32 0, .int .i64 0, .int .i8 0, .int .i64 0] 32)) := ((Keeps.refl _ w).alloc _).alloc _
  have K0 := Lib.hid hK
  have B0 : Hid (Whole ((w.alloc (.cells #[.slice Ap s.players.length cp, .slice Ac s.cards.length cc, .slice Az s.zones.length cz, .int .i32 s.turn, .int .i64 s.whose, .int .i8 s.fin, .int .i64 s.winner] 32)).alloc (.cells #[.slice none 0 0, .slice none 0 0, .slice none 0 0, .int .i32 0, .int .i64 0, .int .i8 0, .int .i64 0] 32)) w.heap.size 32 #[.slice Ap s.players.length cp, .slice Ac s.cards.length cc, .slice Az s.zones.length cz, .int .i32 s.turn, .int .i64 s.whose, .int .i8 s.fin, .int .i64 s.winner]) := Lib.hid ((Whole.made w _ _).alloc _)
  have R0 : Hid (Whole ((w.alloc (.cells #[.slice Ap s.players.length cp, .slice Ac s.cards.length cc, .slice Az s.zones.length cz, .int .i32 s.turn, .int .i64 s.whose, .int .i8 s.fin, .int .i64 s.winner] 32)).alloc (.cells #[.slice none 0 0, .slice none 0 0, .slice none 0 0, .int .i32 0, .int .i64 0, .int .i8 0, .int .i64 0] 32)) (w.heap.size + 1) 32 #[.slice none 0 0, .slice none 0 0, .slice none 0 0, .int .i32 0, .int .i64 0, .int .i8 0, .int .i64 0]) := Lib.hid (by
    have h := Whole.made (w.alloc (.cells #[.slice Ap s.players.length cp, .slice Ac s.cards.length cc, .slice Az s.zones.length cz, .int .i32 s.turn, .int .i64 s.whose, .int .i8 s.fin, .int .i64 s.winner] 32)) 32 #[.slice none 0 0, .slice none 0 0, .slice none 0 0, .int .i32 0, .int .i64 0, .int .i8 0, .int .i64 0]
    rw [show (w.alloc (.cells #[.slice Ap s.players.length cp, .slice Ac s.cards.length cc, .slice Az s.zones.length cz, .int .i32 s.turn, .int .i64 s.whose, .int .i8 s.fin, .int .i64 s.winner] 32)).heap.size = w.heap.size + 1 by simp] at h
    exact h)
  have X0 := Lib.hid (hx.keeps hK (fun _ _ => id) (Nat.le_refl _))
  have Z0 : Hid (((w.alloc (.cells #[.slice Ap s.players.length cp, .slice Ac s.cards.length cc, .slice Az s.zones.length cz, .int .i32 s.turn, .int .i64 s.whose, .int .i8 s.fin, .int .i64 s.winner] 32)).alloc (.cells #[.slice none 0 0, .slice none 0 0, .slice none 0 0, .int .i32 0, .int .i64 0, .int .i8 0, .int .i64 0] 32)).heap.size = w.heap.size + 2) := Lib.hid (by simp)
  have hpl := hs.players
  have hcl := hs.cards
  have hzl := hs.zones
  have HR := Lib.hid hs.rows
  clear hK hx hs
  go_enter Tryd.func18, Tryd.ntmps18
  have HMK := fun w => make_rows (P := Tryd.prog) 29 74 (.slice none 0 0) 1 24 Tryd.underlying29 info_row s.zones.length (by omega) (by omega) w
  obtain ⟨a0, a1, a2, a3, a4, a5, a6, f0, f1, f2, f3, f4, f5, f6⟩ := seven B0.out
  go_wp2_with (first
    | (at_builtin
       refine wpList_append_cells _ rfl _ (.tmp 7) 28 rfl (w.heap.size + 2) 72 (.agg #[.int .i32 0, .int .i32 0, .bool false]) 3 12 Tryd.underlying28 info_pl rfl (by decide) (.slice none 0 0) 0 [] rfl (World.ownsRow_nil _ _ _ _) w.heap.size Ap s.players.length cp (flat Pl.cells s.players) rfl (FLies.lies (f := Pl.cells) (fun _ => rfl) (by decide) X0.out.players) (flat_length (k := 3) (fun _ => rfl) _) (cells_one_pl _) (by simp only [maxLen]; omega) (by omega) (by simp) ?_
       intro A1 c1 w1 own1 hg1 _ _ _
       rw [Nat.zero_add, List.nil_append] at own1
       have k1 : Keeps (fun _ => False) ((w.alloc (.cells #[.slice Ap s.players.length cp, .slice Ac s.cards.length cc, .slice Az s.zones.length cz, .int .i32 s.turn, .int .i64 s.whose, .int .i8 s.fin, .int .i64 s.winner] 32)).alloc (.cells #[.slice none 0 0, .slice none 0 0, .slice none 0 0, .int .i32 0, .int .i64 0, .int .i8 0, .int .i64 0] 32)) w1 := (Keeps.refl _ _).grown hg1 (fun k hk => by cases hk)
       have z1 : w.heap.size + 2 ≤ w1.heap.size := by have := k1.size; have := Z0.out; omega
       have ks : Keeps (fun b => b = w.heap.size) w1 (w1.setCell ⟨w.heap.size, 0, none⟩ (.slice A1 s.players.length c1)) := (Keeps.refl (fun b => b = w.heap.size) w1).setCell (p := ⟨w.heap.size, 0, none⟩) (fun _ => rfl) _
       have P1 := Lib.hid (own_keepsS own1 ks (fun b hb e => by have := (own1.lt b hb).1; omega))
       have B1 := Lib.hid ((B0.out.keeps k1 id).put 0 (.slice A1 s.players.length c1))
       have R1 := Lib.hid ((R0.out.keeps k1 id).keeps ks (by omega))
       have X1 := Lib.hid ((X0.out.keeps k1 (fun _ _ => id) (by have := Z0.out; omega)).keeps ks (fun b hb e => by omega) (by omega))
       have K1 : Hid (Keeps (fun _ => False) w (w1.setCell ⟨w.heap.size, 0, none⟩ (.slice A1 s.players.length c1))) := Lib.hid ((K0.out.trans k1).setCell (p := ⟨w.heap.size, 0, none⟩) (fun h => absurd h (by show ¬ w.heap.size < _; omega)) _)
       have Z1 : Hid (w.heap.size + 2 ≤ (w1.setCell ⟨w.heap.size, 0, none⟩ (.slice A1 s.players.length c1)).heap.size) := Lib.hid (Nat.le_trans z1 ks.size)
       clear a0 a1 a2 a3 a4 a5 a6 f0 f1 f2 f3 f4 f5 f6
       obtain ⟨a0, a1, a2, a3, a4, a5, a6, f0, f1, f2, f3, f4, f5, f6⟩ := seven (B0.out.keeps k1 id)
       clear own1 hg1 k1 ks B0 R0 X0 K0 Z0 z1)
    | (at_builtin
       generalize w1.setCell ⟨w.heap.size, 0, none⟩ (.slice A1 s.players.length c1) = v1 at *
       refine wpList_append_cells _ rfl _ (.tmp 11) 26 rfl (w.heap.size + 2) 68 (.agg #[.int .i64 0, .int .i64 0, .int .i32 0, .int .i32 0, .int .i32 0, .int .i32 0]) 6 32 Tryd.underlying26 info_cd rfl (by decide) (.slice none 0 0) 0 [] rfl (World.ownsRow_nil _ _ _ _) w.heap.size Ac s.cards.length cc (flat Cd.cells s.cards) rfl (FLies.lies (f := Cd.cells) (fun _ => rfl) (by decide) X1.out.cards) (flat_length (k := 6) (fun _ => rfl) _) (cells_one_cd _) (by simp only [maxLen]; omega) (by omega) Z1.out ?_
       intro A2 c2 w2 own2 hg2 _ _ _
       rw [Nat.zero_add, List.nil_append] at own2
       have k2 : Keeps (fun _ => False) v1 w2 := (Keeps.refl _ _).grown hg2 (fun k hk => by cases hk)
       have z2 : w.heap.size + 2 ≤ w2.heap.size := by have := k2.size; have := Z1.out; omega
       have ks : Keeps (fun b => b = w.heap.size) w2 (w2.setCell ⟨w.heap.size, 1, none⟩ (.slice A2 s.cards.length c2)) := (Keeps.refl (fun b => b = w.heap.size) w2).setCell (p := ⟨w.heap.size, 1, none⟩) (fun _ => rfl) _
       have P1' := P1.out
       have P2 := Lib.hid (own_keepsS (own_keepsS P1' k2 (fun _ _ => id)) ks (fun b hb e => by have := (P1'.lt b hb).1; omega))
       have C2 := Lib.hid (own_keepsS own2 ks (fun b hb e => by have := (own2.lt b hb).1; omega))
       have B2 := Lib.hid ((B1.out.keeps k2 id).put 1 (.slice A2 s.cards.length c2))
       have R2 := Lib.hid ((R1.out.keeps k2 id).keeps ks (by omega))
       have X2 := Lib.hid ((X1.out.zones.keeps k2 (fun _ _ => id) (by have := Z1.out; omega)).keeps ks (fun b hb e => by omega) (by omega))
       have K2 : Hid (Keeps (fun _ => False) w (w2.setCell ⟨w.heap.size, 1, none⟩ (.slice A2 s.cards.length c2))) := Lib.hid ((K1.out.trans k2).setCell (p := ⟨w.heap.size, 1, none⟩) (fun h => absurd h (by show ¬ w.heap.size < _; omega)) _)
       have Z2 : Hid (w.heap.size + 2 ≤ (w2.setCell ⟨w.heap.size, 1, none⟩ (.slice A2 s.cards.length c2)).heap.size) := Lib.hid (Nat.le_trans z2 ks.size)
       clear a0 a1 a2 a3 a4 a5 a6 f0 f1 f2 f3 f4 f5 f6
       obtain ⟨a0, a1, a2, a3, a4, a5, a6, f0, f1, f2, f3, f4, f5, f6⟩ := seven (B1.out.keeps k2 id)
       have q2 : w.heap.size < w2.heap.size := by omega
       clear own2 hg2 k2 ks B1 R1 X1 K1 Z1 z2 P1 P1'))
  clear a0 a1 a2 a3 a4 a5 a6 f0 f1 f2 f3 f4 f5 f6
  have hsz2 : (w2.setCell ⟨w.heap.size, 1, none⟩ (.slice A2 s.cards.length c2)).heap.size = w2.heap.size := by simp [World.setCell]
  have T0 : Hid (CpAu w ((w2.setCell ⟨w.heap.size, 1, none⟩ (.slice A2 s.cards.length c2)).alloc (.cells (madeCells #[.slice none 0 0] s.zones.length) 74)) s A1 A2 Az c1 c2 cz w2.heap.size 0 (List.replicate s.zones.length (.slice none 0 0))) := Lib.hid (by
    have km : Keeps (fun _ => False) (w2.setCell ⟨w.heap.size, 1, none⟩ (.slice A2 s.cards.length c2)) ((w2.setCell ⟨w.heap.size, 1, none⟩ (.slice A2 s.cards.length c2)).alloc (.cells (madeCells #[.slice none 0 0] s.zones.length) 74)) := (Keeps.refl _ _).alloc _
    have hw := Whole.made (w2.setCell ⟨w.heap.size, 1, none⟩ (.slice A2 s.cards.length c2)) 74 (madeCells #[.slice none 0 0] s.zones.length)
    rw [hsz2] at hw
    have hz := RowsOwn.made (B := w.heap.size + 2) hw (by have := Z2.out; omega) (by simp only [maxLen]; omega)
    rw [List.length_replicate] at hz
    exact ⟨K2.out.trans km, B2.out.keeps km id, R2.out.keeps km id, own_keepsS P2.out km (fun _ _ => id), own_keepsS C2.out km (fun _ _ => id), by simpa using hz, X2.out.keeps km (fun _ _ => id) (by have := Z2.out; omega), Apt.none _⟩)
  clear K2 B2 R2 P2 C2 X2 Z2 hsz2 q2
  generalize (w2.setCell ⟨w.heap.size, 1, none⟩ (.slice A2 s.cards.length c2)).alloc (.cells (madeCells #[.slice none 0 0] s.zones.length) 74) = w3 at *
  generalize w2.heap.size = gz at *
  go_loopw [21] (fun vi wr => ∃ (i : Nat) (cells : List Value), i ≤ s.zones.length ∧ vi = .int .i64 i ∧ Hid (CpAu w wr s A1 A2 Az c1 c2 cz gz i cells)) (fun vi _ => s.zones.length - (intOf vi).toNat)
  case atStart => exact ⟨0, _, by omega, rfl, T0⟩
  case round =>
    clear T0
    obtain ⟨i, cells, hi, rfl, TT⟩ := hrel
    obtain ⟨a0, a1, a2, a3, a4, a5, a6, f0, f1, f2, f3, f4, f5, f6⟩ := seven TT.out.box
    by_cases hlt : i < s.zones.length
    · obtain ⟨g, off, Ai, ci, hAz, hg, hcz, hli⟩ := TT.out.src i s.zones[i] (List.getElem?_eq_getElem hlt)
      subst hAz
      have hxi : Hid (s.zones[i]? = some s.zones[i]) := Lib.hid (List.getElem?_eq_getElem hlt)
      have hrl := HR.out s.zones[i] (List.getElem_mem hlt)
      have LI := Lib.hid hli
      have ZR : Hid (w.heap.size + 2 ≤ wr.heap.size ∧ w.heap.size + 2 ≤ gz) := Lib.hid (by have h := TT.out.zn.own.lt gz rfl; omega)
      have hown := TT.out.zn.own
      rw [CpAu.len s i hi] at hown
      obtain ⟨gz', csz, hgz', _, hwz, hszz, _⟩ := own_whole hown (by omega)
      obtain rfl : gz = gz' := by injection hgz' with h; injection h
      have HZ := fun (x : List Int) (hx : s.zones[i]? = some x) (w' : World) (Al : Option Addr) (cl : Nat) (hk : Keeps (fun _ => False) wr w') (ho : w'.ownsRow (w.heap.size + 2) 3 1 (.slice Al x.length cl) x.length (x.map (Value.int .i64))) (hnew : ∀ b, (Value.slice Al x.length cl).ownBlock = some b → ∀ (j : Nat) (u : Value), cells[j]? = some u → u.ownBlock ≠ some b) => (TT.out.calm hk).zone hlt hx ho hnew
      have HOLD : Hid (∀ (j : Nat) (u : Value) (b : Nat), cells[j]? = some u → u.ownBlock = some b → b < wr.heap.size) := Lib.hid (fun j u b hu hb => TT.out.zn.cell_lt hu hb)
      have HW := fun (w' : World) (hk : Keeps (fun _ => False) wr w') => hwz.keeps hk id
      generalize s.zones[i] = x at *
      have HX := HZ x hxi.out
      clear HZ hown hgz' hli hwz hg
      have hci : i < csz.size := by omega
      go_wp2_with (first
        | (at_builtin
           refine wpList_append_cells _ rfl _ _ 74 rfl wr.heap.size 3 (.int .i64 0) 1 8 Tryd.underlying74 info_int rfl (by decide) (.slice none 0 0) 0 [] rfl (World.ownsRow_nil _ _ _ _) w.heap.size Ai x.length ci (x.map (Value.int .i64)) rfl LI.out (by simp) (cells_one_int _) (by simp only [maxLen]; omega) (by omega) (Nat.le_refl _) ?_
           intro A3 c3 w4 own3 hg3 _ _ _
           rw [Nat.zero_add, List.nil_append] at own3
           have k3 : Keeps (fun _ => False) wr w4 := (Keeps.refl _ _).grown hg3 (fun k hk => by cases hk)
           have TN := Lib.hid (HX w4 A3 c3 k3 (own3.mono (by have := ZR.out; omega)) (fun b hb j u hu he => by have h1 := (own3.lt b hb).1; have h2 := HOLD.out j u b hu he; omega))
           have cz1 : w4.cell? ⟨gz, i, none⟩ = some csz[i] := ((HW w4 k3).cellAt i).trans (Array.getElem?_eq_getElem hci)
           have cz2 := (HW w4 k3).free i
           clear own3 hg3 k3 HX HW))
      exact ⟨⟨i + 1, _, by omega, by first | rfl | go_num, TN⟩, by simp [intOf]; omega⟩
    · obtain rfl : i = s.zones.length := by omega
      have hgz := (TT.out.zn.own.lt gz rfl).1
      have R5 := Lib.hid (TT.out.res.putFar (p := ⟨w.heap.size, 2, none⟩) (Nat.succ_ne_self _) (.slice (some ⟨gz, 0, none⟩) s.zones.length s.zones.length))
      have B5 := Lib.hid (TT.out.box.put 2 (.slice (some ⟨gz, 0, none⟩) s.zones.length s.zones.length))
      go_wp2_with (first
        | (refine wpList_load_whole rfl 32 _ rfl w.heap.size rfl 32 #[.slice A1 s.players.length c1, .slice A2 s.cards.length c2, .slice (some ⟨gz, 0, none⟩) s.zones.length s.zones.length, .int .i32 s.turn, .int .i64 s.whose, .int .i8 s.fin, .int .i64 s.winner] _ B5.out Tryd.underlying32 rfl size_st ?_)
        | (refine wpList_store_whole rfl 32 _ _ rfl rfl (w.heap.size + 1) rfl #[.slice A1 s.players.length c1, .slice A2 s.cards.length c2, .slice (some ⟨gz, 0, none⟩) s.zones.length s.zones.length, .int .i32 s.turn, .int .i64 s.whose, .int .i8 s.fin, .int .i64 s.winner] rfl 32 #[.slice none 0 0, .slice none 0 0, .slice none 0 0, .int .i32 0, .int .i64 0, .int .i8 0, .int .i64 0] R5.out size_st rfl (by simp [Value.oneCell']) ?_))
      refine bodyPost_ret (results_cell (by rfl) _ (w.heap.size + 1) (by rfl) #[.slice A1 s.players.length c1, .slice A2 s.cards.length c2, .slice (some ⟨gz, 0, none⟩) s.zones.length s.zones.length, .int .i32 s.turn, .int .i64 s.whose, .int .i8 s.fin, .int .i64 s.winner] _ (heap_setRow_same R5.out _) _ Tryd.underlying32 rfl size_st) rfl ?_
      have ks : Keeps (fun b => b = w.heap.size ∨ b = w.heap.size + 1) wr ((wr.setCell ⟨w.heap.size, 2, none⟩ (.slice (some ⟨gz, 0, none⟩) s.zones.length s.zones.length)).setRow (w.heap.size + 1) #[.slice A1 s.players.length c1, .slice A2 s.cards.length c2, .slice (some ⟨gz, 0, none⟩) s.zones.length s.zones.length, .int .i32 s.turn, .int .i64 s.whose, .int .i8 s.fin, .int .i64 s.winner]) := ((Keeps.refl (fun b => b = w.heap.size ∨ b = w.heap.size + 1) wr).setCell (p := ⟨w.heap.size, 2, none⟩) (fun _ => .inl rfl) _).setRow (fun _ => .inr rfl) _
      have hzn := TT.out.zn
      rw [List.take_length, Nat.sub_self, List.replicate_zero, List.append_nil] at hzn
      exact ⟨A1, A2, some ⟨gz, 0, none⟩, c1, c2, s.zones.length, cells, rfl,
        ⟨(own_keepsS TT.out.pl ks (fun b hb e => by have := (TT.out.pl.lt b hb).1; omega)).mono (by omega), (own_keepsS TT.out.cd ks (fun b hb e => by have := (TT.out.cd.lt b hb).1; omega)).mono (by omega), (hzn.keeps ks (fun b hb e => by omega)).mono (by omega)⟩,
        TT.out.ap, TT.out.keeps.and ks (fun b hb e => by omega)⟩
end Go.Proofs.YtgbikcliembkcaaDoor
