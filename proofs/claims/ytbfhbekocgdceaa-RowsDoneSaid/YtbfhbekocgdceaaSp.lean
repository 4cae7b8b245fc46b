/-
  rows.Stack of pairs: NewStack, none, Do: the walks. Conditions: lengths within 10 ^ 9.
-/
import Derived.Test.YtbfhbekocgdceaaPrA
import Derived.Test.YtbfhbekocgdceaaSkB
import Derived.Deep.RegionLaw
import Derived.WalkMore
namespace Go.Proofs.Ytbfhbekocgdceaa
open Go.RowKit
theorem one_pairs2 (x : Int × ByteArray) : ∀ u ∈ [Value.int .i8 x.1, .string x.2], u.oneCell' = true := fun u hu => by simp at hu; rcases hu with rfl | rfl <;> rfl
/-- The head of a row of the call's own, of elements of any size. -/
theorem own_prefixN {w : World} {base n c k s : Nat} {e : TypeId} {A : Option Addr} {xs : List Value} (h : w.ownsRow base e s (.slice A n c) n xs) (hk : k ≤ n) : w.ownsRow base e s (.slice A k c) k (xs.take (k * s)) := by
  have hl := h.1
  have hks : k * s ≤ n * s := Nat.mul_le_mul_right _ hk
  refine ⟨by rw [List.length_take]; omega, ?_⟩
  rcases h.2 with ⟨h0, hn⟩ | ⟨g, cap, cur, hv, hb, hh, hc, hm, hs, ht⟩
  · obtain rfl : k = 0 := by omega
    rw [hn] at h0
    exact .inl ⟨h0, rfl⟩
  · injection hv with h1 h2 h3
    subst h1 h3
    refine .inr ⟨g, c, cur, rfl, hb, hh, by omega, hm, hs, ?_⟩
    rw [← ht, List.take_take]
    congr 1
    omega
/-- A stack in memory. -/
structure StackP (w : World) (p : Nat) (A : Option Addr) (c : Nat) (l : List (Int × ByteArray)) (done : Nat) (most : Int) : Prop where
  box : Whole w p 125 #[.slice A l.length c, .int .i64 (done : Int), .int .i64 most, .bool true]
  own : w.ownsRow (p + 1) 49 2 (.slice A l.length c) l.length (flat prC l)
  le : done ≤ l.length
theorem StackP.calm {w w' : World} {p c done : Nat} {A : Option Addr} {l : List (Int × ByteArray)} {most : Int} {S : Nat → Prop} (h : StackP w p A c l done most) (hk : Keeps S w w') (hp : ¬ S p) (hS : ∀ b, (Value.slice A l.length c).ownBlock = some b → ¬ S b) : StackP w' p A c l done most :=
  ⟨h.box.keeps hk hp, own_keepsS h.own hk hS, h.le⟩
theorem newStackP_any (most : Int) (w : World) (hm : 0 ≤ most) :
    Calls Try.prog 46 #[.int .i64 most] w fun e w' => e = .returned (.pointer (some ⟨w.heap.size, 0, none⟩)) ∧ StackP w' w.heap.size none 0 [] 0 most ∧ Keeps (fun _ => False) w w' := by
  have h0 : ¬ (most < 0) := by omega
  go_enter Try.func46, Try.ntmps46
  go_wp2_with fail
  go_ret
  exact ⟨rfl, ⟨Whole.made w _ _, World.ownsRow_nil _ _ _ _, Nat.le_refl _⟩, (Keeps.refl _ w).alloc _⟩
theorem newStackP_neg (most : Int) (w : World) (hm : most < 0) :
    Calls Try.prog 46 #[.int .i64 most] w fun e w' => e = .returned (.pointer none) ∧ w = w' := by
  go_enter Try.func46, Try.ntmps46
  go_wp2_with fail
  go_ret
  exact ⟨rfl, rfl⟩
theorem noneSP_any (p : Nat) (b : Bool) (w : World) (h3 : w.cell? ⟨p, 3, none⟩ = some (.bool b)) :
    Calls Try.prog 75 #[.pointer (some ⟨p, 0, none⟩)] w fun e w' => e = .returned (.bool (!b)) ∧ w' = w := by
  go_enter Try.func75, Try.ntmps75
  go_wp2_with fail
  go_ret
  exact ⟨rfl, rfl⟩
set_option maxRecDepth 100000 in
set_option maxHeartbeats 2000000 in
theorem doP_full (p c done : Nat) (x : Int × ByteArray) (A : Option Addr) (l : List (Int × ByteArray)) (w : World) (h : StackP w p A c l done done) :
    Calls Try.prog 47 #[.pointer (some ⟨p, 0, none⟩), .agg #[.int .i8 x.1, .string x.2]] w fun e w' => e = .returned (.bool false) ∧ Keeps (fun _ => False) w w' := by
  have HB0 := Lib.hid h.box
  clear h
  go_enter Try.func47, Try.ntmps47
  go_wp2_with fail
  obtain ⟨w1, hw1⟩ : ∃ z, z = w.alloc (.cells #[.int .i8 x.1, .string x.2] 49) := ⟨_, rfl⟩
  have KX : Hid (Keeps (fun _ => False) w w1) := Lib.hid (by rw [hw1]; exact (Keeps.refl _ _).alloc _)
  rw [← hw1]
  clear hw1
  obtain ⟨a0, a1, a2, a3, f0, f1, f2, f3⟩ := four (HB0.out.keeps KX.out id)
  have HN := fun w => noneSP_any p true w
  go_quiet (first | (go_at_call 75; refine Calls.quiet_of_same (HN _ a3)))
  clear HN
  go_wp2_with fail
  go_ret
  exact ⟨rfl, KX.out.drewN _⟩
set_option maxRecDepth 100000 in
set_option maxHeartbeats 4000000 in
theorem doP_any (p c done : Nat) (most : Int) (x : Int × ByteArray) (A : Option Addr) (l : List (Int × ByteArray)) (w : World) (h : StackP w p A c l done most) (hd : done < 1000000000) (hne : (done : Int) ≠ most) :
    Calls Try.prog 47 #[.pointer (some ⟨p, 0, none⟩), .agg #[.int .i8 x.1, .string x.2]] w fun e w' => e = .returned (.bool true) ∧ ∃ A' c', StackP w' p A' c' (l.take done ++ [x]) (done + 1) most ∧ Keeps (fun b => b = p ∨ (Value.slice A l.length c).ownBlock = some b) w w' ∧ (∀ b, (Value.slice A' (done + 1) c').ownBlock = some b → (Value.slice A l.length c).ownBlock = some b ∨ w.heap.size ≤ b) := by
  have hle := h.le
  have hp : p < w.heap.size := h.box.inside
  have HB0 := Lib.hid h.box
  have HE : Hid (flat prC (l.take done) ++ [.int .i8 x.1, .string x.2] = flat prC (l.take done ++ [x])) := Lib.hid (by rw [flat_snoc]; rfl)
  have HLN : Hid ((l.take done ++ [x]).length = done + 1) := Lib.hid (by rw [List.length_append, List.length_take]; simp; omega)
  have hfit : ∀ (w4 : World) (A2 : Option Addr) (c2 : Nat), Keeps (fun b => (Value.slice A l.length c).ownBlock = some b) w w4 → w4.ownsRow (p + 1) 49 2 (.slice A2 (done + 1) c2) (done + 1) (flat prC (l.take done) ++ [.int .i8 x.1, .string x.2]) →
      Whole w4 p 125 #[.slice A l.length c, .int .i64 (done : Int), .int .i64 most, .bool true] ∧ StackP ((w4.setCell ⟨p, 0, none⟩ (.slice A2 (done + 1) c2)).setCell ⟨p, 1, none⟩ (.int .i64 ((done : Int) + 1))) p A2 c2 (l.take done ++ [x]) (done + 1) most ∧
        Keeps (fun b => b = p ∨ (Value.slice A l.length c).ownBlock = some b) w ((w4.setCell ⟨p, 0, none⟩ (.slice A2 (done + 1) c2)).setCell ⟨p, 1, none⟩ (.int .i64 ((done : Int) + 1))) := fun w4 A2 c2 hk ho => by
    have hnp : ¬ (Value.slice A l.length c).ownBlock = some p := fun e => by have := (h.own.lt p e).1; omega
    have hb := h.box.keeps hk hnp
    refine ⟨hb, ⟨?_, ?_, by rw [HLN.out]; exact Nat.le_refl _⟩, ((hk.mono (T := fun b => b = p ∨ (Value.slice A l.length c).ownBlock = some b) (fun _ _ e => .inr e)).setCell (p := ⟨p, 0, none⟩) (fun _ => .inl rfl) _).setCell (p := ⟨p, 1, none⟩) (fun _ => .inl rfl) _⟩
    · rw [HLN.out]
      exact (hb.put 0 _).put 1 _
    · rw [HLN.out, ← HE.out]
      exact ownsRow_setCell_below (ownsRow_setCell_below ho (show p < p + 1 by omega) _) (show p < p + 1 by omega) _
  have HFIT := Lib.hid hfit
  have hown := own_prefixN h.own h.le
  rw [← flat_take prC_length] at hown
  have HOWN0 := Lib.hid hown
  have HN := fun w => noneSP_any p true w
  have hq : ((done : Int) == most) = false := by rw [beq_eq_false_iff_ne]; exact hne
  have hcap : l.length ≤ c := by
    obtain ⟨_, _, e, h, _⟩ := own_slice h.own
    injection e with _ _ e
    omega
  have hdc : done ≤ c := by omega
  have hA : (A = none ∧ done = 0) ∨ ∃ g, A = some ⟨g, 0, none⟩ := by
    rcases h.own.2 with ⟨hv, hn⟩ | ⟨g, cap, cur, hv, _⟩
    · injection hv with h1
      exact .inl ⟨h1, by omega⟩
    · injection hv with h1
      exact .inr ⟨g, h1⟩
  clear h hcap hfit hown
  rcases hA with ⟨rfl, rfl⟩ | ⟨g, rfl⟩
  · go_enter Try.func47, Try.ntmps47
    go_wp2_with fail
    obtain ⟨w1, hw1⟩ : ∃ z, z = w.alloc (.cells #[.int .i8 x.1, .string x.2] 49) := ⟨_, rfl⟩
    have KX : Hid (Keeps (fun _ => False) w w1) := Lib.hid (by rw [hw1]; exact (Keeps.refl _ _).alloc _)
    have WX : Hid (Whole w1 w.heap.size 49 #[.int .i8 x.1, .string x.2]) := Lib.hid (by rw [hw1]; exact Whole.made _ _ _)
    rw [← hw1]
    clear hw1
    obtain ⟨xb, hxb⟩ : ∃ z, z = w.heap.size := ⟨_, rfl⟩
    rw [← hxb] at WX ⊢
    have hpx : p < xb := by omega
    have HXB := Lib.hid hxb
    clear hxb
    have HB := Lib.hid (HB0.out.keeps KX.out id)
    have HOWN := Lib.hid (own_keepsS HOWN0.out KX.out (fun _ _ h => h))
    obtain ⟨a0, a1, a2, a3, f0, f1, f2, f3⟩ := four HB.out
    have al0 : ∀ n o, ((w1.drewN n).alloc o).cell? ⟨p, 0, none⟩ = some (.slice none l.length c) := fun n o => (((HB.out.drewN n).alloc o).cellAt 0)
    have al1 : ∀ n o, ((w1.drewN n).alloc o).cell? ⟨p, 1, none⟩ = some (.int .i64 ((0 : Nat) : Int)) := fun n o => (((HB.out.drewN n).alloc o).cellAt 1)
    have ax0 : ∀ n o, ((w1.drewN n).alloc o).cell? ⟨xb, 0, none⟩ = some (.int .i8 x.1) := fun n o => (((WX.out.drewN n).alloc o).cellAt 0)
    have ax1 : ∀ n o, ((w1.drewN n).alloc o).cell? ⟨xb, 1, none⟩ = some (.string x.2) := fun n o => (((WX.out.drewN n).alloc o).cellAt 1)
    have x0 : w1.cell? ⟨xb, 0, none⟩ = some (.int .i8 x.1) := WX.out.cellAt 0
    have x1 : w1.cell? ⟨xb, 1, none⟩ = some (.string x.2) := WX.out.cellAt 1
    have hp1 : p + 1 ≤ w1.heap.size := by have := KX.out.size; omega
    go_quiet (first | (go_at_call 75; refine Calls.quiet_of_same (HN _ a3)))
    clear HN
    go_wp2_with fail
    go_region_law (refine wp_append_cells _ _ _ 43 rfl (p + 1) 49 (.agg #[.int .i8 0, .string ⟨#[]⟩]) 2 24 Try.underlying43 info_cP rfl (by decide) (.slice none 0 c) 0 (flat prC (l.take 0)) rfl (HOWN.out.alloc _) (w1.heap.size + 1) (some ⟨w1.heap.size, 0, none⟩) 1 1 [.int .i8 x.1, .string x.2] rfl (Lies.row (t := 49) (fr := (0, 0)) (heap_alloc_new _ _) (Nat.lt_succ_self _)) rfl (one_pairs2 x) (by simp only [maxLen]; omega) (by omega) (by show p + 1 ≤ (World.alloc _ _).heap.size; simp; omega) ?_
                   intro A2 c2 w4 own2 hg2 hor _ _
                   have HOR : Hid (∀ b, (Value.slice A2 (0 + 1) c2).ownBlock = some b → (Value.slice none l.length c).ownBlock = some b ∨ w.heap.size ≤ b) := Lib.hid (fun b hb => by
                     rcases hor with h | h
                     · exact .inl (h ▸ hb)
                     · rw [h] at hb
                       injection hb with hb
                       exact .inr (by rw [← hb]; have := KX.out.size; show w.heap.size ≤ (World.alloc _ _).heap.size; simp; omega))
                   have k4 : Keeps (fun b => (Value.slice none l.length c).ownBlock = some b) w1 w4 := ((((Keeps.refl _ w1).drewN nq).drew).alloc _).grown hg2 (fun k hk _ => hk)
                   obtain ⟨hbx, hst, hkk⟩ := HFIT.out w4 A2 c2 ((KX.out.mono (fun _ _ h => h.elim)).trans k4) own2
                   obtain ⟨b0, b1, b2, b3, g0, g1, g2, g3⟩ := four hbx
                   have HST := Lib.hid hst
                   have HKK := Lib.hid hkk
                   clear hst hkk k4 own2 hg2 hbx hor)
    all_goals (
      go_wp2_with fail
      go_ret
      exact ⟨rfl, A2, c2, HST.out, HKK.out, HOR.out⟩)
  · go_enter Try.func47, Try.ntmps47
    go_wp2_with fail
    obtain ⟨w1, hw1⟩ : ∃ z, z = w.alloc (.cells #[.int .i8 x.1, .string x.2] 49) := ⟨_, rfl⟩
    have KX : Hid (Keeps (fun _ => False) w w1) := Lib.hid (by rw [hw1]; exact (Keeps.refl _ _).alloc _)
    have WX : Hid (Whole w1 w.heap.size 49 #[.int .i8 x.1, .string x.2]) := Lib.hid (by rw [hw1]; exact Whole.made _ _ _)
    rw [← hw1]
    clear hw1
    obtain ⟨xb, hxb⟩ : ∃ z, z = w.heap.size := ⟨_, rfl⟩
    rw [← hxb] at WX ⊢
    have hpx : p < xb := by omega
    have HXB := Lib.hid hxb
    clear hxb
    have HB := Lib.hid (HB0.out.keeps KX.out id)
    have HOWN := Lib.hid (own_keepsS HOWN0.out KX.out (fun _ _ h => h))
    obtain ⟨a0, a1, a2, a3, f0, f1, f2, f3⟩ := four HB.out
    have al0 : ∀ n o, ((w1.drewN n).alloc o).cell? ⟨p, 0, none⟩ = some (.slice (some ⟨g, 0, none⟩) l.length c) := fun n o => (((HB.out.drewN n).alloc o).cellAt 0)
    have al1 : ∀ n o, ((w1.drewN n).alloc o).cell? ⟨p, 1, none⟩ = some (.int .i64 (done : Int)) := fun n o => (((HB.out.drewN n).alloc o).cellAt 1)
    have ax0 : ∀ n o, ((w1.drewN n).alloc o).cell? ⟨xb, 0, none⟩ = some (.int .i8 x.1) := fun n o => (((WX.out.drewN n).alloc o).cellAt 0)
    have ax1 : ∀ n o, ((w1.drewN n).alloc o).cell? ⟨xb, 1, none⟩ = some (.string x.2) := fun n o => (((WX.out.drewN n).alloc o).cellAt 1)
    have x0 : w1.cell? ⟨xb, 0, none⟩ = some (.int .i8 x.1) := WX.out.cellAt 0
    have x1 : w1.cell? ⟨xb, 1, none⟩ = some (.string x.2) := WX.out.cellAt 1
    have hp1 : p + 1 ≤ w1.heap.size := by have := KX.out.size; omega
    go_quiet (first | (go_at_call 75; refine Calls.quiet_of_same (HN _ a3)))
    clear HN
    go_wp2_with fail
    go_region_law (refine wp_append_cells _ _ _ 43 rfl (p + 1) 49 (.agg #[.int .i8 0, .string ⟨#[]⟩]) 2 24 Try.underlying43 info_cP rfl (by decide) (.slice (some ⟨g, 0, none⟩) done c) done (flat prC (l.take done)) rfl (HOWN.out.alloc _) (w1.heap.size + 1) (some ⟨w1.heap.size, 0, none⟩) 1 1 [.int .i8 x.1, .string x.2] rfl (Lies.row (t := 49) (fr := (0, 0)) (heap_alloc_new _ _) (Nat.lt_succ_self _)) rfl (one_pairs2 x) (by simp only [maxLen]; omega) (by omega) (by show p + 1 ≤ (World.alloc _ _).heap.size; simp; omega) ?_
                   intro A2 c2 w4 own2 hg2 hor _ _
                   have HOR : Hid (∀ b, (Value.slice A2 (done + 1) c2).ownBlock = some b → (Value.slice (some ⟨g, 0, none⟩) l.length c).ownBlock = some b ∨ w.heap.size ≤ b) := Lib.hid (fun b hb => by
                     rcases hor with h | h
                     · exact .inl (h ▸ hb)
                     · rw [h] at hb
                       injection hb with hb
                       exact .inr (by rw [← hb]; have := KX.out.size; show w.heap.size ≤ (World.alloc _ _).heap.size; simp; omega))
                   have k4 : Keeps (fun b => (Value.slice (some ⟨g, 0, none⟩) l.length c).ownBlock = some b) w1 w4 := ((((Keeps.refl _ w1).drewN nq).drew).alloc _).grown hg2 (fun k hk _ => hk)
                   obtain ⟨hbx, hst, hkk⟩ := HFIT.out w4 A2 c2 ((KX.out.mono (fun _ _ h => h.elim)).trans k4) own2
                   obtain ⟨b0, b1, b2, b3, g0, g1, g2, g3⟩ := four hbx
                   have HST := Lib.hid hst
                   have HKK := Lib.hid hkk
                   clear hst hkk k4 own2 hg2 hbx hor)
    all_goals (
      go_wp2_with fail
      go_ret
      exact ⟨rfl, A2, c2, HST.out, HKK.out, HOR.out⟩)
end Go.Proofs.Ytbfhbekocgdceaa
