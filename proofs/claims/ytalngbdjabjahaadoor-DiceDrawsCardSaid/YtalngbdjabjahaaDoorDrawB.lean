/-
  DiceDraws: numbers brought in, draws one behind the other, the document's Order: the walks. Conditions: Go's own limits.
-/
import Derived.Test.YtalngbdjabjahaaDoorDrawA
import Derived.Test.YtalngbdjabjahaaDoorBagP
namespace Go.Proofs.YtalngbdjabjahaaDoor
open Go.RowKit
theorem within_any (n : Int) (hn : -9223372036854775808 ≤ n ∧ n ≤ 9223372036854775807) (k : Int) (hk : 0 ≤ k ∧ k ≤ 1000) (w : World) : Calls Tryd.prog 45 #[.int .i64 n, .int .i64 k] w fun e w' => e = .returned (.int .i64 (withV n k)) ∧ w = w' := by
  by_cases h0 : n < 0
  · have hv : Hid (withV n k = -((n + 1).tmod (k + 1))) := Lib.hid (by unfold withV; rw [if_pos h0, ← Int.neg_tmod, Int.tmod_eq_emod_of_nonneg (by omega)])
    go_enter Tryd.func45, Tryd.ntmps45
    go_wp2_with fail
    go_ret
    exact ⟨by rw [hv.out]; rfl, rfl⟩
  · have hv : Hid (withV n k = n % (k + 1)) := Lib.hid (by unfold withV; rw [if_neg h0])
    go_enter Tryd.func45, Tryd.ntmps45
    go_wp2_with fail
    go_ret
    exact ⟨by rw [hv.out]; rfl, rfl⟩
/-- What a function gives, again and again, looked at through another one. -/
def drw (f m : Nat → Nat) : Nat → Nat → List Int
  | 0, _ => []
  | n + 1, z => ((m (f z) : Nat) : Int) :: drw f m n (f z)
theorem drw_length (f m : Nat → Nat) : ∀ n z, (drw f m n z).length = n
  | 0, _ => rfl
  | n + 1, z => by rw [drw, List.length_cons, drw_length f m n]
theorem gen_succ (f : Nat → Nat) (h : Nat → Nat → Nat) (h0 : ∀ z, h 0 z = z) (h1 : ∀ n z, h (n + 1) z = h n (f z)) : ∀ n z, h (n + 1) z = f (h n z)
  | 0, z => by rw [h1, h0, h0]
  | n + 1, z => by rw [h1, gen_succ f h h0 h1 n (f z), ← h1]
theorem drw_snoc (f m : Nat → Nat) (h : Nat → Nat → Nat) (h0 : ∀ z, h 0 z = z) (h1 : ∀ n z, h (n + 1) z = h n (f z)) : ∀ n z, drw f m (n + 1) z = drw f m n z ++ [((m (f (h n z)) : Nat) : Int)]
  | 0, z => by rw [h0]; rfl
  | n + 1, z => by rw [drw, drw_snoc f m h h0 h1 n (f z), ← h1, drw]; rfl
/-- A function, again and again. -/
def iterN (f : Nat → Nat) : Nat → Nat → Nat
  | 0, z => z
  | n + 1, z => iterN f n (f z)
theorem iterN_zero (f : Nat → Nat) (z : Nat) : iterN f 0 z = z := rfl
theorem iterN_step (f : Nat → Nat) (n z : Nat) : iterN f (n + 1) z = iterN f n (f z) := rfl
/-- The place behind n draws. -/
def placeN (n z : Nat) : Nat := iterN adv n z
theorem placeN_zero (z : Nat) : placeN 0 z = z := iterN_zero adv z
theorem placeN_succ (n z : Nat) : placeN (n + 1) z = adv (placeN n z) := gen_succ adv (iterN adv) (iterN_zero adv) (iterN_step adv) n z
/-- The first n draws from the place z. -/
def drawsOf (z n : Nat) : List Int := drw adv mix n z
theorem drawsOf_length (n z : Nat) : (drawsOf z n).length = n := drw_length adv mix n z
theorem drawsOf_snoc (n z : Nat) : drawsOf z (n + 1) = drawsOf z n ++ [((mix (adv (placeN n z)) : Nat) : Int)] := drw_snoc adv mix (iterN adv) (iterN_zero adv) (iterN_step adv) n z
theorem info_u64 : (Tryd.prog.info? 61).map (fun i => (i.zero, i.size, i.bytes)) = some (some (.int .u64 0), 1, 8) := by kernel_rfl
theorem draws_map (n z : Nat) : (drawsOf z n).map (Value.int .u64) ++ [.int .u64 ((mix (adv (placeN n z)) : Nat) : Int)] = (drawsOf z (n + 1)).map (Value.int .u64) := by rw [drawsOf_snoc]; simp
set_option maxHeartbeats 1000000 in
theorem nexts_any (g z n : Nat) (hn : n ≤ 1000) (w : World) (hd : RDiceAt w g z) :
    Calls Tryd.prog 49 #[.pointer (some ⟨g, 0, none⟩), .int .i64 n] w fun e w' => (∃ A cap, e = .returned (.slice A n cap) ∧ Lies w' w'.heap.size A ((drawsOf z n).map (Value.int .u64))) ∧ RDiceAt w' g (placeN n z) ∧ Keeps (fun b => b = g) w w' := by
  have HD := Lib.hid hd; have hin := hd.inside
  clear hd
  go_enter Tryd.func49, Tryd.ntmps49
  go_wp2_with fail
  have HK0 : Hid (Keeps (fun b => b = g) w w) := Lib.hid (Keeps.refl _ _)
  go_loopw [5, 6] (fun vl vi wr => ∃ (k cap : Nat) (A : Option Addr), k ≤ n ∧ vi = .int .i64 k ∧ vl = .slice A k cap ∧ Hid (wr.ownsRow w.heap.size 61 1 (.slice A k cap) k ((drawsOf z k).map (Value.int .u64))) ∧ Hid (RDiceAt wr g (placeN k z)) ∧ Hid (Keeps (fun b => b = g) w wr)) (fun _ vi _ => n - (intOf vi).toNat)
  case atStart => exact ⟨0, 0, none, by omega, rfl, rfl, Lib.hid (World.ownsRow_nil _ _ _ _), Lib.hid (by rw [placeN_zero]; exact HD.out), HK0⟩
  case round =>
    clear HD HK0
    obtain ⟨k, cap, A, hk, rfl, rfl, HO, HD, HK⟩ := hrel
    have hsz := HK.out.size
    by_cases hlt : k < n
    · obtain ⟨wo, rfl⟩ : ∃ wo : World, wo = wr := ⟨_, rfl⟩
      go_wp2_with fail
      refine (rnext_rel g _ _ HD.out).mono ?_
      rintro e w1 ⟨rfl, hd1, hk1⟩
      have HO1 := Lib.hid (own_keepsS HO.out hk1 (fun b hb e => by have := (HO.out.lt b hb).1; omega))
      have HD1 : Hid (RDiceAt w1 g (placeN (k + 1) z)) := Lib.hid (by rw [placeN_succ]; exact hd1)
      have HK1 := Lib.hid (HK.out.trans hk1)
      have hsz1 := hk1.size
      clear hd1 hk1 HO HD HK
      go_wp2_with (at_builtin; go_must (refine wpList_append_lies _ rfl (.tmp 12) (.tmp 15) 88 rfl w.heap.size 61 (.int .u64 0) 8 Tryd.underlying88 info_u64 rfl _ k _ rfl (HO1.out.alloc _) (w1.heap.size + 1) (some ⟨w1.heap.size, 0, none⟩) 1 1 [.int .u64 ((mix (adv (placeN k z)) : Nat) : Int)] rfl (Lies.row (t := 61) (fr := (0, 0)) (heap_alloc_new w1 _) (by simp)) rfl (by simp [Value.oneCell']) (by unfold maxLen; omega) (by omega) (by simp; omega) ?_); intro A' cap' w2 hown' hgrow _ _)
      rw [draws_map] at hown'
      have HO' := Lib.hid hown'
      have HK2 : Hid (Keeps (fun b => b = g) w w2) := Lib.hid (HK1.out.and ((((Keeps.refl (fun b => w.heap.size ≤ b) w1).alloc _)).grown hgrow (fun b hb _ => (HO1.out.lt b hb).1)) (fun b hb h => absurd h (by omega)))
      have HD2 := Lib.hid (HD1.out.keeps ((((Keeps.refl (fun b => w.heap.size ≤ b) w1).alloc _)).grown hgrow (fun b hb _ => (HO1.out.lt b hb).1)) (by omega))
      clear hown' hgrow HO1 HD1 HK1
      go_roundw
      case rel => exact ⟨k + 1, cap', A', by omega, by go_num, rfl, HO', HD2, HK2⟩
      case measure => simp [intOf]; omega
    · obtain rfl : k = n := by omega
      go_wp2_with fail
      go_ret
      exact ⟨⟨A, cap, rfl, own_lies HO.out⟩, HD.out, HK.out⟩
end Go.Proofs.YtalngbdjabjahaaDoor
