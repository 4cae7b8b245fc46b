/-
  Order: the walk; and that dice live. Conditions: none.
-/
import Derived.Test.YtalngbdjabjahaaDoorShufO
namespace Go.Proofs.YtalngbdjabjahaaDoor
open Go.RowKit
def dans (z k : Nat) : Int × Bool := (((phi (mix (adv z)) k : Nat) : Int), true)
def dnxt (z _k : Nat) : Nat := adv z
/-- The place behind n draws. -/
def advN : Nat → Nat → Nat
  | 0, z => z
  | n + 1, z => advN n (adv z)
theorem phi_le {z i : Nat} : phi (mix (adv z)) (i + 2) ≤ i + 1 := by
  have := phi_lt (x := mix (adv z)) (n := i + 2) (mix64 _) (by omega)
  omega
theorem ok_nat {k i : Nat} (h : k ≤ i) : okAns ((k : Int), true) i = true := by simp [okAns]; omega
/-- The order that comes of the place z. -/
def ordFrom : Nat → List Int → Nat → List Int
  | 0, l, _ => l
  | i + 1, l, z => ordFrom i (swp l (i + 1) (phi (mix (adv z)) (i + 2))) (adv z)
def ordOf (z n : Nat) : List Int := ordFrom (n - 1) (rng n) z
theorem shuf_dice (i : Nat) : ∀ (l : List Int) (z : Nat), shuf dans dnxt i l z = (some (ordFrom i l z), advN i z) := by
  induction i with
  | zero => intro l z; rfl
  | succ i ih =>
    intro l z
    have hk := @phi_le z i
    unfold ordFrom advN
    have e : dans z (i + 2) = (((phi (mix (adv z)) (i + 2) : Nat) : Int), true) := rfl
    have e2 : dnxt z (i + 2) = adv z := rfl
    rw [shuf, e, e2]
    generalize adv z = z' at *
    generalize phi (mix z') (i + 2) = k at *
    rw [if_pos (ok_nat hk), ih, Int.toNat_natCast]
def OrdPost (g z n : Nat) (w : World) (e : Ending) (w' : World) : Prop :=
  e = .returned (.slice (some ⟨w.heap.size + 1, 0, none⟩) n n) ∧ Whole w' (w.heap.size + 1) 3 (ints (ordOf z n)) ∧ (ordOf z n).length = n ∧ DiceAt w' g (advN (n - 1) z) ∧ Keeps (fun b => b = g) w w'
theorem dice_put {g z : Nat} {w : World} (h : DiceAt w g z) (y : Nat) : DiceAt (w.setCell ⟨g, 0, none⟩ (.int .u64 (y : Nat))) g y := h.put 0 _
set_option maxHeartbeats 400000 in
theorem order_any (g z n : Nat) (w : World) (hd : DiceAt w g z) (hn : n ≤ 65536) :
    Calls Tryd.prog 41 #[.pointer (some ⟨g, 0, none⟩), .int .i64 n] w (OrdPost g z n w) := by
  have hg := hd.inside
  have hmf : ∀ (fn : Fn) (first cap : Array Value) (w : World), (Instr.makeFunc fn first cap).run Tryd.prog w = .ok (.func fn first cap) w := fun _ _ _ _ => rfl
  have hd1 : DiceAt (w.alloc (.cells #[.pointer (some ⟨g, 0, none⟩)] 63)) g z := hd.alloc _
  go_enter Tryd.func41, Tryd.ntmps41
  go_wp2_with fail
  refine (none_any g z _ hd1).mono ?_
  rintro e w' ⟨rfl, rfl⟩
  go_wp2_with fail
  have H1 := Lib.hid hd1; have HG := Lib.hid hg; clear hmf hd hd1 hg
  go_wp2_with fail
  have hgs : g ≠ (w.alloc (.cells #[.pointer (some ⟨g, 0, none⟩)] 63)).heap.size := by have := HG.out; simp; omega
  have hcs : w.heap.size ≠ (w.alloc (.cells #[.pointer (some ⟨g, 0, none⟩)] 63)).heap.size := by simp
  refine (shuffleO_any dans dnxt (fun z w' => DiceAt w' g z ∧ Whole w' w.heap.size 63 #[.pointer (some ⟨g, 0, none⟩)]) (fun b => b = g) n _ z _ hn (fun _ _ => True) (Lib.hid trivial) (Lib.hid fun _ _ _ => trivial) ?ask ?far ?start _ (Lib.hid (shuf_dice _ _ _))).mono ?_
  case ask =>
    intro s k w1 h2 hk _ ⟨hI, hc⟩ hs
    refine (order_ask w.heap.size g s k w1 (hc.cellAt 0) hI (by omega) (by omega)).mono ?_
    rintro e w2 ⟨rfl, rfl⟩
    exact ⟨rfl, ⟨dice_put hI _, hc.putFar (Nat.ne_of_gt HG.out) _⟩, (Keeps.refl _ _).setCell (fun _ => ⟨rfl, hgs⟩) _⟩
  case far =>
    intro s w1 w2 ⟨hI, hc⟩ hk
    exact ⟨hI.keeps hk hgs, hc.keeps hk hcs⟩
  case start => exact ⟨H1.out.alloc _, (Whole.made _ _ _).alloc _⟩
  · rintro e w2 ⟨⟨hI, _⟩, hK, _, rfl, hW, hl⟩
    have HP : Hid (OrdPost g z n w (.returned (.slice (some ⟨w.heap.size + 1, 0, none⟩) n n)) w2) := Lib.hid ⟨rfl, by unfold ordOf; simpa using hW, hl, hI, ((Keeps.refl _ w).alloc _).trans hK⟩
    clear hI hK hW hl
    go_wp2_with fail
    go_ret
    exact HP.out
end Go.Proofs.YtalngbdjabjahaaDoor
