/-
  DiceShuffles: what the three calls answer, of whatever number. Conditions: Go's own limits.
-/
import Derived.Test.YtalngbdjabjahaaDoorShufR
import Derived.Test.YtalngbdjabjahaaDoorBagJ
import Derived.Test.YtalngbdjabjahaaDoorDiceL
namespace Go.Proofs.YtalngbdjabjahaaDoor
open Go.RowKit
/-- What comes of so many things and these answers: the order, if there is one; what was asked. -/
def shOf (L : List (Int × Bool)) (n : Int) : Option (List Int) × List Int := if n < 0 ∨ 65536 < n then (none, []) else shuf (lans L) lnxt (n.toNat - 1) (rng n.toNat) []
def uniB (R : Option (List Int) × List Int) : Bool := R.1.isSome
def uniL (R : Option (List Int) × List Int) : List Int := R.1.getD []
theorem shOf_bd (L : List (Int × Bool)) (n : Int) : (uniL (shOf L n)).length ≤ 65536 ∧ (shOf L n).2.length ≤ 65536 := by
  unfold shOf
  by_cases h : n < 0 ∨ 65536 < n
  · rw [if_pos h]; exact ⟨Nat.zero_le _, Nat.zero_le _⟩
  · rw [if_neg h]
    have h1 := shuf_asked L (n.toNat - 1) (rng n.toNat) []
    refine ⟨?_, by simp at h1; omega⟩
    unfold uniL
    cases h2 : (shuf (lans L) lnxt (n.toNat - 1) (rng n.toNat) []).1 with
    | none => exact Nat.zero_le _
    | some r =>
      have := shuf_len L _ _ _ r h2
      rw [rng_length] at this
      show r.length ≤ _
      omega
/-- What Shuffle over an asker leaves. -/
def AskPost (a : Nat) (R : Option (List Int) × List Int) (w : World) (e : Ending) (w' : World) : Prop :=
  ∃ A c, e = .returned (.tuple #[.slice A (uniL R).length c, .bool (uniB R)]) ∧ w'.ownsRow w.heap.size 3 1 (.slice A (uniL R).length c) (uniL R).length ((uniL R).map (Value.int .i64)) ∧
  (∃ As cs, w'.cell? ⟨a, 1, none⟩ = some (.slice As R.2.length cs) ∧ LiesD w' (fun g => w.heap.size ≤ g ∧ g < w'.heap.size) As (R.2.map (Value.int .i64))) ∧ Keeps (fun b => b = a ∨ w.heap.size ≤ b) w w'
theorem ask_uni (a cap : Nat) (n : Int) (F : Nat → Prop) (A : Option Addr) (L : List (Int × Bool)) (w : World) (hF : ∀ g, F g → g ≠ a ∧ g < w.heap.size) (hW : Whole w a 26 #[.slice A L.length cap, .slice none 0 0]) (hL : AnsLies w F A L) :
    Calls Tryd.prog 5 #[.int .i64 n, .func (.func 6) #[.pointer (some ⟨a, 0, none⟩)] #[]] w (AskPost a (shOf L n) w) := by
  by_cases h : n < 0 ∨ 65536 < n
  · have e : shOf L n = (none, []) := if_pos h
    rw [e]
    refine (shuffleA_no n _ w h).mono ?_
    rintro e w' ⟨rfl, rfl⟩
    exact ⟨none, 0, rfl, World.ownsRow_nil _ _ _ _, ⟨none, 0, hW.cellAt 1, LiesD.nil⟩, Keeps.refl _ _⟩
  · obtain ⟨m, rfl⟩ : ∃ m : Nat, n = (m : Int) := ⟨n.toNat, by omega⟩
    have e : shOf L (m : Int) = shuf (lans L) lnxt (m - 1) (rng m) [] := if_neg h
    rw [e]
    refine (ask_shuffleL a m cap F A L w hF hW hL (by omega)).mono ?_
    intro e w' ⟨hI, hK, hs, hm⟩
    generalize shuf (lans L) lnxt (m - 1) (rng m) [] = R at *
    obtain ⟨r, s⟩ := R
    obtain ⟨_, _, As, cs, hWa, hO⟩ := hI
    have hK' : Keeps (fun b => b = a ∨ w.heap.size ≤ b) w w' := hK.mono fun b _ h => h.imp id Nat.le_of_lt
    have hLs : LiesD w' (fun g => w.heap.size ≤ g ∧ g < w'.heap.size) As (s.map (Value.int .i64)) := own_liesD hO fun b hb => by have := hO.lt b hb; omega
    cases r with
    | none => exact ⟨none, 0, hm, World.ownsRow_nil _ _ _ _, ⟨As, cs, hWa.cellAt 1, hLs⟩, hK'⟩
    | some l =>
      obtain ⟨he, hW', hl⟩ := hm
      subst hl
      refine ⟨some ⟨w.heap.size, 0, none⟩, l.length, he, ⟨by simp [uniL], .inr ⟨w.heap.size, l.length, ints l, rfl, Nat.le_refl _, hW', Nat.le_refl _, by unfold maxLen; omega, by simp [ints_size], ?_⟩⟩, ⟨As, cs, hWa.cellAt 1, hLs⟩, hK'⟩
      show (ints l).toList.take (l.length * 1) = l.map (Value.int .i64)
      unfold ints
      rw [Nat.mul_one]
      exact List.take_of_length_le (by simp)
/-- What the document's Shuffle leaves. -/
def DocPost (R : Option (List Int) × List Int) (w : World) (e : Ending) (w' : World) : Prop :=
  ∃ A c As cs, e = .returned (.tuple #[.slice A (uniL R).length c, .bool (uniB R), .slice As R.2.length cs]) ∧ Lies w' w'.heap.size A ((uniL R).map (Value.int .i64)) ∧ Lies w' w'.heap.size As (R.2.map (Value.int .i64)) ∧ Below w.heap.size w w'
theorem doc_uni (n : Int) (F : Nat → Prop) (A : Option Addr) (cap : Nat) (L : List (Int × Bool)) (w : World) (hF : ∀ g, F g → g < w.heap.size) (hL : AnsLies w F A L) :
    Calls Tryd.prog 7 #[.int .i64 n, .slice A L.length cap] w (DocPost (shOf L n) w) := by
  by_cases h : n < 0 ∨ 65536 < n
  · have e : shOf L n = (none, []) := if_pos h
    rw [e]
    refine (refShuffle_no n A _ cap w h).mono ?_
    rintro e w' ⟨rfl, rfl⟩
    exact ⟨none, 0, none, 0, rfl, Lies.nil, Lies.nil, Below.refl _ _⟩
  · obtain ⟨m, rfl⟩ : ∃ m : Nat, n = (m : Int) := ⟨n.toNat, by omega⟩
    have e : shOf L (m : Int) = shuf (lans L) lnxt (m - 1) (rng m) [] := if_neg h
    rw [e]
    refine (refShuffle_any m F A cap L w hF hL (by omega) _ (Lib.hid rfl)).mono ?_
    intro e w' ⟨hB, As, cs, hs, hm⟩
    generalize shuf (lans L) lnxt (m - 1) (rng m) [] = R at *
    obtain ⟨r, s⟩ := R
    cases r with
    | none => exact ⟨none, 0, As, cs, hm, Lies.nil, hs, hB⟩
    | some l =>
      obtain ⟨A, c, he, hl⟩ := hm
      exact ⟨A, c, As, cs, he, hl, hs, hB⟩
end Go.Proofs.YtalngbdjabjahaaDoor
