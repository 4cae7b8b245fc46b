/-
  RowsCuts: the law's function is true at every list and every numbers: the walk. Condition: the list within what memory holds.
-/
import Derived.Test.YtbfhbekocgdceaaRcB
import Derived.Test.YtbfhbekocgdceaaRoA
import Derived.Test.YtbfhbekocgdceaaRcQ
import Derived.Test.YtbfhbekocgdceaaRwW
import Derived.Test.YtbfhbekocgdceaaCuI
namespace Go.Proofs.Ytbfhbekocgdceaa
open Go.RowKit
def cutL (xs : List Int) (at_ : Int) : List Int := if 0 ≤ at_ ∧ at_ < xs.length then xs.take at_.toNat ++ xs.drop (at_.toNat + 1) else []
def cutV (xs : List Int) (at_ : Int) : Int := if 0 ≤ at_ ∧ at_ < xs.length then xs.getD at_.toNat 0 else 0
def cutB (xs : List Int) (at_ : Int) : Bool := decide (0 ≤ at_ ∧ at_ < xs.length)
def putL (xs : List Int) (at_ x : Int) : List Int := if 0 ≤ at_ ∧ at_ ≤ xs.length then xs.take at_.toNat ++ x :: xs.drop at_.toNat else []
def putB (xs : List Int) (at_ : Int) : Bool := decide (0 ≤ at_ ∧ at_ ≤ xs.length)
theorem cut_at (xs : List Int) (k : Nat) (hk : k < xs.length) : cutL xs (k : Int) = xs.take k ++ xs.drop (k + 1) ∧ cutV xs (k : Int) = xs[k] ∧ cutB xs (k : Int) = true := by
  unfold cutL cutV cutB
  rw [if_pos (by omega), if_pos (by omega)]
  simp [List.getD_eq_getElem?_getD, hk]
theorem cut_off (xs : List Int) (at_ : Int) (h : at_ < 0 ∨ (xs.length : Int) ≤ at_) : cutL xs at_ = [] ∧ cutV xs at_ = 0 ∧ cutB xs at_ = false := by
  unfold cutL cutV cutB
  rw [if_neg (by omega), if_neg (by omega)]
  exact ⟨rfl, rfl, by simp; omega⟩
theorem put_at (xs : List Int) (x : Int) (k : Nat) (hk : k ≤ xs.length) : putL xs (k : Int) x = xs.take k ++ x :: xs.drop k ∧ putB xs (k : Int) = true := by
  unfold putL putB
  rw [if_pos (by omega)]
  simp [hk]
theorem put_off (xs : List Int) (at_ x : Int) (h : at_ < 0 ∨ (xs.length : Int) < at_) : putL xs at_ x = [] ∧ putB xs at_ = false := by
  unfold putL putB
  rw [if_neg (by omega)]
  exact ⟨rfl, by simp; omega⟩
theorem cutL_length (xs : List Int) (at_ : Int) : (cutL xs at_).length ≤ xs.length := by unfold cutL; split <;> simp; omega
theorem putL_length (xs : List Int) (at_ x : Int) : (putL xs at_ x).length ≤ xs.length + 1 := by unfold putL; split <;> simp; omega
theorem one_ints (xs : List Int) : ∀ u ∈ xs.map (Value.int .i64), u.oneCell' = true := fun u hu => by
  obtain ⟨z, _, rfl⟩ := List.mem_map.1 hu; rfl
theorem rcut_any (xs : List Int) (g off cap : Nat) (at_ : Int) (w : World) (hx : Lies w w.heap.size (some ⟨g, off, none⟩) (xs.map (Value.int .i64))) (hc : xs.length ≤ cap) (hl : xs.length ≤ 900000000) :
    Calls Try.prog 23 #[.slice (some ⟨g, off, none⟩) xs.length cap, .int .i64 at_] w fun e w' => ∃ A' c', e = .returned (.tuple #[.slice A' (cutL xs at_).length c', .int .i64 (cutV xs at_), .bool (cutB xs at_)]) ∧ Made w w' A' c' (cutL xs at_) := by
  by_cases h : 0 ≤ at_ ∧ at_ < xs.length
  · obtain ⟨k, rfl⟩ : ∃ k : Nat, at_ = k := ⟨at_.toNat, by omega⟩
    have hk : k < xs.length := by omega
    obtain ⟨e1, e2, e3⟩ := cut_at xs k hk
    have hl1 : (xs.take k ++ xs.drop (k + 1)).length = xs.length - 1 := by simp; omega
    have h0 := cutI_in (xs.map (Value.int .i64)) g off cap k w hx (by simpa using hc) (by simp; omega) (one_ints xs) (by simpa using hk)
    simp only [List.length_map, List.getElem_map] at h0
    refine h0.mono ?_
    rintro e w' ⟨A', c', rfl, ho, hk'⟩
    refine ⟨A', c', ?_, ?_, hk'⟩
    · rw [e1, e2, e3, hl1]
    · rw [e1, hl1, List.map_append, List.map_take, List.map_drop]; exact ho
  · obtain ⟨e1, e2, e3⟩ := cut_off xs at_ (by omega)
    refine (cutI_out (some ⟨g, off, none⟩) xs.length cap at_ w (by omega)).mono ?_
    rintro e w' ⟨rfl, rfl⟩
    exact ⟨none, 0, by rw [e1, e2, e3]; rfl, by rw [e1]; exact World.ownsRow_nil _ _ _ _, Keeps.refl _ _⟩
theorem rput_any (xs : List Int) (g off cap : Nat) (at_ x : Int) (w : World) (hx : Lies w w.heap.size (some ⟨g, off, none⟩) (xs.map (Value.int .i64))) (hc : xs.length ≤ cap) (hl : xs.length ≤ 900000000) :
    Calls Try.prog 24 #[.slice (some ⟨g, off, none⟩) xs.length cap, .int .i64 at_, .int .i64 x] w fun e w' => ∃ A' c', e = .returned (.tuple #[.slice A' (putL xs at_ x).length c', .bool (putB xs at_)]) ∧ Made w w' A' c' (putL xs at_ x) := by
  by_cases h : 0 ≤ at_ ∧ at_ ≤ xs.length
  · obtain ⟨k, rfl⟩ : ∃ k : Nat, at_ = k := ⟨at_.toNat, by omega⟩
    have hk : k ≤ xs.length := by omega
    obtain ⟨e1, e3⟩ := put_at xs x k hk
    have hl1 : (xs.take k ++ x :: xs.drop k).length = xs.length + 1 := by simp; omega
    have h0 := putI_in (xs.map (Value.int .i64)) x g off cap k w hx (by simpa using hc) (by simpa using hl) (one_ints xs) (by simpa using hk)
    simp only [List.length_map] at h0
    refine h0.mono ?_
    rintro e w' ⟨A', c', rfl, ho, hk'⟩
    refine ⟨A', c', ?_, ?_, hk'⟩
    · rw [e1, e3, hl1]
    · rw [e1, hl1, List.map_append, List.map_cons, List.map_take, List.map_drop]; exact ho
  · obtain ⟨e1, e3⟩ := put_off xs at_ x (by omega)
    refine (putI_out (some ⟨g, off, none⟩) xs.length cap at_ _ w (by omega)).mono ?_
    rintro e w' ⟨rfl, rfl⟩
    exact ⟨none, 0, by rw [e1, e3]; rfl, by rw [e1]; exact World.ownsRow_nil _ _ _ _, Keeps.refl _ _⟩
theorem refCut_any (xs : List Int) (A : Option Addr) (cap : Nat) (at_ : Int) (w : World) (hx : Lies w w.heap.size A (xs.map (Value.int .i64))) (hl : xs.length ≤ 900000000) :
    Calls Try.prog 26 #[.slice A xs.length cap, .int .i64 at_] w fun e w' => ∃ A' c', e = .returned (.tuple #[.slice A' (cutL xs at_).length c', .int .i64 (cutV xs at_), .bool (cutB xs at_)]) ∧ Made w w' A' c' (cutL xs at_) := by
  by_cases h : 0 ≤ at_ ∧ at_ < xs.length
  · obtain ⟨k, rfl⟩ : ∃ k : Nat, at_ = k := ⟨at_.toNat, by omega⟩
    have hk : k < xs.length := by omega
    obtain ⟨e1, e2, e3⟩ := cut_at xs k hk
    have hl1 : (xs.take k ++ xs.drop (k + 1)).length = xs.length - 1 := by simp; omega
    refine (refCut_in xs A cap k w hx (by omega) hk).mono ?_
    rintro e w' ⟨A', c', rfl, ho, hk'⟩
    refine ⟨A', c', ?_, ?_, hk'⟩
    · rw [e1, e2, e3, hl1]
    · rw [e1, hl1]; exact ho
  · obtain ⟨e1, e2, e3⟩ := cut_off xs at_ (by omega)
    refine (refCut_out A xs.length cap at_ w (by omega)).mono ?_
    rintro e w' ⟨rfl, rfl⟩
    exact ⟨none, 0, by rw [e1, e2, e3]; rfl, by rw [e1]; exact World.ownsRow_nil _ _ _ _, Keeps.refl _ _⟩
theorem refPut_any (xs : List Int) (A : Option Addr) (cap : Nat) (at_ x : Int) (w : World) (hx : Lies w w.heap.size A (xs.map (Value.int .i64))) (hl : xs.length ≤ 900000000) :
    Calls Try.prog 27 #[.slice A xs.length cap, .int .i64 at_, .int .i64 x] w fun e w' => ∃ A' c', e = .returned (.tuple #[.slice A' (putL xs at_ x).length c', .bool (putB xs at_)]) ∧ Made w w' A' c' (putL xs at_ x) := by
  by_cases h : 0 ≤ at_ ∧ at_ ≤ xs.length
  · obtain ⟨k, rfl⟩ : ∃ k : Nat, at_ = k := ⟨at_.toNat, by omega⟩
    have hk : k ≤ xs.length := by omega
    obtain ⟨e1, e3⟩ := put_at xs x k hk
    have hl1 : (xs.take k ++ x :: xs.drop k).length = xs.length + 1 := by simp; omega
    refine (refPut_in xs x A cap k w hx hl hk).mono ?_
    rintro e w' ⟨A', c', rfl, ho, hk'⟩
    refine ⟨A', c', ?_, ?_, hk'⟩
    · rw [e1, e3, hl1]
    · rw [e1, hl1]; exact ho
  · obtain ⟨e1, e3⟩ := put_off xs at_ x (by omega)
    refine (refPut_out A xs.length cap at_ _ w (by omega)).mono ?_
    rintro e w' ⟨rfl, rfl⟩
    exact ⟨none, 0, by rw [e1, e3]; rfl, by rw [e1]; exact World.ownsRow_nil _ _ _ _, Keeps.refl _ _⟩
/-- Rows that were made one behind the other share no block. -/
theorem slRows_of {e : TypeId} {s : Nat} {rows : List Sl} {w : World} (lo : Nat → Nat) (mono : ∀ i j, i ≤ j → lo i ≤ lo j) (h : ∀ (k : Nat) (r : Sl), rows[k]? = some r → (∃ xs, w.ownsRow 0 e s r.val r.len xs) ∧ ∀ b, r.blk = some b → lo k ≤ b ∧ b < lo (k + 1)) : SlRows e s rows w :=
  ⟨fun k r hr => (h k r hr).1, fun j k r q b hr hq hb hb' => by
    have h1 := (h j r hr).2 b hb
    have h2 := (h k q hq).2 b hb'
    rcases Nat.lt_trichotomy j k with h3 | h3 | h3
    · have := mono (j + 1) k h3; omega
    · exact h3
    · have := mono (k + 1) j h3; omega⟩
/-- The bounds of four rows. -/
def lo4 (a b c d e : Nat) (i : Nat) : Nat := if i = 0 then a else if i = 1 then b else if i = 2 then c else if i = 3 then d else e
theorem lo4_mono {a b c d e : Nat} (h1 : a ≤ b) (h2 : b ≤ c) (h3 : c ≤ d) (h4 : d ≤ e) (i j : Nat) (h : i ≤ j) : lo4 a b c d e i ≤ lo4 a b c d e j := by
  unfold lo4
  repeat' split
  all_goals omega
theorem rows4 {a b c d : Sl} {P : Nat → Sl → Prop} (h0 : P 0 a) (h1 : P 1 b) (h2 : P 2 c) (h3 : P 3 d) : ∀ (k : Nat) (r : Sl), [a, b, c, d][k]? = some r → P k r
  | 0, r, h => by
    obtain rfl : a = r := by simpa using h
    exact h0
  | 1, r, h => by
    obtain rfl : b = r := by simpa using h
    exact h1
  | 2, r, h => by
    obtain rfl : c = r := by simpa using h
    exact h2
  | 3, r, h => by
    obtain rfl : d = r := by simpa using h
    exact h3
  | k + 4, _, h => by simp at h
end Go.Proofs.Ytbfhbekocgdceaa
