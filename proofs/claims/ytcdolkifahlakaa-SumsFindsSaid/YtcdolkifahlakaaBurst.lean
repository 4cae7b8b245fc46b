/-
  The plain law of sums' Burst: the first and the last bit in which two texts differ, as the two loops find them. Conditions: none.
-/
import Derived.Test.YtcdolkifahlakaaCrc
namespace Go.Proofs.Ytcdolkifahlakaa.Crc

/-- Do the texts differ in this bit? -/
def dbit (x y : List (BitVec 8)) (m : Nat) : Bool := (x.getD (m / 8) 0 ^^^ y.getD (m / 8) 0).getLsbD (m % 8)
/-- The first and the last one among the first m bits, -1 where there is none. -/
def scan (D : Nat → Bool) : Nat → Int × Int
  | 0 => (-1, -1)
  | m + 1 => if D m then (if (scan D m).1 < 0 then (m : Int) else (scan D m).1, (m : Int)) else scan D m
def Is (D : Nat → Bool) (m : Nat) (r : Int × Int) : Prop :=
  ((∀ j, j < m → D j = false) ∧ r = (-1, -1)) ∨
  ∃ p q : Nat, p ≤ q ∧ q < m ∧ D p = true ∧ D q = true ∧ (∀ j, j < p → D j = false) ∧ (∀ j, q < j → j < m → D j = false) ∧ r = ((p : Int), (q : Int))
theorem Is.unique {D : Nat → Bool} {m : Nat} {r s : Int × Int} (h : Is D m r) (k : Is D m s) : r = s := by
  rcases h with ⟨h, rfl⟩ | ⟨p, q, hpq, hq, hp1, hq1, hlo, hhi, rfl⟩
  · rcases k with ⟨_, rfl⟩ | ⟨p', q', hpq', hq', hp1', _, _, _, _⟩
    · rfl
    · rw [h p' (by omega)] at hp1'; cases hp1'
  · rcases k with ⟨k, _⟩ | ⟨p', q', hpq', hq', hp1', hq1', hlo', hhi', rfl⟩
    · rw [k p (by omega)] at hp1; cases hp1
    · have e1 : p = p' := by
        rcases Nat.lt_trichotomy p p' with h | h | h
        · rw [hlo' p h] at hp1; cases hp1
        · exact h
        · rw [hlo p' h] at hp1'; cases hp1'
      have e2 : q = q' := by
        rcases Nat.lt_trichotomy q q' with h | h | h
        · rw [hhi q' h hq'] at hq1'; cases hq1'
        · exact h
        · rw [hhi' q h hq] at hq1; cases hq1
      rw [e1, e2]
theorem scan_is (D : Nat → Bool) (m : Nat) : Is D m (scan D m) := by
  induction m with
  | zero => exact .inl ⟨fun j hj => absurd hj (by omega), rfl⟩
  | succ m ih =>
    simp only [scan]
    cases hd : D m with
    | false =>
      simp only [Bool.false_eq_true, if_false]
      rcases ih with ⟨h, e⟩ | ⟨p, q, hpq, hq, hp1, hq1, hlo, hhi, e⟩
      · exact .inl ⟨fun j hj => by exact (Nat.eq_or_lt_of_le (Nat.le_of_lt_succ hj)).elim (fun e => e ▸ hd) (fun h' => h j h'), e⟩
      · exact .inr ⟨p, q, hpq, by omega, hp1, hq1, hlo, fun j h1 h2 => by exact (Nat.eq_or_lt_of_le (Nat.le_of_lt_succ h2)).elim (fun e => e ▸ hd) (fun h' => hhi j h1 h'), e⟩
    | true =>
      simp only [if_true]
      rcases ih with ⟨h, e⟩ | ⟨p, q, hpq, hq, hp1, hq1, hlo, hhi, e⟩
      · rw [e]
        exact .inr ⟨m, m, Nat.le_refl _, by omega, hd, hd, h, fun j h1 h2 => by omega, by rw [if_pos (by decide)]⟩
      · rw [e]
        refine .inr ⟨p, m, by omega, by omega, hp1, hd, hlo, fun j h1 h2 => by omega, ?_⟩
        rw [if_neg (by simp)]
theorem scan_eq {D : Nat → Bool} {m : Nat} {r : Int × Int} (h : Is D m r) : scan D m = r := (scan_is D m).unique h
theorem scan_congr {D E : Nat → Bool} (h : ∀ j, D j = E j) (m : Nat) : scan D m = scan E m := by
  have : D = E := funext h
  rw [this]
/-- What Burst answers. -/
def burst (x y : List (BitVec 8)) : Int × Int :=
  if x.length ≠ y.length then (-1, -1)
  else if (scan (dbit x y) (8 * x.length)).1 < 0 then (0, 0)
  else ((scan (dbit x y) (8 * x.length)).1, (scan (dbit x y) (8 * x.length)).2 - (scan (dbit x y) (8 * x.length)).1 + 1)
theorem dbit_comm (x y : List (BitVec 8)) (m : Nat) : dbit x y m = dbit y x m := by unfold dbit; rw [BitVec.xor_comm]
theorem dbit_self (x : List (BitVec 8)) (m : Nat) : dbit x x m = false := by unfold dbit; rw [BitVec.xor_self]; simp
theorem burst_comm (x y : List (BitVec 8)) : burst x y = burst y x := by
  unfold burst
  by_cases h : x.length = y.length
  · have e := scan_congr (dbit_comm x y)
    rw [if_neg (by simp [h]), if_neg (c := y.length ≠ x.length) (by simp [h]), e, h]
  · rw [if_pos h, if_pos (fun e => h e.symm)]
theorem scan_none {D : Nat → Bool} {m : Nat} (h : ∀ j, j < m → D j = false) : scan D m = (-1, -1) := scan_eq (.inl ⟨h, rfl⟩)
theorem burst_self (x : List (BitVec 8)) : burst x x = (0, 0) := by
  unfold burst
  rw [if_neg (by simp), scan_none (fun j _ => dbit_self x j), if_pos (by decide)]
/-- The bit of a byte. -/
theorem dbit_at (x y : List (BitVec 8)) (i s : Nat) (hx : i < x.length) (hy : i < y.length) (hs : s < 8) : dbit x y (8 * i + s) = (x[i] ^^^ y[i]).getLsbD s := by
  unfold dbit
  rw [show (8 * i + s) / 8 = i by omega, show (8 * i + s) % 8 = s by omega]
  simp [hx, hy]
/-- A byte in which they don't differ. -/
theorem scan_same (x y : List (BitVec 8)) (i : Nat) (hx : i < x.length) (hy : i < y.length) (h : x[i] = y[i]) : scan (dbit x y) (8 * (i + 1)) = scan (dbit x y) (8 * i) := by
  apply scan_eq
  have hz : ∀ j, 8 * i ≤ j → j < 8 * (i + 1) → dbit x y j = false := by
    intro j h1 h2
    rw [show j = 8 * i + (j - 8 * i) by omega, dbit_at x y i _ hx hy (by omega), h, BitVec.xor_self]
    simp
  rcases scan_is (dbit x y) (8 * i) with ⟨h, e⟩ | ⟨p, q, hpq, hq, hp1, hq1, hlo, hhi, e⟩
  · exact .inl ⟨fun j hj => by exact (Nat.lt_or_ge j (8 * i)).elim (fun h' => h j h') (fun h' => hz j h' hj), e⟩
  · exact .inr ⟨p, q, hpq, by omega, hp1, hq1, hlo, fun j h1 h2 => by exact (Nat.lt_or_ge j (8 * i)).elim (fun h' => hhi j h1 h') (fun h' => hz j h' h2), e⟩
/-- The lowest and the highest bit of a byte. -/
def lowBit (c : BitVec 8) : Nat := ((List.range 8).find? fun s => c.getLsbD s).getD 8
def topBit (c : BitVec 8) : Nat := ((List.range 8).reverse.find? fun s => c.getLsbD s).getD 8
theorem lowBit_is : ∀ c : BitVec 8, c ≠ 0#8 → lowBit c < 8 ∧ c.getLsbD (lowBit c) = true ∧ (∀ s, s < lowBit c → c.getLsbD s = false) := by decide +kernel
theorem topBit_is : ∀ c : BitVec 8, c ≠ 0#8 → topBit c < 8 ∧ c.getLsbD (topBit c) = true ∧ (∀ s, s < 8 → topBit c < s → c.getLsbD s = false) := by decide +kernel
/-- A byte in which they do. -/
theorem scan_byte (x y : List (BitVec 8)) (i : Nat) (hx : i < x.length) (hy : i < y.length) (h : x[i] ^^^ y[i] ≠ 0#8) :
    scan (dbit x y) (8 * (i + 1)) = (if (scan (dbit x y) (8 * i)).1 < 0 then ((8 * i + lowBit (x[i] ^^^ y[i]) : Nat) : Int) else (scan (dbit x y) (8 * i)).1, ((8 * i + topBit (x[i] ^^^ y[i]) : Nat) : Int)) := by
  apply scan_eq
  obtain ⟨l1, l2, l3⟩ := lowBit_is _ h
  obtain ⟨t1, t2, t3⟩ := topBit_is _ h
  generalize lowBit (x[i] ^^^ y[i]) = a at *
  generalize topBit (x[i] ^^^ y[i]) = b at *
  have hat : ∀ s, s < 8 → dbit x y (8 * i + s) = (x[i] ^^^ y[i]).getLsbD s := fun s hs => dbit_at x y i s hx hy hs
  have hab : a ≤ b := by
    rcases Nat.lt_or_ge b a with h' | h'
    · rw [l3 b h'] at t2; cases t2
    · exact h'
  have htop : ∀ j, 8 * i + b < j → j < 8 * (i + 1) → dbit x y j = false := fun j h1 h2 => by
    rw [show j = 8 * i + (j - 8 * i) by omega, hat _ (by omega)]; exact t3 _ (by omega) (by omega)
  rcases scan_is (dbit x y) (8 * i) with ⟨hn, e⟩ | ⟨p, q, hpq, hq, hp1, hq1, hlo, hhi, e⟩
  · rw [e, if_pos (by decide)]
    refine .inr ⟨8 * i + a, 8 * i + b, by omega, by omega, by rw [hat a l1]; exact l2, by rw [hat b t1]; exact t2, ?_, htop, rfl⟩
    intro j hj
    rcases Nat.lt_or_ge j (8 * i) with h' | h'
    · exact hn j h'
    · rw [show j = 8 * i + (j - 8 * i) by omega, hat _ (by omega)]; exact l3 _ (by omega)
  · rw [e, if_neg (by simp)]
    exact .inr ⟨p, 8 * i + b, by omega, by omega, hp1, by rw [hat b t1]; exact t2, hlo, htop, rfl⟩
end Go.Proofs.Ytcdolkifahlakaa.Crc
