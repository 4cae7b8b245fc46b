/-
  The plain law of sums' Burst: the first and the last bit in which two texts differ, as the two loops find them. Conditions: none.
-/
import Derived.Test.YtcmbdnjcfneinaaGreatDoorPMa
namespace Go.Proofs.YtcmbdnjcfneinaaGreatDoor.Crc

/-- Do the texts differ in this bit? -/
def dbit (x y : List (BitVec 8)) (m : Nat) : Bool := (x.getD (m / 8) 0 ^^^ y.getD (m / 8) 0).getLsbD (m % 8)
/-- The first and the last one among the first m bits, -1 where there is none. -/
def scan (D : Nat → Bool) : Nat → Int × Int
  | 0 => (-1, -1)
  | m + 1 => if D m then (if (scan D m).1 < 0 then (m : Int) else (scan D m).1, (m : Int)) else scan D m
def Is (D : Nat → Bool) (m : Nat) (r : Int × Int) : Prop :=
  ((∀ j, j < m → D j = false) ∧ r = (-1, -1)) ∨
  ∃ p q : Nat, p ≤ q ∧ q < m ∧ D p = true ∧ D q = true ∧ (∀ j, j < p → D j = false) ∧ (∀ j, q < j → j < m → D j = false) ∧ r = ((p : Int), (q : Int))
theorem Is.unique {D : Nat → Bool} {m : Nat} {r s : Int × Int} (h : Is D m r) (k : Is D m s) : r = s := by
  rcases h with ⟨h, rfl⟩ | ⟨p, q, hpq, hq, hp1, hq1, hlo, hhi, rfl⟩
  · rcases k with ⟨_, rfl⟩ | ⟨p', q', hpq', hq', hp1', _, _, _, _⟩
    · rfl
    · rw [h p' (by omega)] at hp1'; cases hp1'
  · rcases k with ⟨k, _⟩ | ⟨p', q', hpq', hq', hp1', hq1', hlo', hhi', rfl⟩
    · rw [k p (by omega)] at hp1; cases hp1
    · have e1 : p = p' := by
        rcases Nat.lt_trichotomy p p' with h | h | h
        · rw [hlo' p h] at hp1; cases hp1
        · exact h
        · rw [hlo p' h] at hp1'; cases hp1'
      have e2 : q = q' := by
        rcases Nat.lt_trichotomy q q' with h | h | h
        · rw [hhi q' h hq'] at hq1'; cases hq1'
        · exact h
        · rw [hhi' q h hq] at hq1; cases hq1
      rw [e1, e2]
theorem scan_is (D : Nat → Bool) (m : Nat) : Is D m (scan D m) := by
  induction m with
  | zero => exact .inl ⟨fun j hj => absurd hj (by omega), rfl⟩
  | succ m ih =>
    simp only [scan]
    cases hd : D m with
    | false =>
      simp only [Bool.false_eq_true, if_false]
      rcases ih with ⟨h, e⟩ | ⟨p, q, hpq, hq, hp1, hq1, hlo, hhi, e⟩
      · exact .inl ⟨fun j hj => by exact (Nat.eq_or_lt_of_le (Nat.le_of_lt_succ hj)).elim (fun e => e ▸ hd) (fun h' => h j h'), e⟩
      · exact .inr ⟨p, q, hpq, by omega, hp1, hq1, hlo, fun j h1 h2 => by exact (Nat.eq_or_lt_of_le (Nat.le_of_lt_succ h2)).elim (fun e => e ▸ hd) (fun h' => hhi j h1 h'), e⟩
    | true =>
      simp only [if_true]
      rcases ih with ⟨h, e⟩ | ⟨p, q, hpq, hq, hp1, hq1, hlo, hhi, e⟩
      · rw [e]
        exact .inr ⟨m, m, Nat.le_refl _, by omega, hd, hd, h, fun j h1 h2 => by omega, by rw [if_pos (by decide)]⟩
      · rw [e]
        refine .inr ⟨p, m, by omega, by omega, hp1, hd, hlo, fun j h1 h2 => by omega, ?_⟩
        rw [if_neg (by simp)]
theorem scan_eq {D : Nat → Bool} {m : Nat} {r : Int × Int} (h : Is D m r) : scan D m = r := (scan_is D m).unique h
theorem scan_congr {D E : Nat → Bool} (h : ∀ j, D j = E j) (m : Nat) : scan D m = scan E m := by
  have : D = E := funext h
  rw [this]
/-- What Burst answers. -/
def burst (x y : List (BitVec 8)) : Int × Int :=
  if x.length ≠ y.length then (-1, -1)
  else if (scan (dbit x y) (8 * x.length)).1 < 0 then (0, 0)
  else ((scan (dbit x y) (8 * x.length)).1, (scan (dbit x y) (8 * x.length)).2 - (scan (dbit x y) (8 * x.length)).1 + 1)
theorem dbit_comm (x y : List (BitVec 8)) (m : Nat) : dbit x y m = dbit y x m := by unfold dbit; rw [BitVec.xor_comm]
theorem dbit_self (x : List (BitVec 8)) (m : Nat) : dbit x x m = false := by unfold dbit; rw [BitVec.xor_self]; simp
theorem burst_comm (x y : List (BitVec 8)) : burst x y = burst y x := by
  unfold burst
  by_cases h : x.length = y.length
  · have e := scan_congr (dbit_comm x y)
    rw [if_neg (by simp [h]), if_neg (c := y.length ≠ x.length) (by simp [h]), e, h]
  · rw [if_pos h, if_pos (fun e => h e.symm)]
theorem scan_none {D : Nat → Bool} {m : Nat} (h : ∀ j, j < m → D j = false) : scan D m = (-1, -1) := scan_eq (.inl ⟨h, rfl⟩)
theorem burst_self (x : List (BitVec 8)) : burst x x = (0, 0) := by
  unfold burst
  rw [if_neg (by simp), scan_none (fun j _ => dbit_self x j), if_pos (by decide)]
/-- The bit of a byte. -/
theorem dbit_at (x y : List (BitVec 8)) (i s : Nat) (hx : i < x.length) (hy : i < y.length) (hs : s < 8) : dbit x y (8 * i + s) = (x[i] ^^^ y[i]).getLsbD s := by
  unfold dbit
  rw [show (8 * i + s) / 8 = i by omega, show (8 * i + s) % 8 = s by omega]
  simp [hx, hy]
/-- A byte in which they don't differ. -/
theorem scan_same (x y : List (BitVec 8)) (i : Nat) (hx : i < x.length) (hy : i < y.length) (h : x[i] = y[i]) : scan (dbit x y) (8 * (i + 1)) = scan (dbit x y) (8 * i) := by
  apply scan_eq
  have hz : ∀ j, 8 * i ≤ j → j < 8 * (i + 1) → dbit x y j = false := by
    intro j h1 h2
    rw [show j = 8 * i + (j - 8 * i) by omega, dbit_at x y i _ hx hy (by omega), h, BitVec.xor_self]
    simp
  rcases scan_is (dbit x y) (8 * i) with ⟨h, e⟩ | ⟨p, q, hpq, hq, hp1, hq1, hlo, hhi, e⟩
  · exact .inl ⟨fun j hj => by exact (Nat.lt_or_ge j (8 * i)).elim (fun h' => h j h') (fun h' => hz j h' hj), e⟩
  · exact .inr ⟨p, q, hpq, by omega, hp1, hq1, hlo, fun j h1 h2 => by exact (Nat.lt_or_ge j (8 * i)).elim (fun h' => hhi j h1 h') (fun h' => hz j h' h2), e⟩
/-- The lowest and the highest bit of a byte. -/
def lowBit (c : BitVec 8) : Nat := ((List.range 8).find? fun s => c.getLsbD s).getD 8
def topBit (c : BitVec 8) : Nat := ((List.range 8).reverse.find? fun s => c.getLsbD s).getD 8
theorem lowBit_is : ∀ c : BitVec 8, c ≠ 0#8 → lowBit c < 8 ∧ c.getLsbD (lowBit c) = true ∧ (∀ s, s < lowBit c → c.getLsbD s = false) := by decide +kernel
theorem topBit_is : ∀ c : BitVec 8, c ≠ 0#8 → topBit c < 8 ∧ c.getLsbD (topBit c) = true ∧ (∀ s, s < 8 → topBit c < s → c.getLsbD s = false) := by decide +kernel
/-- A byte in which they do. -/
theorem scan_byte (x y : List (BitVec 8)) (i : Nat) (hx : i < x.length) (hy : i < y.length) (h : x[i] ^^^ y[i] ≠ 0#8) :
    scan (dbit x y) (8 * (i + 1)) = (if (scan (dbit x y) (8 * i)).1 < 0 then ((8 * i + lowBit (x[i] ^^^ y[i]) : Nat) : Int) else (scan (dbit x y) (8 * i)).1, ((8 * i + topBit (x[i] ^^^ y[i]) : Nat) : Int)) := by
  apply scan_eq
  obtain ⟨l1, l2, l3⟩ := lowBit_is _ h
  obtain ⟨t1, t2, t3⟩ := topBit_is _ h
  generalize lowBit (x[i] ^^^ y[i]) = a at *
  generalize topBit (x[i] ^^^ y[i]) = b at *
  have hat : ∀ s, s < 8 → dbit x y (8 * i + s) = (x[i] ^^^ y[i]).getLsbD s := fun s hs => dbit_at x y i s hx hy hs
  have hab : a ≤ b := by
    rcases Nat.lt_or_ge b a with h' | h'
    · rw [l3 b h'] at t2; cases t2
    · exact h'
  have htop : ∀ j, 8 * i + b < j → j < 8 * (i + 1) → dbit x y j = false := fun j h1 h2 => by
    rw [show j = 8 * i + (j - 8 * i) by omega, hat _ (by omega)]; exact t3 _ (by omega) (by omega)
  rcases scan_is (dbit x y) (8 * i) with ⟨hn, e⟩ | ⟨p, q, hpq, hq, hp1, hq1, hlo, hhi, e⟩
  · rw [e, if_pos (by decide)]
    refine .inr ⟨8 * i + a, 8 * i + b, by omega, by omega, by rw [hat a l1]; exact l2, by rw [hat b t1]; exact t2, ?_, htop, rfl⟩
    intro j hj
    rcases Nat.lt_or_ge j (8 * i) with h' | h'
    · exact hn j h'
    · rw [show j = 8 * i + (j - 8 * i) by omega, hat _ (by omega)]; exact l3 _ (by omega)
  · rw [e, if_neg (by simp)]
    exact .inr ⟨p, 8 * i + b, by omega, by omega, hp1, by rw [hat b t1]; exact t2, hlo, htop, rfl⟩
end Go.Proofs.YtcmbdnjcfneinaaGreatDoor.Crc
/-
  The plain law of what sums find: a text with its sum behind it has always one and the same sum, and two texts that differ in at most 32 bits that stand together never have one sum. Conditions: none.
-/
namespace Go.Proofs.YtcmbdnjcfneinaaGreatDoor.Crc

/-! The bits of a text. -/
def gbit (l : List (BitVec 8)) (m : Nat) : Bool := (l.getD (m / 8) 0).getLsbD (m % 8)
theorem dbit_gbit (x y : List (BitVec 8)) (m : Nat) : dbit x y m = (gbit x m != gbit y m) := by
  unfold dbit gbit
  rw [BitVec.getLsbD_xor]
theorem gbit_out (l : List (BitVec 8)) (m : Nat) (h : 8 * l.length ≤ m) : gbit l m = false := by
  unfold gbit
  have : l.getD (m / 8) 0 = 0 := by
    rw [List.getD_eq_getElem?_getD, List.getElem?_eq_none (by omega)]; rfl
  rw [this]; simp
theorem gbit_ext {x y : List (BitVec 8)} (hl : x.length = y.length) (h : ∀ m, m < 8 * x.length → gbit x m = gbit y m) : x = y := by
  apply List.ext_getElem hl
  intro i h1 h2
  apply BitVec.eq_of_getLsbD_eq
  intro s hs
  have := h (8 * i + s) (by omega)
  unfold gbit at this
  rw [show (8 * i + s) / 8 = i by omega, show (8 * i + s) % 8 = s by omega] at this
  simpa [h1, h2] using this
theorem bitsOf_get (c : BitVec 8) (m : Nat) (h : m < 8) : (bitsOf c)[m]? = some (c.getLsbD m) := by simp [bitsOf, h]
theorem bitsOf_length (c : BitVec 8) : (bitsOf c).length = 8 := by simp [bitsOf]
theorem allBits_get (l : List (BitVec 8)) : ∀ m, m < 8 * l.length → (allBits l)[m]? = some (gbit l m) := by
  induction l with
  | nil => intro m h; simp at h
  | cons c l ih =>
    intro m h
    show (bitsOf c ++ allBits l)[m]? = _
    by_cases h8 : m < 8
    · rw [List.getElem?_append_left (by rw [bitsOf_length]; exact h8), bitsOf_get c m h8]
      unfold gbit
      rw [show m / 8 = 0 by omega, show m % 8 = m by omega]
      rfl
    · rw [List.getElem?_append_right (by rw [bitsOf_length]; omega), bitsOf_length, ih (m - 8) (by simp only [List.length_cons] at h; omega)]
      unfold gbit
      rw [show m / 8 = (m - 8) / 8 + 1 by omega, show m % 8 = (m - 8) % 8 by omega]
      rfl

/-! Two texts of as many bytes. -/
def dif : List (BitVec 8) → List (BitVec 8) → List (BitVec 8)
  | [], _ => []
  | _, [] => []
  | a :: x, b :: y => (a ^^^ b) :: dif x y
theorem dif_length : ∀ (x y : List (BitVec 8)), x.length = y.length → (dif x y).length = x.length
  | [], _, _ => rfl
  | _ :: _, [], h => by simp at h
  | a :: x, b :: y, h => by simp only [dif, List.length_cons]; rw [dif_length x y (by simpa using h)]
theorem dif_get : ∀ (x y : List (BitVec 8)) (i : Nat), x.length = y.length → (dif x y).getD i 0 = x.getD i 0 ^^^ y.getD i 0
  | [], [], i, _ => by simp [dif]
  | [], _ :: _, _, h => by simp at h
  | _ :: _, [], _, h => by simp at h
  | a :: x, b :: y, i, h => by
    cases i with
    | zero => simp [dif]
    | succ i => simpa [dif] using dif_get x y i (by simpa using h)
theorem dif_gbit (x y : List (BitVec 8)) (h : x.length = y.length) (m : Nat) : gbit (dif x y) m = dbit x y m := by
  unfold gbit dbit; rw [dif_get x y _ h]
theorem run_dif : ∀ (x y : List (BitVec 8)) (s t : W), x.length = y.length → run s x ^^^ run t y = run (s ^^^ t) (dif x y)
  | [], [], s, t, _ => rfl
  | [], _ :: _, _, _, h => by simp at h
  | _ :: _, [], _, _, h => by simp at h
  | a :: x, b :: y, s, t, h => by
    show run (byte s a) x ^^^ run (byte t b) y = run (byte (s ^^^ t) (a ^^^ b)) (dif x y)
    rw [byte_xor, run_dif x y _ _ (by simpa using h)]

/-- THE THEOREM: texts that differ, and only within 32 bits that stand together, are told apart. -/
theorem told_apart (x y : List (BitVec 8)) (s : W) (p : Nat) (hl : x.length = y.length) (hw : ∀ m, dbit x y m = true → p ≤ m ∧ m < p + 32) (h : run s x = run s y) : x = y := by
  have h0 : run 0#32 (dif x y) = 0#32 := by
    have := run_dif x y s s hl
    rw [h, BitVec.xor_self, BitVec.xor_self] at this
    exact this.symm
  rw [run_bits] at h0
  have hlen : (allBits (dif x y)).length = 8 * x.length := by rw [allBits_length, dif_length x y hl]
  have hget : ∀ m, m < 8 * x.length → (allBits (dif x y))[m]? = some (dbit x y m) := fun m hm => by
    rw [allBits_get _ m (by rw [dif_length x y hl]; exact hm), dif_gbit x y hl]
  generalize allBits (dif x y) = D at *
  have hsplit : D = List.replicate (min p D.length) false ++ (D.drop p).take 32 ++ List.replicate (D.length - (p + 32)) false := by
    apply List.ext_getElem?
    intro m
    by_cases hm : m < D.length
    · rw [hget m (by omega)]
      by_cases h1 : m < p
      · rw [List.append_assoc, List.getElem?_append_left (by simp; omega), List.getElem?_replicate, if_pos (by omega)]
        cases hd : dbit x y m with
        | false => rfl
        | true => have := hw m hd; omega
      · by_cases h2 : m < p + 32
        · rw [List.append_assoc, List.getElem?_append_right (by simp; omega), List.length_replicate, List.getElem?_append_left (by simp; omega), List.getElem?_take, if_pos (by omega), List.getElem?_drop,
            show p + (m - min p D.length) = m by omega, hget m (by omega)]
        · rw [List.getElem?_append_right (by simp; omega), List.getElem?_replicate]
          rw [if_pos (by simp; omega)]
          cases hd : dbit x y m with
          | false => rfl
          | true => have := hw m hd; omega
    · rw [List.getElem?_eq_none (by omega), List.getElem?_eq_none (by simp; omega)]
  rw [hsplit] at h0
  have hz := burst_seen _ _ _ (by simp; omega) h0
  apply gbit_ext hl
  intro m hm
  have hd : dbit x y m = false := by
    cases hd : dbit x y m with
    | false => rfl
    | true =>
      have hb := hw m hd
      have hin : (D.drop p)[m - p]? = some (dbit x y m) := by rw [List.getElem?_drop, show p + (m - p) = m by omega]; exact hget m hm
      have hin2 : ((D.drop p).take 32)[m - p]? = some (dbit x y m) := by rw [List.getElem?_take, if_pos (by omega)]; exact hin
      have := hz _ (List.mem_of_getElem? hin2)
      rw [hd] at this
      exact this
  rw [dbit_gbit] at hd
  revert hd
  cases gbit x m <;> cases gbit y m <;> decide

/-! A text with its sum behind it. -/
def sumBytes (s : W) : List (BitVec 8) := [s.setWidth 8, (s >>> 8).setWidth 8, (s >>> 16).setWidth 8, (s >>> 24).setWidth 8]
def laidL (b : List (BitVec 8)) : List (BitVec 8) := b ++ sumBytes (crc b)
theorem laidL_length (b : List (BitVec 8)) : (laidL b).length = b.length + 4 := by unfold laidL; rw [List.length_append]; rfl
theorem run_sumBytes (y : W) : run 0#32 (sumBytes y) = shn 32 y := by
  refine lin_ext (fun y => run 0#32 (sumBytes y)) (fun y => shn 32 y) (fun x z => ?_) (shn_xor 32) (by decide +kernel) y
  show run 0#32 (sumBytes (x ^^^ z)) = run 0#32 (sumBytes x) ^^^ run 0#32 (sumBytes z)
  rw [run_dif (sumBytes x) (sumBytes z) 0#32 0#32 rfl, BitVec.xor_self]
  congr 1
  simp only [sumBytes, dif, BitVec.ushiftRight_xor_distrib, BitVec.setWidth_xor]
/-- Its sum is always one and the same. -/
theorem run_laid (b : List (BitVec 8)) : run (~~~ 0#32) (laidL b) = shn 32 4294967295#32 := by
  unfold laidL
  rw [run_append, run_split (sumBytes (crc b)), run_sumBytes]
  show shn 32 _ ^^^ shn 32 _ = _
  rw [← shn_xor]
  congr 1
  unfold crc goOn
  rw [not_eq_xor (run _ b), ← BitVec.xor_assoc, BitVec.xor_self, BitVec.zero_xor]
theorem crc_laid (b : List (BitVec 8)) : crc (laidL b) = 558161692#32 := by
  unfold crc goOn
  rw [run_laid]
  decide +kernel

/-! Bits turned. -/
def turnTo (x : List (BitVec 8)) (p : Nat) (B : W) : Nat → List (BitVec 8)
  | 0 => x
  | k + 1 => if B.getLsbD k then (turnTo x p B k).set ((p + k) / 8) ((turnTo x p B k).getD ((p + k) / 8) 0 ^^^ BitVec.twoPow 8 ((p + k) % 8)) else turnTo x p B k
theorem turnTo_length (x : List (BitVec 8)) (p : Nat) (B : W) (k : Nat) : (turnTo x p B k).length = x.length := by
  induction k with
  | zero => rfl
  | succ k ih => simp only [turnTo]; split <;> simp [ih]
theorem gbit_set (l : List (BitVec 8)) (q m : Nat) (hq : q < 8 * l.length) (hm : m ≠ q) : gbit (l.set (q / 8) (l.getD (q / 8) 0 ^^^ BitVec.twoPow 8 (q % 8))) m = gbit l m := by
  unfold gbit
  by_cases e : m / 8 = q / 8
  · rw [e]
    have h1 : q / 8 < l.length := by omega
    have h2 : (l.set (q / 8) (l.getD (q / 8) 0 ^^^ BitVec.twoPow 8 (q % 8))).getD (q / 8) 0 = l.getD (q / 8) 0 ^^^ BitVec.twoPow 8 (q % 8) := by
      rw [List.getD_eq_getElem?_getD, List.getElem?_set_self h1]; rfl
    have h3 : ¬ q % 8 = m % 8 := by omega
    rw [h2, BitVec.getLsbD_xor, BitVec.getLsbD_twoPow]
    simp [h3]
  · have : (l.set (q / 8) (l.getD (q / 8) 0 ^^^ BitVec.twoPow 8 (q % 8))).getD (m / 8) 0 = l.getD (m / 8) 0 := by
      rw [List.getD_eq_getElem?_getD, List.getElem?_set_ne (fun h => e h.symm), ← List.getD_eq_getElem?_getD]
    rw [this]
theorem turnTo_window (x : List (BitVec 8)) (p : Nat) (B : W) (k : Nat) (hk : p + k ≤ 8 * x.length) : ∀ m, dbit x (turnTo x p B k) m = true → p ≤ m ∧ m < p + k := by
  induction k with
  | zero => intro m h; rw [show turnTo x p B 0 = x from rfl, dbit_self] at h; cases h
  | succ k ih =>
    intro m h
    simp only [turnTo] at h
    by_cases hm : m = p + k
    · subst hm; omega
    · have hd : dbit x (turnTo x p B k) m = true := by
        split at h
        · rw [dbit_gbit, gbit_set _ (p + k) m (by rw [turnTo_length]; omega) hm, ← dbit_gbit] at h
          exact h
        · exact h
      have := ih (by omega) m hd
      omega
/-- What Burst answers of a text and of what became of it. -/
theorem burst_window (x y : List (BitVec 8)) (p : Nat) (hl : x.length = y.length) (hw : ∀ m, dbit x y m = true → p ≤ m ∧ m < p + 32) :
    0 ≤ (burst x y).2 ∧ (burst x y).2 ≤ 32 ∧ ((burst x y).2 = 0 ↔ x = y) := by
  unfold burst
  rw [if_neg (by simp [hl])]
  rcases scan_is (dbit x y) (8 * x.length) with ⟨h, e⟩ | ⟨f, l, hfl, hln, hf1, hl1, _, _, e⟩
  · rw [e, if_pos (by decide)]
    refine ⟨by simp, by simp, fun _ => ?_, fun _ => rfl⟩
    apply gbit_ext hl
    intro m hm
    have := h m hm
    rw [dbit_gbit] at this
    revert this
    cases gbit x m <;> cases gbit y m <;> decide
  · rw [e, if_neg (by simp)]
    have h1 := hw f hf1
    have h2 := hw l hl1
    simp only []
    refine ⟨by omega, by omega, fun h => by omega, fun h => ?_⟩
    subst h
    rw [dbit_self] at hf1
    cases hf1
end Go.Proofs.YtcmbdnjcfneinaaGreatDoor.Crc
/-
  A pack's bytes in which at most 32 bits that stand together are turned, behind the version: they are refused, at the sum: the plain law. Conditions: none.
-/
namespace Go.Proofs.YtcmbdnjcfneinaaGreatDoor
open Crc in
theorem byte_same {x y : List Oct} (hl : x.length = y.length) {i : Nat} (h : ∀ s, s < 8 → dbit x y (8 * i + s) = false) : x[i]? = y[i]? := by
  by_cases hi : i < x.length
  · have hi' : i < y.length := by omega
    rw [List.getElem?_eq_getElem hi, List.getElem?_eq_getElem hi']
    congr 1
    apply BitVec.eq_of_getLsbD_eq
    intro s hs
    have h1 := h s hs
    rw [dbit_at x y i s hi hi' hs, BitVec.getLsbD_xor] at h1
    revert h1
    cases x[i].getLsbD s <;> cases y[i].getLsbD s <;> decide
  · rw [List.getElem?_eq_none (by omega), List.getElem?_eq_none (by omega)]
theorem sealedL_run (b : List Oct) : Crc.run (~~~ 0#32) (sealedL b) = Crc.shn 32 4294967295#32 := Crc.run_laid b
theorem dec_burst {p : Pk} (h : chk p = 0) (hi : Ints64 p) {c : List Oct} {at_ : Nat} (ha : 40 ≤ at_) (hl : (packE p).length = c.length) (hw : ∀ m, Crc.dbit (packE p) c m = true → at_ ≤ m ∧ m < at_ + 32) (hne : packE p ≠ c) :
    decP c = (zeroPk, 53, c.length - 4) := by
  obtain ⟨hg, hs⟩ := good_of_chk h hi
  have hpl := packE_length p
  have h37 : 37 ≤ sizeP p := by unfold sizeP; omega
  have hfalse : ∀ m, m < at_ → Crc.dbit (packE p) c m = false := fun m hm => by
    cases hd : Crc.dbit (packE p) c m with
    | false => rfl
    | true => have := (hw m hd).1; omega
  have hg5 : ∀ i, i < 5 → c[i]? = headP[i]? := fun i h5 => by
    rw [← byte_same hl (fun s hs => hfalse _ (by omega))]
    unfold packE sealedL
    rw [List.append_assoc, List.getElem?_append_left (by show i < 5; exact h5)]
  have hsum : c.drop (c.length - 4) ≠ le4 (Crc.crc (c.take (c.length - 4))) := by
    intro e
    apply hne
    have hc : c = sealedL (c.take (c.length - 4)) := by unfold sealedL; rw [← e, List.take_append_drop]
    refine Crc.told_apart (packE p) c (~~~ 0#32) at_ hl hw ?_
    rw [hc]
    unfold packE
    rw [sealedL_run, sealedL_run]
  have h0 : headC c = (53, c.length - 4) := by
    unfold headC
    rw [if_neg (by omega), if_neg (by omega), hg5 0 (by decide), hg5 1 (by decide), hg5 2 (by decide), hg5 3 (by decide), hg5 4 (by decide)]
    rw [if_pos hsum]
    simp [headP]
  unfold decP
  rw [h0, if_pos (by simp)]
end Go.Proofs.YtcmbdnjcfneinaaGreatDoor
