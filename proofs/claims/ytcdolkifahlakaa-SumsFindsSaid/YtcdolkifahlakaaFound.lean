/-
  The plain law of what sums find: a text with its sum behind it has always one and the same sum, and two texts that differ in at most 32 bits that stand together never have one sum. Conditions: none.
-/
import Derived.Test.YtcdolkifahlakaaBurst
namespace Go.Proofs.Ytcdolkifahlakaa.Crc

/-! The bits of a text. -/
def gbit (l : List (BitVec 8)) (m : Nat) : Bool := (l.getD (m / 8) 0).getLsbD (m % 8)
theorem dbit_gbit (x y : List (BitVec 8)) (m : Nat) : dbit x y m = (gbit x m != gbit y m) := by
  unfold dbit gbit
  rw [BitVec.getLsbD_xor]
theorem gbit_out (l : List (BitVec 8)) (m : Nat) (h : 8 * l.length ≤ m) : gbit l m = false := by
  unfold gbit
  have : l.getD (m / 8) 0 = 0 := by
    rw [List.getD_eq_getElem?_getD, List.getElem?_eq_none (by omega)]; rfl
  rw [this]; simp
theorem gbit_ext {x y : List (BitVec 8)} (hl : x.length = y.length) (h : ∀ m, m < 8 * x.length → gbit x m = gbit y m) : x = y := by
  apply List.ext_getElem hl
  intro i h1 h2
  apply BitVec.eq_of_getLsbD_eq
  intro s hs
  have := h (8 * i + s) (by omega)
  unfold gbit at this
  rw [show (8 * i + s) / 8 = i by omega, show (8 * i + s) % 8 = s by omega] at this
  simpa [h1, h2] using this
theorem bitsOf_get (c : BitVec 8) (m : Nat) (h : m < 8) : (bitsOf c)[m]? = some (c.getLsbD m) := by simp [bitsOf, h]
theorem bitsOf_length (c : BitVec 8) : (bitsOf c).length = 8 := by simp [bitsOf]
theorem allBits_get (l : List (BitVec 8)) : ∀ m, m < 8 * l.length → (allBits l)[m]? = some (gbit l m) := by
  induction l with
  | nil => intro m h; simp at h
  | cons c l ih =>
    intro m h
    show (bitsOf c ++ allBits l)[m]? = _
    by_cases h8 : m < 8
    · rw [List.getElem?_append_left (by rw [bitsOf_length]; exact h8), bitsOf_get c m h8]
      unfold gbit
      rw [show m / 8 = 0 by omega, show m % 8 = m by omega]
      rfl
    · rw [List.getElem?_append_right (by rw [bitsOf_length]; omega), bitsOf_length, ih (m - 8) (by simp only [List.length_cons] at h; omega)]
      unfold gbit
      rw [show m / 8 = (m - 8) / 8 + 1 by omega, show m % 8 = (m - 8) % 8 by omega]
      rfl

/-! Two texts of as many bytes. -/
def dif : List (BitVec 8) → List (BitVec 8) → List (BitVec 8)
  | [], _ => []
  | _, [] => []
  | a :: x, b :: y => (a ^^^ b) :: dif x y
theorem dif_length : ∀ (x y : List (BitVec 8)), x.length = y.length → (dif x y).length = x.length
  | [], _, _ => rfl
  | _ :: _, [], h => by simp at h
  | a :: x, b :: y, h => by simp only [dif, List.length_cons]; rw [dif_length x y (by simpa using h)]
theorem dif_get : ∀ (x y : List (BitVec 8)) (i : Nat), x.length = y.length → (dif x y).getD i 0 = x.getD i 0 ^^^ y.getD i 0
  | [], [], i, _ => by simp [dif]
  | [], _ :: _, _, h => by simp at h
  | _ :: _, [], _, h => by simp at h
  | a :: x, b :: y, i, h => by
    cases i with
    | zero => simp [dif]
    | succ i => simpa [dif] using dif_get x y i (by simpa using h)
theorem dif_gbit (x y : List (BitVec 8)) (h : x.length = y.length) (m : Nat) : gbit (dif x y) m = dbit x y m := by
  unfold gbit dbit; rw [dif_get x y _ h]
theorem run_dif : ∀ (x y : List (BitVec 8)) (s t : W), x.length = y.length → run s x ^^^ run t y = run (s ^^^ t) (dif x y)
  | [], [], s, t, _ => rfl
  | [], _ :: _, _, _, h => by simp at h
  | _ :: _, [], _, _, h => by simp at h
  | a :: x, b :: y, s, t, h => by
    show run (byte s a) x ^^^ run (byte t b) y = run (byte (s ^^^ t) (a ^^^ b)) (dif x y)
    rw [byte_xor, run_dif x y _ _ (by simpa using h)]

/-- THE THEOREM: texts that differ, and only within 32 bits that stand together, are told apart. -/
theorem told_apart (x y : List (BitVec 8)) (s : W) (p : Nat) (hl : x.length = y.length) (hw : ∀ m, dbit x y m = true → p ≤ m ∧ m < p + 32) (h : run s x = run s y) : x = y := by
  have h0 : run 0#32 (dif x y) = 0#32 := by
    have := run_dif x y s s hl
    rw [h, BitVec.xor_self, BitVec.xor_self] at this
    exact this.symm
  rw [run_bits] at h0
  have hlen : (allBits (dif x y)).length = 8 * x.length := by rw [allBits_length, dif_length x y hl]
  have hget : ∀ m, m < 8 * x.length → (allBits (dif x y))[m]? = some (dbit x y m) := fun m hm => by
    rw [allBits_get _ m (by rw [dif_length x y hl]; exact hm), dif_gbit x y hl]
  generalize allBits (dif x y) = D at *
  have hsplit : D = List.replicate (min p D.length) false ++ (D.drop p).take 32 ++ List.replicate (D.length - (p + 32)) false := by
    apply List.ext_getElem?
    intro m
    by_cases hm : m < D.length
    · rw [hget m (by omega)]
      by_cases h1 : m < p
      · rw [List.append_assoc, List.getElem?_append_left (by simp; omega), List.getElem?_replicate, if_pos (by omega)]
        cases hd : dbit x y m with
        | false => rfl
        | true => have := hw m hd; omega
      · by_cases h2 : m < p + 32
        · rw [List.append_assoc, List.getElem?_append_right (by simp; omega), List.length_replicate, List.getElem?_append_left (by simp; omega), List.getElem?_take, if_pos (by omega), List.getElem?_drop,
            show p + (m - min p D.length) = m by omega, hget m (by omega)]
        · rw [List.getElem?_append_right (by simp; omega), List.getElem?_replicate]
          rw [if_pos (by simp; omega)]
          cases hd : dbit x y m with
          | false => rfl
          | true => have := hw m hd; omega
    · rw [List.getElem?_eq_none (by omega), List.getElem?_eq_none (by simp; omega)]
  rw [hsplit] at h0
  have hz := burst_seen _ _ _ (by simp; omega) h0
  apply gbit_ext hl
  intro m hm
  have hd : dbit x y m = false := by
    cases hd : dbit x y m with
    | false => rfl
    | true =>
      have hb := hw m hd
      have hin : (D.drop p)[m - p]? = some (dbit x y m) := by rw [List.getElem?_drop, show p + (m - p) = m by omega]; exact hget m hm
      have hin2 : ((D.drop p).take 32)[m - p]? = some (dbit x y m) := by rw [List.getElem?_take, if_pos (by omega)]; exact hin
      have := hz _ (List.mem_of_getElem? hin2)
      rw [hd] at this
      exact this
  rw [dbit_gbit] at hd
  revert hd
  cases gbit x m <;> cases gbit y m <;> decide

/-! A text with its sum behind it. -/
def sumBytes (s : W) : List (BitVec 8) := [s.setWidth 8, (s >>> 8).setWidth 8, (s >>> 16).setWidth 8, (s >>> 24).setWidth 8]
def laidL (b : List (BitVec 8)) : List (BitVec 8) := b ++ sumBytes (crc b)
theorem laidL_length (b : List (BitVec 8)) : (laidL b).length = b.length + 4 := by unfold laidL; rw [List.length_append]; rfl
theorem run_sumBytes (y : W) : run 0#32 (sumBytes y) = shn 32 y := by
  refine lin_ext (fun y => run 0#32 (sumBytes y)) (fun y => shn 32 y) (fun x z => ?_) (shn_xor 32) (by decide +kernel) y
  show run 0#32 (sumBytes (x ^^^ z)) = run 0#32 (sumBytes x) ^^^ run 0#32 (sumBytes z)
  rw [run_dif (sumBytes x) (sumBytes z) 0#32 0#32 rfl, BitVec.xor_self]
  congr 1
  simp only [sumBytes, dif, BitVec.ushiftRight_xor_distrib, BitVec.setWidth_xor]
/-- Its sum is always one and the same. -/
theorem run_laid (b : List (BitVec 8)) : run (~~~ 0#32) (laidL b) = shn 32 4294967295#32 := by
  unfold laidL
  rw [run_append, run_split (sumBytes (crc b)), run_sumBytes]
  show shn 32 _ ^^^ shn 32 _ = _
  rw [← shn_xor]
  congr 1
  unfold crc goOn
  rw [not_eq_xor (run _ b), ← BitVec.xor_assoc, BitVec.xor_self, BitVec.zero_xor]
theorem crc_laid (b : List (BitVec 8)) : crc (laidL b) = 558161692#32 := by
  unfold crc goOn
  rw [run_laid]
  decide +kernel

/-! Bits turned. -/
def turnTo (x : List (BitVec 8)) (p : Nat) (B : W) : Nat → List (BitVec 8)
  | 0 => x
  | k + 1 => if B.getLsbD k then (turnTo x p B k).set ((p + k) / 8) ((turnTo x p B k).getD ((p + k) / 8) 0 ^^^ BitVec.twoPow 8 ((p + k) % 8)) else turnTo x p B k
theorem turnTo_length (x : List (BitVec 8)) (p : Nat) (B : W) (k : Nat) : (turnTo x p B k).length = x.length := by
  induction k with
  | zero => rfl
  | succ k ih => simp only [turnTo]; split <;> simp [ih]
theorem gbit_set (l : List (BitVec 8)) (q m : Nat) (hq : q < 8 * l.length) (hm : m ≠ q) : gbit (l.set (q / 8) (l.getD (q / 8) 0 ^^^ BitVec.twoPow 8 (q % 8))) m = gbit l m := by
  unfold gbit
  by_cases e : m / 8 = q / 8
  · rw [e]
    have h1 : q / 8 < l.length := by omega
    have h2 : (l.set (q / 8) (l.getD (q / 8) 0 ^^^ BitVec.twoPow 8 (q % 8))).getD (q / 8) 0 = l.getD (q / 8) 0 ^^^ BitVec.twoPow 8 (q % 8) := by
      rw [List.getD_eq_getElem?_getD, List.getElem?_set_self h1]; rfl
    have h3 : ¬ q % 8 = m % 8 := by omega
    rw [h2, BitVec.getLsbD_xor, BitVec.getLsbD_twoPow]
    simp [h3]
  · have : (l.set (q / 8) (l.getD (q / 8) 0 ^^^ BitVec.twoPow 8 (q % 8))).getD (m / 8) 0 = l.getD (m / 8) 0 := by
      rw [List.getD_eq_getElem?_getD, List.getElem?_set_ne (fun h => e h.symm), ← List.getD_eq_getElem?_getD]
    rw [this]
theorem turnTo_window (x : List (BitVec 8)) (p : Nat) (B : W) (k : Nat) (hk : p + k ≤ 8 * x.length) : ∀ m, dbit x (turnTo x p B k) m = true → p ≤ m ∧ m < p + k := by
  induction k with
  | zero => intro m h; rw [show turnTo x p B 0 = x from rfl, dbit_self] at h; cases h
  | succ k ih =>
    intro m h
    simp only [turnTo] at h
    by_cases hm : m = p + k
    · subst hm; omega
    · have hd : dbit x (turnTo x p B k) m = true := by
        split at h
        · rw [dbit_gbit, gbit_set _ (p + k) m (by rw [turnTo_length]; omega) hm, ← dbit_gbit] at h
          exact h
        · exact h
      have := ih (by omega) m hd
      omega
/-- What Burst answers of a text and of what became of it. -/
theorem burst_window (x y : List (BitVec 8)) (p : Nat) (hl : x.length = y.length) (hw : ∀ m, dbit x y m = true → p ≤ m ∧ m < p + 32) :
    0 ≤ (burst x y).2 ∧ (burst x y).2 ≤ 32 ∧ ((burst x y).2 = 0 ↔ x = y) := by
  unfold burst
  rw [if_neg (by simp [hl])]
  rcases scan_is (dbit x y) (8 * x.length) with ⟨h, e⟩ | ⟨f, l, hfl, hln, hf1, hl1, _, _, e⟩
  · rw [e, if_pos (by decide)]
    refine ⟨by simp, by simp, fun _ => ?_, fun _ => rfl⟩
    apply gbit_ext hl
    intro m hm
    have := h m hm
    rw [dbit_gbit] at this
    revert this
    cases gbit x m <;> cases gbit y m <;> decide
  · rw [e, if_neg (by simp)]
    have h1 := hw f hf1
    have h2 := hw l hl1
    simp only []
    refine ⟨by omega, by omega, fun h => by omega, fun h => ?_⟩
    subst h
    rw [dbit_self] at hf1
    cases hf1
end Go.Proofs.Ytcdolkifahlakaa.Crc
