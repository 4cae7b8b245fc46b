/-
  The plain law of sums' Join: a product of powers does many shifts at once; a step that is told by what each bit becomes does what the shifts do. Conditions: none.
-/
import Derived.Test.YtcdolkifahlakaaCrc
namespace Go.Proofs.Ytcdolkifahlakaa.Crc

/-- The product, so far: the first j powers. -/
def tmTo (a b : W) : Nat → W
  | 0 => 0#32
  | j + 1 => tmTo a b j ^^^ (if a.getLsbD (31 - j) then shn j b else 0#32)
def tm (a b : W) : W := tmTo a b 32
theorem tmTo_left (a a' b : W) (j : Nat) : tmTo (a ^^^ a') b j = tmTo a b j ^^^ tmTo a' b j := by
  induction j with
  | zero => simp [tmTo]
  | succ j ih =>
    simp only [tmTo, ih, BitVec.getLsbD_xor]
    cases a.getLsbD (31 - j) <;> cases a'.getLsbD (31 - j) <;> simp only [Bool.xor_false, Bool.xor_true, Bool.not_false, Bool.not_true, Bool.false_eq_true, if_true, if_false, BitVec.xor_zero]
    · ac_rfl
    · ac_rfl
    · rw [show tmTo a b j ^^^ shn j b ^^^ (tmTo a' b j ^^^ shn j b) = (tmTo a b j ^^^ tmTo a' b j) ^^^ (shn j b ^^^ shn j b) from by ac_rfl, BitVec.xor_self, BitVec.xor_zero]
theorem tmTo_right (a b b' : W) (j : Nat) : tmTo a (b ^^^ b') j = tmTo a b j ^^^ tmTo a b' j := by
  induction j with
  | zero => simp [tmTo]
  | succ j ih =>
    simp only [tmTo, ih, shn_xor]
    cases a.getLsbD (31 - j) <;> simp only [Bool.false_eq_true, if_true, if_false, BitVec.xor_zero]
    ac_rfl
theorem tmTo_pow (k : Nat) (hk : k < 32) (b : W) : ∀ j, j ≤ 32 → tmTo (BitVec.twoPow 32 k) b j = if 31 - k < j then shn (31 - k) b else 0#32 := by
  intro j
  induction j with
  | zero => intro _; rw [if_neg (by omega)]; rfl
  | succ j ih =>
    intro hj
    simp only [tmTo]
    have e1 : (BitVec.twoPow 32 k).getLsbD (31 - j) = decide (k = 31 - j) := by rw [BitVec.getLsbD_twoPow]; simp [hk]
    rw [ih (by omega), e1]
    by_cases h : k = 31 - j
    · rw [if_neg (by omega), if_pos (by simp [h]), if_pos (by omega), BitVec.zero_xor, show 31 - k = j by omega]
    · rw [if_neg (c := decide (k = 31 - j) = true) (by simp [h]), BitVec.xor_zero]
      by_cases h' : 31 - k < j
      · rw [if_pos h', if_pos (by omega)]
      · rw [if_neg h', if_neg (by omega)]
theorem tm_pow (k : Nat) (hk : k < 32) (b : W) : tm (BitVec.twoPow 32 k) b = shn (31 - k) b := by
  unfold tm; rw [tmTo_pow k hk b 32 (Nat.le_refl _), if_pos (by omega)]
theorem sh_pow (k : Nat) (h0 : 0 < k) (hk : k < 32) : sh (BitVec.twoPow 32 k) = BitVec.twoPow 32 (k - 1) := by
  have h : ∀ k, k < 32 → 0 < k → sh (BitVec.twoPow 32 k) = BitVec.twoPow 32 (k - 1) := by decide +kernel
  exact h k hk h0
theorem tm_poly (b : W) : tm poly b = shn 32 b :=
  lin_ext (fun b => tm poly b) (fun b => shn 32 b) (fun x y => tmTo_right _ _ _ _) (shn_xor 32) (by decide +kernel) b
/-- One power more on the left is one shift more. -/
theorem tm_sh (p b : W) : tm (sh p) b = sh (tm p b) := by
  refine lin_ext (fun p => tm (sh p) b) (fun p => sh (tm p b)) (fun x y => ?_) (fun x y => ?_) (fun k hk => ?_) p
  · show tm (sh (x ^^^ y)) b = _; rw [sh_xor]; exact tmTo_left _ _ _ _
  · show sh (tm (x ^^^ y) b) = _; rw [← sh_xor]; exact congrArg sh (tmTo_left _ _ _ _)
  · show tm (sh (BitVec.twoPow 32 k)) b = sh (tm (BitVec.twoPow 32 k) b)
    rw [tm_pow k hk, ← shn_succ']
    by_cases h0 : k = 0
    · subst h0
      rw [show sh (BitVec.twoPow 32 0) = poly from by decide, tm_poly]
    · rw [sh_pow k (by omega) hk, tm_pow (k - 1) (by omega), show 31 - (k - 1) = 31 - k + 1 by omega]
theorem tm_shn (n : Nat) : ∀ p b : W, tm (shn n p) b = shn n (tm p b) := by
  induction n with
  | zero => intro p b; rfl
  | succ n ih => intro p b; simp only [shn]; rw [ih, tm_sh]
/-- p is the power that does n shifts. -/
def Pow (p : W) (n : Nat) : Prop := ∀ b, tm p b = shn n b
theorem pow_eight : Pow 8388608#32 8 := fun b => by
  have := tm_pow 23 (by omega) b
  rw [show BitVec.twoPow 32 23 = 8388608#32 from by decide] at this
  exact this
theorem Pow.square {p : W} {n : Nat} (h : Pow p n) : Pow (tm p p) (n + n) := fun b => by
  rw [h p, tm_shn, h b, shn_add]

/-- The bits below k. -/
def lowTo (x : W) : Nat → W
  | 0 => 0#32
  | k + 1 => lowTo x k ^^^ (if x.getLsbD k then BitVec.twoPow 32 k else 0#32)
theorem lowTo_bit (x : W) (k i : Nat) : (lowTo x k).getLsbD i = (decide (i < k) && x.getLsbD i) := by
  induction k with
  | zero => simp [lowTo]
  | succ k ih =>
    simp only [lowTo, BitVec.getLsbD_xor, ih]
    by_cases hi : i = k
    · subst hi
      cases hb : x.getLsbD i with
      | false => simp
      | true =>
        have : i < 32 := by
          rcases Nat.lt_or_ge i 32 with h | h
          · exact h
          · rw [BitVec.getLsbD_of_ge x i h] at hb; cases hb
        simp [this]
    · have h2 : (if x.getLsbD k then BitVec.twoPow 32 k else 0#32).getLsbD i = false := by
        split
        · rw [BitVec.getLsbD_twoPow]; have : ¬ k = i := fun e => hi e.symm; simp [this]
        · simp
      rw [h2, Bool.xor_false]
      have : (i < k) ↔ (i < k + 1) := by omega
      simp [this]
theorem lowTo_all (x : W) : lowTo x 32 = x := by
  apply BitVec.eq_of_getLsbD_eq
  intro i hi
  rw [lowTo_bit]; simp [hi]
/-- What a number becomes by n shifts, bit by bit. -/
def doneTo (n : Nat) (x : W) : Nat → W
  | 0 => 0#32
  | k + 1 => doneTo n x k ^^^ (if x.getLsbD k then shn n (BitVec.twoPow 32 k) else 0#32)
theorem doneTo_low (n : Nat) (x : W) (k : Nat) : doneTo n x k = shn n (lowTo x k) := by
  induction k with
  | zero => simp [doneTo, lowTo, shn_zero]
  | succ k ih =>
    simp only [doneTo, lowTo, shn_xor, ih]
    split
    · rfl
    · rw [shn_zero]
theorem doneTo_all (n : Nat) (x : W) : doneTo n x 32 = shn n x := by rw [doneTo_low, lowTo_all]
end Go.Proofs.Ytcdolkifahlakaa.Crc
