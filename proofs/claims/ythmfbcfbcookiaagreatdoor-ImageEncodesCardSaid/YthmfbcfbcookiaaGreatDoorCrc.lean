/-
  The plain law of sums: what the steps of CRC-32 do to words of 32 bits: they are linear, they can be turned back, eight of them are one look into the table, and a product of powers does many of them at once. Conditions: none.
-/
namespace Go.Proofs.YthmfbcfbcookiaaGreatDoor.Crc

abbrev W := BitVec 32
def poly : W := 3988292384#32

/-- One shift. -/
def sh (x : W) : W := (x >>> 1) ^^^ (if x.getLsbD 0 then poly else 0#32)
/-- n shifts. -/
def shn : Nat → W → W
  | 0, x => x
  | n + 1, x => shn n (sh x)

theorem sh_xor (x y : W) : sh (x ^^^ y) = sh x ^^^ sh y := by
  unfold sh
  rw [BitVec.ushiftRight_xor_distrib, BitVec.getLsbD_xor]
  generalize x >>> 1 = a
  generalize y >>> 1 = b
  cases x.getLsbD 0 <;> cases y.getLsbD 0 <;> simp only [Bool.xor_false, Bool.xor_true, Bool.not_false, Bool.not_true, Bool.false_eq_true, if_true, if_false, BitVec.xor_zero]
  · ac_rfl
  · ac_rfl
  · rw [show a ^^^ poly ^^^ (b ^^^ poly) = (a ^^^ b) ^^^ (poly ^^^ poly) from by ac_rfl, BitVec.xor_self, BitVec.xor_zero]
theorem sh_zero : sh 0#32 = 0#32 := by decide
theorem shn_xor (n : Nat) : ∀ x y : W, shn n (x ^^^ y) = shn n x ^^^ shn n y := by
  induction n with
  | zero => intro x y; rfl
  | succ n ih => intro x y; simp only [shn]; rw [sh_xor, ih]
theorem shn_zero (n : Nat) : shn n 0#32 = 0#32 := by
  induction n with
  | zero => rfl
  | succ n ih => simp only [shn]; rw [sh_zero, ih]
theorem shn_add (m n : Nat) : ∀ x : W, shn (m + n) x = shn n (shn m x) := by
  induction m with
  | zero => intro x; simp [shn]
  | succ m ih => intro x; rw [Nat.succ_add]; simp only [shn]; exact ih _
theorem shn_succ' (n : Nat) (x : W) : shn (n + 1) x = sh (shn n x) := by rw [shn_add n 1]; rfl
theorem shn_comm (m n : Nat) (x : W) : shn m (shn n x) = shn n (shn m x) := by rw [← shn_add, ← shn_add, Nat.add_comm]
theorem shn_mul (m n : Nat) (x : W) : shn (m * (n + 1)) x = shn (m * n) (shn m x) := by
  rw [show m * (n + 1) = m + m * n by rw [Nat.mul_succ, Nat.add_comm], shn_add]

/-- Two linear maps that agree on each single bit are one. -/
theorem lin_ext (L M : W → W) (hL : ∀ x y, L (x ^^^ y) = L x ^^^ L y) (hM : ∀ x y, M (x ^^^ y) = M x ^^^ M y)
    (h : ∀ k, k < 32 → L (BitVec.twoPow 32 k) = M (BitVec.twoPow 32 k)) : ∀ x, L x = M x := by
  have h0 : ∀ (F : W → W), (∀ x y, F (x ^^^ y) = F x ^^^ F y) → F 0#32 = 0#32 := fun F hF => by
    have := hF 0#32 0#32
    simp only [BitVec.xor_self] at this
    exact this
  have key : ∀ m, m ≤ 32 → ∀ x : W, (∀ i, m ≤ i → x.getLsbD i = false) → L x = M x := by
    intro m
    induction m with
    | zero =>
      intro _ x hx
      have e : x = 0#32 := by
        apply BitVec.eq_of_getLsbD_eq
        intro i _
        rw [hx i (Nat.zero_le _)]; simp
      rw [e, h0 L hL, h0 M hM]
    | succ m ih =>
      intro hm x hx
      by_cases hb : x.getLsbD m = true
      · have e : x = (x ^^^ BitVec.twoPow 32 m) ^^^ BitVec.twoPow 32 m := by rw [BitVec.xor_assoc, BitVec.xor_self, BitVec.xor_zero]
        have hlow : ∀ i, m ≤ i → (x ^^^ BitVec.twoPow 32 m).getLsbD i = false := by
          intro i hi
          rw [BitVec.getLsbD_xor, BitVec.getLsbD_twoPow]
          rcases Nat.eq_or_lt_of_le hi with rfl | hlt
          · simp [hb]; omega
          · rw [hx i hlt]; simp; omega
        rw [e, hL, hM, ih (by omega) _ hlow, h m (by omega)]
      · refine ih (by omega) x ?_
        intro i hi
        rcases Nat.eq_or_lt_of_le hi with rfl | hlt
        · simpa using hb
        · exact hx i hlt
  intro x
  exact key 32 (Nat.le_refl _) x (fun i hi => BitVec.getLsbD_of_ge x i hi)

/-- Eight shifts are one look into the table. -/
theorem shn8_look (x : W) : shn 8 x = shn 8 (x &&& 255#32) ^^^ (x >>> 8) := by
  refine lin_ext (fun x => shn 8 x) (fun x => shn 8 (x &&& 255#32) ^^^ (x >>> 8)) (shn_xor 8) ?_ (by decide +kernel) x
  intro a b
  show shn 8 ((a ^^^ b) &&& 255#32) ^^^ ((a ^^^ b) >>> 8) = _
  have e : (a ^^^ b) &&& 255#32 = (a &&& 255#32) ^^^ (b &&& 255#32) := by
    apply BitVec.eq_of_getLsbD_eq
    intro i _
    simp only [BitVec.getLsbD_and, BitVec.getLsbD_xor]
    cases a.getLsbD i <;> cases b.getLsbD i <;> cases (255#32 : W).getLsbD i <;> rfl
  rw [BitVec.ushiftRight_xor_distrib, e, shn_xor]
  ac_rfl

/-- A byte as a word. -/
def wide (c : BitVec 8) : W := c.setWidth 32
theorem wide_toNat (c : BitVec 8) : (wide c).toNat = c.toNat := by
  unfold wide; rw [BitVec.toNat_setWidth]; exact Nat.mod_eq_of_lt (by have := c.isLt; omega)
theorem wide_high (c : BitVec 8) : wide c >>> 8 = 0#32 := by
  apply BitVec.eq_of_toNat_eq
  rw [BitVec.toNat_ushiftRight, wide_toNat]
  have := c.isLt
  simp [Nat.shiftRight_eq_div_pow]; omega

/-- One byte more. -/
def byte (x : W) (c : BitVec 8) : W := shn 8 (x ^^^ wide c)
theorem byte_look (x : W) (c : BitVec 8) : byte x c = shn 8 ((x ^^^ wide c) &&& 255#32) ^^^ (x >>> 8) := by
  unfold byte
  rw [shn8_look, BitVec.ushiftRight_xor_distrib, wide_high, BitVec.xor_zero]
theorem look_toNat (x : W) (c : BitVec 8) : ((x ^^^ wide c) &&& 255#32).toNat = (x.toNat % 256) ^^^ c.toNat := by
  rw [BitVec.toNat_and, BitVec.toNat_xor, wide_toNat, show (255#32 : W).toNat = 2 ^ 8 - 1 from rfl, Nat.and_two_pow_sub_one_eq_mod, Nat.xor_mod_two_pow, show (2 : Nat) ^ 8 = 256 from rfl]
  have := c.isLt
  rw [Nat.mod_eq_of_lt this]

/-- All bytes of a text. -/
def run (x : W) (b : List (BitVec 8)) : W := b.foldl byte x
theorem run_append (x : W) (a b : List (BitVec 8)) : run x (a ++ b) = run (run x a) b := by unfold run; rw [List.foldl_append]
theorem run_snoc (x : W) (a : List (BitVec 8)) (c : BitVec 8) : run x (a ++ [c]) = byte (run x a) c := by unfold run; rw [List.foldl_append]; rfl
theorem byte_xor (x y : W) (c d : BitVec 8) : byte (x ^^^ y) (c ^^^ d) = byte x c ^^^ byte y d := by
  unfold byte
  rw [← shn_xor]
  congr 1
  unfold wide
  rw [BitVec.setWidth_xor]
  ac_rfl
/-- What comes first, and what comes behind, are put together. -/
theorem run_split (b : List (BitVec 8)) : ∀ x : W, run x b = shn (8 * b.length) x ^^^ run 0#32 b := by
  induction b with
  | nil => intro x; simp [run, shn]
  | cons c b ih =>
    intro x
    show run (byte x c) b = _ ^^^ run (byte 0#32 c) b
    rw [ih (byte x c), ih (byte 0#32 c)]
    have e : byte x c = shn 8 x ^^^ byte 0#32 c := by
      unfold byte; rw [shn_xor, BitVec.zero_xor]
    rw [e, shn_xor, List.length_cons, shn_mul]
    simp only [BitVec.xor_assoc]

/-- The sum goes on. -/
def goOn (s : W) (b : List (BitVec 8)) : W := ~~~ run (~~~ s) b
def crc (b : List (BitVec 8)) : W := goOn 0#32 b
theorem goOn_append (s : W) (a b : List (BitVec 8)) : goOn s (a ++ b) = goOn (goOn s a) b := by
  unfold goOn; rw [run_append, BitVec.not_not]
theorem not_eq_xor (x : W) : ~~~ x = x ^^^ 4294967295#32 := by
  apply BitVec.eq_of_getLsbD_eq
  intro i hi
  rw [BitVec.getLsbD_not, BitVec.getLsbD_xor]
  have : (4294967295#32 : W).getLsbD i = true := by
    have h : ∀ k, k < 32 → (4294967295#32 : W).getLsbD k = true := by decide
    exact h i hi
  rw [this]; simp [hi]
/-- Sums are joined. -/
def join (a b : W) (n : Nat) : W := shn (8 * n) a ^^^ b
theorem join_crc (a : W) (b : List (BitVec 8)) : join a (crc b) b.length = goOn a b := by
  unfold join crc goOn
  rw [run_split b (~~~ a), run_split b (~~~ 0#32), not_eq_xor a, shn_xor, BitVec.not_zero]
  simp only [not_eq_xor]
  rw [show BitVec.allOnes 32 = 4294967295#32 from rfl]
  have e : ∀ p q r o : W, p ^^^ (q ^^^ r ^^^ o) = p ^^^ q ^^^ r ^^^ o := fun p q r o => by simp only [BitVec.xor_assoc]
  rw [e]
theorem join_assoc (x y z : W) (m n : Nat) : join (join x y m) z n = join x (join y z n) (m + n) := by
  unfold join
  rw [shn_xor, ← shn_add, Nat.mul_add, BitVec.xor_assoc]

/-! The shifts can be turned back. -/
theorem sh_inj0 (x : W) (h : sh x = 0#32) : x = 0#32 := by
  unfold sh at h
  have h31 : ∀ y : W, (y >>> 1).getLsbD 31 = false := by intro y; rw [BitVec.getLsbD_ushiftRight]; exact BitVec.getLsbD_of_ge y _ (by omega)
  have hx0 : x.getLsbD 0 = false := by
    cases hb : x.getLsbD 0 with
    | false => rfl
    | true =>
      have := congrArg (fun y => BitVec.getLsbD y 31) h
      simp only [hb, if_true] at this
      rw [BitVec.getLsbD_xor, h31] at this
      have hp : poly.getLsbD 31 = true := by decide
      rw [hp] at this
      simp at this
  rw [hx0] at h
  simp only [Bool.false_eq_true, if_false, BitVec.xor_zero] at h
  apply BitVec.eq_of_getLsbD_eq
  intro i _
  cases i with
  | zero => rw [hx0]; simp
  | succ i =>
    have := congrArg (fun y => BitVec.getLsbD y i) h
    simp only [BitVec.getLsbD_ushiftRight] at this
    rw [Nat.add_comm] at this
    rw [this]; simp
theorem shn_inj0 (n : Nat) : ∀ x : W, shn n x = 0#32 → x = 0#32 := by
  induction n with
  | zero => intro x h; exact h
  | succ n ih => intro x h; exact sh_inj0 x (ih _ h)

/-- A bit more. -/
def bitStep (x : W) (d : Bool) : W := sh (x ^^^ (if d then 1#32 else 0#32))
def bitRun (x : W) (l : List Bool) : W := l.foldl bitStep x
theorem bitRun_append (x : W) (a b : List Bool) : bitRun x (a ++ b) = bitRun (bitRun x a) b := by unfold bitRun; rw [List.foldl_append]
/-- Bits as a word, the first one the lowest. -/
def val : List Bool → W
  | [] => 0#32
  | d :: l => (val l <<< 1) ^^^ (if d then 1#32 else 0#32)
theorem sh_shl (v : W) (h : v.getLsbD 31 = false) : sh (v <<< 1) = v := by
  unfold sh
  have h0 : (v <<< 1).getLsbD 0 = false := by rw [BitVec.getLsbD_shiftLeft]; simp
  rw [h0]
  simp only [Bool.false_eq_true, if_false, BitVec.xor_zero]
  apply BitVec.eq_of_getLsbD_eq
  intro i hi
  rw [BitVec.getLsbD_ushiftRight, BitVec.getLsbD_shiftLeft]
  by_cases h31 : i = 31
  · subst h31; rw [h]; simp
  · have : 1 + i < 32 := by omega
    simp [this]
theorem val_high (l : List Bool) : ∀ i, l.length ≤ i → (val l).getLsbD i = false := by
  induction l with
  | nil => intro i _; simp [val]
  | cons d l ih =>
    intro i hi
    simp only [val, List.length_cons] at *
    rw [BitVec.getLsbD_xor, BitVec.getLsbD_shiftLeft]
    have h1 : (val l).getLsbD (i - 1) = false := ih (i - 1) (by omega)
    have h2 : (if d then 1#32 else 0#32 : W).getLsbD i = false := by
      cases d with
      | false => simp
      | true =>
        simp only [if_true]
        rw [BitVec.getLsbD_one]
        have : i ≠ 0 := by omega
        simp [this]
    rw [h1, h2]; simp
theorem bitRun_val (l : List Bool) : ∀ x : W, l.length ≤ 32 → bitRun x l = shn l.length (x ^^^ val l) := by
  induction l with
  | nil => intro x _; simp [bitRun, val, shn]
  | cons d l ih =>
    intro x hl
    simp only [List.length_cons] at hl
    show bitRun (bitStep x d) l = shn (l.length + 1) _
    rw [ih _ (by omega)]
    simp only [shn]
    congr 1
    unfold bitStep
    have e : sh (val l <<< 1) = val l := sh_shl _ (val_high l 31 (by omega))
    simp only [val]
    rw [← BitVec.xor_assoc, BitVec.xor_assoc x, BitVec.xor_comm (val l <<< 1), ← BitVec.xor_assoc, sh_xor (x ^^^ _), e]
theorem val_zero (l : List Bool) (h : l.length ≤ 32) (hv : val l = 0#32) : ∀ d ∈ l, d = false := by
  induction l with
  | nil => intro d hd; cases hd
  | cons d l ih =>
    simp only [List.length_cons] at h
    simp only [val] at hv
    have hd : d = false := by
      have := congrArg (fun y => BitVec.getLsbD y 0) hv
      simp only [BitVec.getLsbD_xor, BitVec.getLsbD_shiftLeft] at this
      cases d with
      | false => rfl
      | true => simp at this
    subst hd
    simp only [Bool.false_eq_true, if_false, BitVec.xor_zero] at hv
    have hl : val l = 0#32 := by
      have e := sh_shl (val l) (val_high l 31 (by omega))
      rw [hv, sh_zero] at e
      exact e.symm
    intro x hx
    rcases List.mem_cons.1 hx with rfl | hx
    · rfl
    · exact ih (by omega) hl x hx
theorem bitRun_zeros (n : Nat) : ∀ x : W, bitRun x (List.replicate n false) = shn n x := by
  induction n with
  | zero => intro x; rfl
  | succ n ih =>
    intro x
    rw [List.replicate_succ]
    show bitRun (bitStep x false) _ = _
    rw [ih]
    simp [bitStep, shn]
/-- A burst of 32 bits at most, wherever it stands, is seen. -/
theorem burst_seen (m n : Nat) (l : List Bool) (hl : l.length ≤ 32) (h : bitRun 0#32 (List.replicate m false ++ l ++ List.replicate n false) = 0#32) : ∀ d ∈ l, d = false := by
  rw [bitRun_append, bitRun_append, bitRun_zeros, bitRun_zeros, shn_zero] at h
  have h1 := shn_inj0 _ _ h
  rw [bitRun_val l _ hl, BitVec.zero_xor] at h1
  exact val_zero l hl (shn_inj0 _ _ h1)

/-- The bits of a byte, the lowest one first. -/
def bitsOf (c : BitVec 8) : List Bool := (List.range 8).map c.getLsbD
def allBits (b : List (BitVec 8)) : List Bool := b.flatMap bitsOf
theorem val_bitsOf : ∀ c : BitVec 8, val (bitsOf c) = wide c := by decide +kernel
theorem byte_bits (x : W) (c : BitVec 8) : byte x c = bitRun x (bitsOf c) := by
  rw [bitRun_val _ _ (by simp [bitsOf]), val_bitsOf]; rfl
theorem run_bits (b : List (BitVec 8)) : ∀ x : W, run x b = bitRun x (allBits b) := by
  induction b with
  | nil => intro x; rfl
  | cons c b ih =>
    intro x
    show run (byte x c) b = bitRun x (bitsOf c ++ allBits b)
    rw [ih, bitRun_append, byte_bits]
theorem allBits_length (b : List (BitVec 8)) : (allBits b).length = 8 * b.length := by
  induction b with
  | nil => rfl
  | cons c b ih =>
    show (bitsOf c ++ allBits b).length = _
    rw [List.length_append, ih]
    simp [bitsOf]; omega
end Go.Proofs.YthmfbcfbcookiaaGreatDoor.Crc
