/-
  Bytes that are read number by number, and states as bytes: the plain laws. Conditions: none.
-/
import Derived.Test.YthmfbcfbcookiaaGreatDoorSt
namespace Go.Proofs.YthmfbcfbcookiaaGreatDoor
abbrev Oct := BitVec 8
/-- The last bytes of a number, the highest first. -/
def be : Nat → Int → List Oct
  | 0, _ => []
  | n + 1, x => be n (x / 256) ++ [BitVec.ofInt 8 x]
theorem be_length (n : Nat) : ∀ x : Int, (be n x).length = n := by
  induction n with
  | zero => intro x; rfl
  | succ n ih => intro x; simp [be, ih]
/-- What bytes say, without a sign. -/
def val (l : List Oct) : Nat := l.foldl (fun v c => 256 * v + c.toNat) 0
theorem val_nil : val [] = 0 := rfl
theorem val_snoc (l : List Oct) (c : Oct) : val (l ++ [c]) = 256 * val l + c.toNat := by simp [val, List.foldl_append]
theorem oct_ofInt (x : Int) : ((BitVec.ofInt 8 x).toNat : Int) = x % 256 := by
  rw [BitVec.toNat_ofInt]
  omega
theorem oct_eq (x : Int) (c : Oct) (h : x % 256 = c.toNat) : BitVec.ofInt 8 x = c := by
  apply BitVec.eq_of_toNat_eq
  have := oct_ofInt x
  omega
theorem snoc_ind {α : Type} {P : List α → Prop} (h0 : P []) (h1 : ∀ l c, P l → P (l ++ [c])) (l : List α) : P l := by
  have : ∀ n (l : List α), l.length = n → P l := by
    intro n
    induction n with
    | zero => intro l h; rw [List.eq_nil_of_length_eq_zero h]; exact h0
    | succ n ih =>
      intro l h
      rcases List.eq_nil_or_concat l with rfl | ⟨m, c, rfl⟩
      · simp at h
      · rw [List.concat_eq_append] at h ⊢
        exact h1 m c (ih m (by simpa using h))
  exact this _ l rfl
theorem val_lt (l : List Oct) : val l < 256 ^ l.length := by
  induction l using snoc_ind with
  | h0 => simp [val]
  | h1 l c ih =>
    rw [val_snoc, List.length_append, List.length_singleton, Nat.pow_succ]
    have := c.isLt
    omega
theorem emod_mul_256 (x m : Int) (hm : 0 < m) : x % (m * 256) = 256 * (x / 256 % m) + x % 256 := by
  have h0 := Int.emod_nonneg (x / 256) (Int.ne_of_gt hm)
  have h1 := Int.emod_lt_of_pos (x / 256) hm
  have h2 := Int.mul_ediv_add_emod (x / 256) m
  have e : x = (256 * (x / 256 % m) + x % 256) + (m * 256) * (x / 256 / m) := by
    have : m * 256 * (x / 256 / m) = 256 * (m * (x / 256 / m)) := by rw [Int.mul_assoc, Int.mul_left_comm]
    omega
  conv => lhs; rw [e]
  rw [Int.add_mul_emod_self_left]
  exact Int.emod_eq_of_lt (by omega) (by omega)
theorem val_be (n : Nat) : ∀ x : Int, (val (be n x) : Int) = x % 256 ^ n := by
  induction n with
  | zero => intro x; simp [be, val]
  | succ n ih =>
    intro x
    rw [be, val_snoc]
    have h1 := ih (x / 256)
    have h2 := oct_ofInt x
    have h3 : x % (256 ^ (n + 1)) = 256 * (x / 256 % 256 ^ n) + x % 256 := by
      rw [Int.pow_succ]
      exact emod_mul_256 x _ (Int.pow_pos (by decide))
    rw [h3]
    omega
theorem be_val (l : List Oct) : be l.length (val l) = l := by
  induction l using snoc_ind with
  | h0 => rfl
  | h1 l c ih =>
    rw [List.length_append, List.length_singleton, be, val_snoc]
    have hc := c.isLt
    rw [show ((256 * val l + c.toNat : Nat) : Int) / 256 = (val l : Int) by omega, ih, oct_eq _ c (by omega)]
theorem val_be_of (n : Nat) (x : Int) (h0 : 0 ≤ x) (h1 : x < 256 ^ n) : (val (be n x) : Int) = x := by
  rw [val_be, Int.emod_eq_of_lt h0 h1]
theorem be_mod (n : Nat) (x y : Int) (h : x % 256 ^ n = y % 256 ^ n) : be n x = be n y := by
  have e : ∀ z, be n z = be n (val (be n z)) := fun z => by
    have := be_val (be n z); rw [be_length] at this; exact this.symm
  rw [e x, e y, val_be, val_be, h]
/-! ### Readers and writers that fit -/
/-- What a reader finds: a fault and its place, or a thing and the place behind it. -/
inductive Rd (α : Type) where
  | bad (i : Nat)
  | ok (a : α) (i : Nat)
abbrev Pr (α : Type) := List Oct → Nat → Rd α
def Pr.ret {α : Type} (a : α) : Pr α := fun _ i => .ok a i
def Pr.andThen {α β : Type} (p : Pr α) (f : α → Pr β) : Pr β := fun b i => match p b i with
  | .bad q => .bad q
  | .ok a j => f a b j
def Pr.map {α β : Type} (p : Pr α) (f : α → β) : Pr β := fun b i => match p b i with
  | .bad q => .bad q
  | .ok a j => .ok (f a) j
/-- A reader, a writer, and which things are written: they fit. -/
structure Codec {α : Type} (p : Pr α) (e : α → List Oct) (g : α → Prop) : Prop where
  sound : ∀ {b : List Oct} {i : Nat} {a : α} {j : Nat}, i ≤ b.length → p b i = .ok a j → g a ∧ j ≤ b.length ∧ j = i + (e a).length ∧ ∃ t, b.drop i = e a ++ t
  whole : ∀ {b : List Oct} {i : Nat} {a : α} {t : List Oct}, i ≤ b.length → g a → b.drop i = e a ++ t → p b i = .ok a (i + (e a).length)
  cut : ∀ {b : List Oct} {i : Nat} {a : α} {t : List Oct}, i ≤ b.length → g a → t ≠ [] → b.drop i ++ t = e a → ∃ q, p b i = .bad q ∧ b.length ≤ q + 3 ∧ q ≤ b.length
  bad : ∀ {b : List Oct} {i q : Nat}, i ≤ b.length → p b i = .bad q → i ≤ q ∧ q ≤ b.length
section
variable {α β : Type}
theorem drop_behind {b : List Oct} {i : Nat} {x t : List Oct} (hi : i ≤ b.length) (h : b.drop i = x ++ t) : i + x.length ≤ b.length ∧ b.drop (i + x.length) = t := by
  have hl := congrArg List.length h
  rw [List.length_drop, List.length_append] at hl
  refine ⟨by omega, ?_⟩
  rw [← List.drop_drop, h, List.drop_left]
theorem Codec.ret (a : α) : Codec (Pr.ret a) (fun _ => []) (fun x => x = a) where
  sound := fun hi h => by
    injection h with h1 h2
    subst h1 h2
    exact ⟨rfl, hi, rfl, _, rfl⟩
  whole := fun _ hg _ => by subst hg; rfl
  cut := fun _ _ ht h => absurd (List.append_eq_nil_iff.1 h).2 ht
  bad := fun _ h => by cases h
theorem Codec.congr {p : Pr α} {e e' : α → List Oct} {g g' : α → Prop} (h : Codec p e g) (he : ∀ a, g a → e a = e' a) (hg : ∀ a, g a ↔ g' a) : Codec p e' g' where
  sound := fun hi hp => by
    obtain ⟨h1, h2, h3, t, h4⟩ := h.sound hi hp
    rw [← he _ h1]
    exact ⟨(hg _).1 h1, h2, h3, t, h4⟩
  whole := fun {b i a t} hi ha hd => by
    have h1 := (hg _).2 ha
    rw [← he _ h1] at hd ⊢
    exact h.whole hi h1 hd
  cut := fun hi ha ht hd => by
    have h1 := (hg _).2 ha
    rw [← he _ h1] at hd
    exact h.cut hi h1 ht hd
  bad := h.bad
theorem Codec.iso {p : Pr α} {e : α → List Oct} {g : α → Prop} (h : Codec p e g) (f : α → β) (e' : β → List Oct) (g' : β → Prop) (h1 : ∀ a, g a → g' (f a) ∧ e' (f a) = e a) (h2 : ∀ c, g' c → ∃ a, g a ∧ f a = c) : Codec (p.map f) e' g' where
  sound := fun {b i c j} hi hp => by
    unfold Pr.map at hp
    split at hp
    · cases hp
    · rename_i a j' e1
      injection hp with ha hj
      subst ha hj
      obtain ⟨ga, hj, he, t, ht⟩ := h.sound hi e1
      rw [(h1 a ga).2]
      exact ⟨(h1 a ga).1, hj, he, t, ht⟩
  whole := fun {b i c t} hi hc hd => by
    obtain ⟨a, ga, rfl⟩ := h2 c hc
    rw [(h1 a ga).2] at hd ⊢
    unfold Pr.map
    rw [h.whole hi ga hd]
  cut := fun {b i c t} hi hc ht hd => by
    obtain ⟨a, ga, rfl⟩ := h2 c hc
    rw [(h1 a ga).2] at hd
    obtain ⟨q, hq, hr⟩ := h.cut hi ga ht hd
    exact ⟨q, by unfold Pr.map; rw [hq], hr⟩
  bad := fun {b i q} hi hp => by
    unfold Pr.map at hp
    split at hp
    · rename_i q' e1
      injection hp with hq
      subst hq
      exact h.bad hi e1
    · cases hp
theorem Codec.seq {p : Pr α} {e : α → List Oct} {g : α → Prop} {p2 : α → Pr β} {e2 : α → β → List Oct} {g2 : α → β → Prop} (h : Codec p e g) (h2 : ∀ a, g a → Codec (p2 a) (e2 a) (g2 a)) :
    Codec (p.andThen fun a => (p2 a).map fun c => (a, c)) (fun x => e x.1 ++ e2 x.1 x.2) (fun x => g x.1 ∧ g2 x.1 x.2) where
  sound := fun {b i x j} hi hp => by
    unfold Pr.andThen at hp
    split at hp
    · cases hp
    · rename_i a j' e1
      obtain ⟨ga, hj, he, t, ht⟩ := h.sound hi e1
      obtain ⟨hl, hd⟩ := drop_behind hi ht
      change Pr.map _ _ b _ = _ at hp
      unfold Pr.map at hp
      split at hp
      · cases hp
      · rename_i c j2 e3
        injection hp with hx hj2
        subst hx hj2
        obtain ⟨gc, hj3, he3, t3, ht3⟩ := (h2 a ga).sound hj e3
        rw [he] at ht3
        rw [hd] at ht3
        refine ⟨⟨ga, gc⟩, hj3, ?_, t3, ?_⟩
        · show _ = i + (e a ++ e2 a c).length
          rw [List.length_append]; omega
        · rw [ht, ht3, List.append_assoc]
  whole := fun {b i x t} hi hg hd => by
    obtain ⟨a, c⟩ := x
    rw [List.append_assoc] at hd
    obtain ⟨hl, hd2⟩ := drop_behind hi hd
    unfold Pr.andThen
    rw [h.whole hi hg.1 hd]
    show Pr.map _ _ b _ = _
    unfold Pr.map
    rw [(h2 a hg.1).whole hl hg.2 hd2]
    show Rd.ok _ _ = Rd.ok _ _
    rw [List.length_append, Nat.add_assoc]
  cut := fun {b i x t} hi hg ht hd => by
    obtain ⟨a, c⟩ := x
    rcases List.append_eq_append_iff.1 hd with ⟨u, hu1, hu2⟩ | ⟨u, hu1, hu2⟩
    · by_cases hu : u = []
      · subst hu
        rw [List.append_nil] at hu1
        rw [List.nil_append] at hu2
        have hd1 : b.drop i = e a ++ [] := by rw [List.append_nil]; exact hu1.symm
        obtain ⟨hl, hd2⟩ := drop_behind hi hd1
        obtain ⟨q, hq, hr⟩ := (h2 a hg.1).cut hl hg.2 ht (by rw [hd2]; exact hu2)
        refine ⟨q, ?_, hr⟩
        unfold Pr.andThen
        rw [h.whole hi hg.1 hd1]
        show Pr.map _ _ b _ = _
        unfold Pr.map
        rw [hq]
      · obtain ⟨q, hq, hr⟩ := h.cut hi hg.1 hu hu1.symm
        exact ⟨q, by unfold Pr.andThen; rw [hq], hr⟩
    · obtain ⟨hl, hd2⟩ := drop_behind hi hu1
      obtain ⟨q, hq, hr⟩ := (h2 a hg.1).cut hl hg.2 ht (by rw [hd2]; exact hu2.symm)
      refine ⟨q, ?_, hr⟩
      unfold Pr.andThen
      rw [h.whole hi hg.1 hu1]
      show Pr.map _ _ b _ = _
      unfold Pr.map
      rw [hq]
  bad := fun {b i q} hi hp => by
    unfold Pr.andThen at hp
    split at hp
    · rename_i q' e1
      injection hp with hq
      subst hq
      exact h.bad hi e1
    · rename_i a j e1
      obtain ⟨ga, hj, he, t, ht⟩ := h.sound hi e1
      change Pr.map _ _ b _ = _ at hp
      unfold Pr.map at hp
      split at hp
      · rename_i q' e3
        injection hp with hq
        subst hq
        have := (h2 a ga).bad hj e3
        exact ⟨by omega, this.2⟩
      · cases hp
/-- So many of a kind. -/
def repP (p : Pr α) : Nat → Pr (List α)
  | 0 => Pr.ret []
  | n + 1 => p.andThen fun a => (repP p n).map fun l => a :: l
theorem map_map {γ : Type} (p : Pr α) (f : α → β) (g : β → γ) : (p.map f).map g = p.map (fun a => g (f a)) := by
  funext b i
  unfold Pr.map
  cases p b i <;> rfl
theorem andThen_map {γ : Type} (p : Pr α) (f : α → Pr β) (g : β → γ) : (p.andThen f).map g = p.andThen (fun a => (f a).map g) := by
  funext b i
  unfold Pr.map Pr.andThen
  cases p b i <;> rfl
theorem Codec.rep {p : Pr α} {e : α → List Oct} {g : α → Prop} (h : Codec p e g) (n : Nat) : Codec (repP p n) (fun l => l.flatMap e) (fun l => l.length = n ∧ ∀ a ∈ l, g a) := by
  induction n with
  | zero =>
    refine (Codec.ret []).congr (fun a ha => by subst ha; rfl) (fun a => ⟨fun ha => by subst ha; simp, fun ha => List.eq_nil_of_length_eq_zero ha.1⟩)
  | succ n ih =>
    have h1 := (h.seq (fun a _ => ih)).iso (fun x => x.1 :: x.2) (fun l => l.flatMap e) (fun l => l.length = n + 1 ∧ ∀ a ∈ l, g a) (fun x hx => ⟨⟨by simp [hx.2.1], fun a ha => by
      rcases List.mem_cons.1 ha with rfl | h
      · exact hx.1
      · exact hx.2.2 a h⟩, by simp⟩) (fun l hl => by
      cases l with
      | nil => simp at hl
      | cons a l => exact ⟨(a, l), ⟨hl.2 a (by simp), by simpa using hl.1, fun c hc => hl.2 c (by simp [hc])⟩, rfl⟩)
    rw [andThen_map] at h1
    simp only [map_map] at h1
    exact h1
/-- A number. -/
def numP (n : Nat) : Pr Int := fun b i => if i + n ≤ b.length then .ok (val ((b.drop i).take n)) (i + n) else .bad i
theorem Codec.num (n : Nat) (h4 : n ≤ 4) : Codec (numP n) (be n) (fun x => 0 ≤ x ∧ x < 256 ^ n) where
  sound := fun {b i a j} hi hp => by
    unfold numP at hp
    split at hp
    · rename_i hl
      injection hp with ha hj
      subst ha hj
      have hlen : ((b.drop i).take n).length = n := by rw [List.length_take, List.length_drop]; omega
      have h1 := val_lt ((b.drop i).take n)
      have h2 := be_val ((b.drop i).take n)
      rw [hlen] at h1 h2
      refine ⟨⟨by omega, ?_⟩, hl, by rw [be_length], (b.drop i).drop n, ?_⟩
      · have e : ((256 ^ n : Nat) : Int) = (256 : Int) ^ n := by simp
        rw [← e]; omega
      · rw [h2, List.take_append_drop]
    · cases hp
  whole := fun {b i a t} hi hg hd => by
    have hl := (drop_behind hi hd).1
    rw [be_length] at hl
    unfold numP
    rw [if_pos hl, hd, List.take_left' (be_length n a), val_be_of n a hg.1 hg.2, be_length]
  cut := fun {b i a t} hi hg ht hd => by
    have hl := congrArg List.length hd
    rw [List.length_append, List.length_drop, be_length] at hl
    have := List.length_pos_iff.2 ht
    refine ⟨i, ?_, by omega, hi⟩
    unfold numP
    rw [if_neg (by omega)]
  bad := fun {b i q} hi hp => by
    unfold numP at hp
    split at hp
    · cases hp
    · injection hp with h
      subst h
      exact ⟨Nat.le_refl _, hi⟩
/-- Of 32 bits, with a sign. -/
def sx32 (v : Int) : Int := if v < 2147483648 then v else v - 4294967296
def s32P : Pr Int := (numP 4).map sx32
theorem Codec.s32 : Codec s32P (be 4) (fun x => -2147483648 ≤ x ∧ x ≤ 2147483647) :=
  (Codec.num 4 (Nat.le_refl _)).iso sx32 _ _ (fun a ha => by
    have e : sx32 a % 256 ^ 4 = a % 256 ^ 4 := by unfold sx32; split <;> omega
    refine ⟨by unfold sx32; split <;> omega, be_mod 4 _ _ e⟩) (fun c hc => ⟨c % 4294967296, by omega, by unfold sx32; split <;> omega⟩)
def sx8 (v : Int) : Int := if v < 128 then v else v - 256
def s8P : Pr Int := (numP 1).map sx8
theorem Codec.s8 : Codec s8P (be 1) (fun x => -128 ≤ x ∧ x ≤ 127) :=
  (Codec.num 1 (by decide)).iso sx8 _ _ (fun a ha => by
    have e : sx8 a % 256 ^ 1 = a % 256 ^ 1 := by unfold sx8; split <;> omega
    refine ⟨by unfold sx8; split <;> omega, be_mod 1 _ _ e⟩) (fun c hc => ⟨c % 256, by omega, by unfold sx8; split <;> omega⟩)
/-- A byte that says no or yes. -/
def flagP : Pr Bool := fun b i => match numP 1 b i with
  | .bad q => .bad q
  | .ok v j => if v = 0 then .ok false j else if v = 1 then .ok true j else .bad i
def bit (c : Bool) : Int := if c then 1 else 0
theorem Codec.flag : Codec flagP (fun c => be 1 (bit c)) (fun _ => True) where
  sound := fun {b i a j} hi hp => by
    unfold flagP at hp
    split at hp
    · cases hp
    · rename_i v j' e1
      obtain ⟨_, hj, he, t, ht⟩ := (Codec.num 1 (by decide)).sound hi e1
      split at hp
      · rename_i h0
        injection hp with h1 h2
        subst h0 h1 h2
        exact ⟨trivial, hj, he, t, ht⟩
      · split at hp
        · rename_i h0
          injection hp with h1 h2
          subst h0 h1 h2
          exact ⟨trivial, hj, he, t, ht⟩
        · cases hp
  whole := fun {b i a t} hi _ hd => by
    have h := (Codec.num 1 (by decide)).whole hi (a := bit a) (by cases a <;> decide) hd
    unfold flagP
    rw [h]
    cases a <;> rfl
  cut := fun {b i a t} hi _ ht hd => by
    obtain ⟨q, hq, hr⟩ := (Codec.num 1 (by decide)).cut hi (a := bit a) (by cases a <;> decide) ht hd
    exact ⟨q, by unfold flagP; rw [hq], hr⟩
  bad := fun {b i q} hi hp => by
    unfold flagP at hp
    split at hp
    · rename_i q' e1
      injection hp with hq
      subst hq
      exact (Codec.num 1 (by decide)).bad hi e1
    · rename_i v j e1
      split at hp
      · cases hp
      · split at hp
        · cases hp
        · injection hp with hq
          subst hq
          exact ⟨Nat.le_refl _, hi⟩
/-- Bytes that are known ahead. -/
def litP : List Oct → Pr Unit
  | [] => Pr.ret ()
  | c :: l => fun b i => if b[i]? = some c then litP l b (i + 1) else .bad i
theorem drop_of_get {b : List Oct} {i : Nat} {c : Oct} (h : b[i]? = some c) : b.drop i = c :: b.drop (i + 1) := by
  obtain ⟨hi, rfl⟩ := List.getElem?_eq_some_iff.1 h
  exact List.drop_eq_getElem_cons hi
theorem get_of_drop {b t : List Oct} {i : Nat} {c : Oct} (h : b.drop i = c :: t) : b[i]? = some c ∧ b.drop (i + 1) = t := by
  have h1 : (b.drop i)[0]? = some c := by rw [h]; rfl
  rw [List.getElem?_drop, Nat.add_zero] at h1
  have h2 := drop_of_get h1
  rw [h] at h2
  injection h2 with _ h2
  exact ⟨h1, h2.symm⟩
theorem Codec.lit (l : List Oct) : Codec (litP l) (fun _ => l) (fun _ => True) := by
  induction l with
  | nil => exact (Codec.ret ()).congr (fun _ _ => rfl) (fun _ => by simp)
  | cons c l ih =>
    refine ⟨fun {b i a j} hi hp => ?_, fun {b i a t} hi _ hd => ?_, fun {b i a t} hi _ ht hd => ?_, fun {b i q} hi hp => ?_⟩
    · unfold litP at hp
      split at hp
      · rename_i h
        have hi' := (List.getElem?_eq_some_iff.1 h).1
        obtain ⟨_, h2, h3, t, h4⟩ := ih.sound hi' hp
        refine ⟨trivial, h2, by rw [List.length_cons]; omega, t, ?_⟩
        rw [drop_of_get h, h4]; rfl
      · cases hp
    · obtain ⟨h1, h2⟩ := get_of_drop hd
      have hi' := (List.getElem?_eq_some_iff.1 h1).1
      unfold litP
      rw [if_pos h1, ih.whole (a := a) hi' trivial h2]
      congr 1
      rw [List.length_cons]; omega
    · unfold litP
      by_cases hb : b.drop i = []
      · have hl := congrArg List.length hb
        rw [List.length_drop, List.length_nil] at hl
        rw [if_neg (by rw [List.getElem?_eq_none (by omega)]; simp)]
        exact ⟨i, rfl, by omega, hi⟩
      · obtain ⟨d, r, hd0⟩ := List.exists_cons_of_ne_nil hb
        obtain ⟨h1, h2⟩ := get_of_drop hd0
        have hi' := (List.getElem?_eq_some_iff.1 h1).1
        rw [hd0, List.cons_append] at hd
        injection hd with e1 e2
        subst e1
        rw [if_pos h1]
        exact ih.cut (a := a) hi' trivial ht (by rw [h2]; exact e2)
    · unfold litP at hp
      split at hp
      · rename_i h
        have hi' := (List.getElem?_eq_some_iff.1 h).1
        have := ih.bad hi' hp
        exact ⟨by omega, this.2⟩
      · injection hp with h
        subst h
        exact ⟨Nat.le_refl _, hi⟩
end
/-! ### States as bytes -/
def plE (p : Pl) : List Oct := be 4 p.life ++ (be 4 p.energy ++ be 1 (bit p.out))
def cdE (c : Cd) : List Oct := be 2 c.kind ++ (be 1 c.owner ++ (be 4 c.power ++ (be 4 c.health ++ (be 4 c.damage ++ be 4 c.marks))))
def znE (z : List Int) : List Oct := be 2 z.length ++ z.flatMap (be 2)
def headL : List Oct := [84#8, 66#8, 76#8, 83#8, 1#8]
def img (s : St) : List Oct := headL ++ (be 1 s.players.length ++ (s.players.flatMap plE ++ (be 2 s.cards.length ++ (s.cards.flatMap cdE ++ (s.zones.flatMap znE ++ (be 4 s.turn ++ (be 1 s.whose ++ (be 1 s.fin ++ be 1 s.winner))))))))
def playerP : Pr Pl := s32P.andThen fun a => s32P.andThen fun e => flagP.map fun o => ⟨a, e, o⟩
def cardP : Pr Cd := (numP 2).andThen fun k => (numP 1).andThen fun o => s32P.andThen fun p => s32P.andThen fun h => s32P.andThen fun d => s32P.map fun m => ⟨k, o, p, h, d, m⟩
def zoneP : Pr (List Int) := (numP 2).andThen fun n => repP (numP 2) n.toNat
def stateP : Pr St := (litP headL).andThen fun _ => (numP 1).andThen fun n => (repP playerP n.toNat).andThen fun ps => (numP 2).andThen fun m => (repP cardP m.toNat).andThen fun cs => (repP zoneP (4 * n.toNat)).andThen fun zs =>
  s32P.andThen fun t => (numP 1).andThen fun wh => s8P.andThen fun f => (numP 1).map fun wi => ⟨ps, cs, zs, t, wh, f, wi⟩
def in32 (x : Int) : Prop := -2147483648 ≤ x ∧ x ≤ 2147483647
def goodPl (p : Pl) : Prop := in32 p.life ∧ in32 p.energy
def goodCd (c : Cd) : Prop := (0 ≤ c.kind ∧ c.kind < 65536) ∧ (0 ≤ c.owner ∧ c.owner < 256) ∧ in32 c.power ∧ in32 c.health ∧ in32 c.damage ∧ in32 c.marks
def goodZn (z : List Int) : Prop := z.length < 65536 ∧ ∀ x ∈ z, 0 ≤ x ∧ x < 65536
structure GoodSt (s : St) : Prop where
  np : s.players.length < 256
  pl : ∀ p ∈ s.players, goodPl p
  nc : s.cards.length < 65536
  cd : ∀ c ∈ s.cards, goodCd c
  nz : s.zones.length = 4 * s.players.length
  zn : ∀ z ∈ s.zones, goodZn z
  turn : in32 s.turn
  whose : 0 ≤ s.whose ∧ s.whose < 256
  fin : -128 ≤ s.fin ∧ s.fin ≤ 127
  winner : 0 ≤ s.winner ∧ s.winner < 256
theorem Codec.player : Codec playerP plE goodPl := by
  have h := (Codec.s32.seq (fun _ _ => Codec.s32.seq (fun _ _ => Codec.flag))).iso (fun x => (⟨x.1, x.2.1, x.2.2⟩ : Pl)) plE goodPl (fun a ha => ⟨⟨ha.1, ha.2.1⟩, rfl⟩) (fun c hc => ⟨(c.life, c.energy, c.out), ⟨hc.1, hc.2, trivial⟩, rfl⟩)
  simp only [andThen_map, map_map] at h
  exact h
theorem Codec.card : Codec cardP cdE goodCd := by
  have h := ((Codec.num 2 (by decide)).seq (fun _ _ => (Codec.num 1 (by decide)).seq (fun _ _ => Codec.s32.seq (fun _ _ => Codec.s32.seq (fun _ _ => Codec.s32.seq (fun _ _ => Codec.s32)))))).iso (fun x => (⟨x.1, x.2.1, x.2.2.1, x.2.2.2.1, x.2.2.2.2.1, x.2.2.2.2.2⟩ : Cd)) cdE goodCd
    (fun a ha => ⟨⟨ha.1, ha.2.1, ha.2.2.1, ha.2.2.2.1, ha.2.2.2.2.1, ha.2.2.2.2.2⟩, rfl⟩) (fun c hc => ⟨(c.kind, c.owner, c.power, c.health, c.damage, c.marks), ⟨hc.1, hc.2.1, hc.2.2.1, hc.2.2.2.1, hc.2.2.2.2.1, hc.2.2.2.2.2⟩, rfl⟩)
  simp only [andThen_map, map_map] at h
  exact h
theorem Codec.zone : Codec zoneP znE goodZn := by
  have h := ((Codec.num 2 (by decide)).seq (fun n _ => (Codec.num 2 (by decide)).rep n.toNat)).iso (fun x => x.2) znE goodZn
    (fun a ha => by
      obtain ⟨n, l⟩ := a
      obtain ⟨⟨h0, h1⟩, h2, h3⟩ := ha
      simp only at h0 h1 h2 h3
      refine ⟨⟨by simp only; omega, fun x hx => h3 x hx⟩, ?_⟩
      simp only [znE]
      rw [show (l.length : Int) = n by omega])
    (fun c hc => ⟨((c.length : Int), c), ⟨⟨by simp only; omega, by simp only; have := hc.1; omega⟩, by simp, fun x hx => hc.2 x hx⟩, rfl⟩)
  simp only [andThen_map, map_map] at h
  have e : zoneP = (numP 2).andThen fun a => (repP (numP 2) a.toNat).map fun a => a := by
    unfold zoneP
    congr 1
    funext a b i
    unfold Pr.map
    cases repP (numP 2) a.toNat b i <;> rfl
  rw [e]
  exact h
theorem Codec.state : Codec stateP img GoodSt := by
  have h := ((Codec.lit headL).seq (fun _ _ => (Codec.num 1 (by decide)).seq (fun n _ => (Codec.player.rep n.toNat).seq (fun _ _ => (Codec.num 2 (by decide)).seq (fun m _ => (Codec.card.rep m.toNat).seq (fun _ _ => (Codec.zone.rep (4 * n.toNat)).seq (fun _ _ =>
    Codec.s32.seq (fun _ _ => (Codec.num 1 (by decide)).seq (fun _ _ => Codec.s8.seq (fun _ _ => Codec.num 1 (by decide))))))))))).iso
    (fun x => (⟨x.2.2.1, x.2.2.2.2.1, x.2.2.2.2.2.1, x.2.2.2.2.2.2.1, x.2.2.2.2.2.2.2.1, x.2.2.2.2.2.2.2.2.1, x.2.2.2.2.2.2.2.2.2⟩ : St)) img GoodSt
    (fun a ha => by
      obtain ⟨_, n, ps, m, cs, zs, t, wh, f, wi⟩ := a
      obtain ⟨_, ⟨n0, n1⟩, ⟨p1, p2⟩, ⟨m0, m1⟩, ⟨c1, c2⟩, ⟨z1, z2⟩, t1, w1, f1, i1⟩ := ha
      simp only at n0 n1 p1 p2 m0 m1 c1 c2 z1 z2 t1 w1 f1 i1
      refine ⟨⟨by simp only; omega, p2, by simp only; omega, c2, by simp only; omega, z2, t1, w1, f1, i1⟩, ?_⟩
      simp only [img]
      rw [show (ps.length : Int) = n by omega, show (cs.length : Int) = m by omega])
    (fun c hc => ⟨((), (c.players.length : Int), c.players, (c.cards.length : Int), c.cards, c.zones, c.turn, c.whose, c.fin, c.winner),
      ⟨trivial, ⟨by simp only; omega, by simp only; have := hc.np; omega⟩, ⟨by simp, hc.pl⟩, ⟨by simp only; omega, by simp only; have := hc.nc; omega⟩, ⟨by simp, hc.cd⟩, ⟨by simp only; have := hc.nz; omega, hc.zn⟩, hc.turn, hc.whose, hc.fin, hc.winner⟩, rfl⟩)
  simp only [andThen_map, map_map] at h
  exact h
/-- What Decode finds in bytes, ahead of the question whether the state may be. -/
def readP (b : List Oct) : Rd St := match stateP b 0 with
  | .bad q => .bad q
  | .ok s j => if j < b.length then .bad j else .ok s j
theorem read_img {s : St} (h : GoodSt s) : readP (img s) = .ok s (img s).length := by
  have := Codec.state.whole (b := img s) (i := 0) (t := []) (Nat.zero_le _) h (by simp)
  unfold readP
  rw [this]
  simp
theorem read_sound {b : List Oct} {s : St} {j : Nat} (h : readP b = .ok s j) : GoodSt s ∧ b = img s := by
  unfold readP at h
  split at h
  · cases h
  · rename_i s' j' e
    split at h
    · cases h
    · rename_i hj
      injection h with h1 h2
      subst h1 h2
      obtain ⟨hg, hl, he, t, ht⟩ := Codec.state.sound (Nat.zero_le _) e
      refine ⟨hg, ?_⟩
      rw [List.drop_zero] at ht
      have hlen := congrArg List.length ht
      rw [List.length_append] at hlen
      have : t = [] := List.eq_nil_of_length_eq_zero (by omega)
      rw [ht, this, List.append_nil]
theorem read_bad {b : List Oct} {q : Nat} (h : readP b = .bad q) : q ≤ b.length := by
  unfold readP at h
  split at h
  · rename_i q' e
    injection h with h1
    subst h1
    exact (Codec.state.bad (Nat.zero_le _) e).2
  · rename_i s' j' e
    split at h
    · injection h with h1
      omega
    · cases h
theorem read_more {s : St} {t : List Oct} (h : GoodSt s) (ht : t ≠ []) : readP (img s ++ t) = .bad (img s).length := by
  have := Codec.state.whole (b := img s ++ t) (i := 0) (t := t) (Nat.zero_le _) h (by simp)
  have hp := List.length_pos_iff.2 ht
  unfold readP
  rw [this]
  simp only [Nat.zero_add]
  rw [if_pos (by rw [List.length_append]; omega)]
theorem read_cut {s : St} {k : Nat} (h : GoodSt s) (hk : k < (img s).length) : ∃ q, readP ((img s).take k) = .bad q ∧ k ≤ q + 3 ∧ q ≤ k := by
  obtain ⟨q, hq, h1, h2⟩ := Codec.state.cut (b := (img s).take k) (i := 0) (a := s) (t := (img s).drop k) (Nat.zero_le _) h (fun e => by
    have := congrArg List.length e
    rw [List.length_drop, List.length_nil] at this
    omega) (by rw [List.drop_zero, List.take_append_drop])
  rw [List.length_take] at h1 h2
  refine ⟨q, ?_, by omega, by omega⟩
  unfold readP
  rw [hq]
theorem img_inj {s t : St} (hs : GoodSt s) (ht : GoodSt t) (h : img s = img t) : s = t := by
  have h1 := read_img hs
  rw [h, read_img ht] at h1
  injection h1 with h1 _
  exact h1.symm
end Go.Proofs.YthmfbcfbcookiaaGreatDoor
/-
  A state that may be, fits into its image: the plain law. Conditions: none.
-/
namespace Go.Proofs.YthmfbcfbcookiaaGreatDoor
theorem firstF_allI {l : List Bool} (h : firstF l = none) : ∀ b ∈ l, b = true := by
  induction l with
  | nil => intro b hb; cases hb
  | cons a l ih =>
    cases a with
    | false => cases h
    | true =>
      intro b hb
      rcases List.mem_cons.1 hb with rfl | h2
      · rfl
      · refine ih ?_ b h2
        rw [firstF] at h
        cases e : firstF l with
        | none => rfl
        | some i => rw [e] at h; cases h
theorem lead_allI {m : Nat} : ∀ {l seen : List Int}, l.length ≤ lead m seen l → l.Nodup ∧ ∀ x ∈ l, (0 ≤ x ∧ x < (m : Int)) ∧ x ∉ seen := by
  intro l
  induction l with
  | nil => intro seen _; exact ⟨List.nodup_nil, fun x hx => by cases hx⟩
  | cons a l ih =>
    intro seen h
    rw [lead] at h
    by_cases hc : 0 ≤ a ∧ a < (m : Int) ∧ a ∉ seen
    · rw [if_pos hc, List.length_cons] at h
      obtain ⟨h1, h2⟩ := ih (seen := a :: seen) (by omega)
      refine ⟨List.nodup_cons.2 ⟨fun ha => (h2 a ha).2 (by simp), h1⟩, fun x hx => ?_⟩
      rcases List.mem_cons.1 hx with rfl | hx
      · exact ⟨⟨hc.1, hc.2.1⟩, hc.2.2⟩
      · exact ⟨(h2 x hx).1, fun hs => (h2 x hx).2 (by simp [hs])⟩
    · rw [if_neg hc, List.length_cons] at h
      omega
theorem checkP_fst (s : St) : (checkP s).1 = 0 ∨ (checkP s).1 = 10 := by
  unfold checkP
  cases firstF (thingsB s) <;> simp [answer]
theorem checkP_ok {s : St} (h : (checkP s).1 = 0) : firstF (thingsB s) = none ∧ (checkP s).2 = 0 := by
  unfold checkP at *
  cases e : firstF (thingsB s) with
  | none => exact ⟨rfl, rfl⟩
  | some i => rw [e] at h; simp [answer] at h
theorem checkP_at (s : St) : 0 ≤ (checkP s).2 := by
  unfold checkP
  cases firstF (thingsB s) <;> simp [answer]
/-- What a state that may be is like. -/
structure MayI (s : St) : Prop where
  head : headB s = true
  pl : ∀ p ∈ s.players, plB p = true
  cd : ∀ c ∈ s.cards, cardB s.players.length c = true
  zn : AllGood s.cards.length s.zones.flatten
  all : s.zones.flatten.length = s.cards.length
  turn : turnB s = true
  whose : whoseB s = true
  fin : endB s = true
  win : winB s = true
theorem mayI {s : St} (h : (checkP s).1 = 0) : MayI s := by
  obtain ⟨h1, _⟩ := checkP_ok h
  have ha := firstF_allI h1
  by_cases hh : headB s = true
  · unfold thingsB at ha
    rw [if_pos hh] at ha
    have h2 : ∀ b ∈ s.players.map plB, b = true := fun b hb => ha b (by simp only [List.mem_cons, List.mem_append]; exact Or.inr (Or.inl hb))
    have h3 : ∀ b ∈ s.cards.map (cardB s.players.length), b = true := fun b hb => ha b (by simp only [List.mem_cons, List.mem_append]; exact Or.inr (Or.inr (Or.inl hb)))
    have h4 : ∀ b ∈ (if lead s.cards.length [] s.zones.flatten < s.zones.flatten.length then [false] else [decide (s.zones.flatten.length = s.cards.length), turnB s, whoseB s, endB s, winB s]), b = true := fun b hb => ha b (by simp only [List.mem_cons, List.mem_append]; exact Or.inr (Or.inr (Or.inr (Or.inr hb))))
    by_cases hl : lead s.cards.length [] s.zones.flatten < s.zones.flatten.length
    · rw [if_pos hl] at h4
      exact absurd (h4 false (by simp)) (by simp)
    · rw [if_neg hl] at h4
      obtain ⟨g1, g2⟩ := lead_allI (Nat.le_of_not_lt hl)
      exact ⟨hh, fun p hp => h2 _ (List.mem_map_of_mem hp), fun c hc => h3 _ (List.mem_map_of_mem hc), ⟨g1, fun x hx => (g2 x hx).1⟩, by simpa using h4 _ (List.mem_cons_self ..), h4 _ (by simp), h4 _ (by simp), h4 _ (by simp), h4 _ (by simp)⟩
  · unfold thingsB at ha
    rw [if_neg hh] at ha
    exact absurd (ha false (by simp)) (by simp)
/-- How many there are. -/
structure FewSt (s : St) : Prop where
  np : s.players.length ≤ 4
  nc : s.cards.length ≤ 256
  nz : s.zones.length ≤ 16
  zn : ∀ z ∈ s.zones, z.length ≤ 256
theorem MayI.few {s : St} (h : MayI s) : FewSt s := by
  have h1 := h.head
  simp only [headB, Bool.and_eq_true, decide_eq_true_eq] at h1
  have h2 := h.all
  refine ⟨by omega, by omega, by omega, fun z hz => ?_⟩
  have h3 : z.length ≤ s.zones.flatten.length := by
    obtain ⟨a, b, e⟩ := List.append_of_mem hz
    rw [e]; simp; omega
  omega
theorem MayI.good {s : St} (h : MayI s) (ht : in32 s.turn) : GoodSt s := by
  have hf := h.few
  have h1 := h.head
  simp only [headB, Bool.and_eq_true, decide_eq_true_eq] at h1
  have h5 := h.whose
  simp only [whoseB, Bool.and_eq_true, decide_eq_true_eq] at h5
  have h6 := h.fin
  simp only [endB, Bool.or_eq_true, decide_eq_true_eq] at h6
  have h7 := h.win
  refine ⟨by omega, fun p hp => ?_, by omega, fun c hc => ?_, by omega, fun z hz => ⟨by have := hf.zn z hz; omega, fun x hx => ?_⟩, ht, by omega, by omega, ?_⟩
  · have h2 := h.pl p hp
    simp only [plB, statB, Bool.and_eq_true, decide_eq_true_eq] at h2
    exact ⟨⟨by omega, by omega⟩, by omega, by omega⟩
  · have h3 := h.cd c hc
    simp only [cardB, statB, Bool.and_eq_true, decide_eq_true_eq] at h3
    exact ⟨⟨by omega, by omega⟩, ⟨by omega, by omega⟩, ⟨by omega, by omega⟩, ⟨by omega, by omega⟩, ⟨by omega, by omega⟩, by omega, by omega⟩
  · have h4 := h.zn.2 x (List.mem_flatten.2 ⟨z, hz, hx⟩)
    omega
  · unfold winB at h7
    split at h7
    · simp only [Bool.and_eq_true, decide_eq_true_eq] at h7
      omega
    · simp only [decide_eq_true_eq] at h7
      omega
theorem flatMap_le {α : Type} (f : α → List Oct) (k : Nat) : ∀ l : List α, (∀ x ∈ l, (f x).length ≤ k) → (l.flatMap f).length ≤ l.length * k := by
  intro l
  induction l with
  | nil => intro _; simp
  | cons a l ih =>
    intro h
    rw [List.flatMap_cons, List.length_append, List.length_cons, Nat.succ_mul]
    have := h a (by simp)
    have := ih fun x hx => h x (by simp [hx])
    omega
theorem plE_length (p : Pl) : (plE p).length = 9 := by simp [plE, be_length]
theorem cdE_length (c : Cd) : (cdE c).length = 19 := by simp [cdE, be_length]
theorem znE_length (z : List Int) : (znE z).length ≤ 2 + z.length * 2 := by
  have := flatMap_le (be 2) 2 z (fun x _ => by rw [be_length]; omega)
  simp only [znE, List.length_append, be_length]
  omega
/-- An image is short; so are the parts of which it is made. -/
theorem FewSt.lens {s : St} (h : FewSt s) : (∀ k, ((s.players.take k).flatMap plE).length ≤ 36) ∧ (∀ k, ((s.cards.take k).flatMap cdE).length ≤ 4864) ∧ (∀ k, ((s.zones.take k).flatMap znE).length ≤ 8224) := by
  refine ⟨fun k => ?_, fun k => ?_, fun k => ?_⟩
  · have h1 := flatMap_le plE 9 (s.players.take k) (fun x _ => by rw [plE_length]; omega)
    have := h.np
    rw [List.length_take] at h1
    omega
  · have h1 := flatMap_le cdE 19 (s.cards.take k) (fun x _ => by rw [cdE_length]; omega)
    have := h.nc
    rw [List.length_take] at h1
    omega
  · have h1 := flatMap_le znE 514 (s.zones.take k) (fun x hx => by have := znE_length x; have := h.zn x (List.mem_of_mem_take hx); omega)
    have := h.nz
    rw [List.length_take] at h1
    omega
theorem FewSt.img {s : St} (h : FewSt s) : (img s).length ≤ 20000 := by
  obtain ⟨h1, h2, h3⟩ := h.lens
  have h1 := h1 s.players.length
  have h2 := h2 s.cards.length
  have h3 := h3 s.zones.length
  rw [List.take_length] at h1 h2 h3
  simp only [_root_.Go.Proofs.YthmfbcfbcookiaaGreatDoor.img, List.length_append, be_length, headL, List.length_cons, List.length_nil]
  omega
end Go.Proofs.YthmfbcfbcookiaaGreatDoor
