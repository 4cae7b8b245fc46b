/-
  Bytes that are read number by number, and states as bytes: the plain laws. Conditions: none.
-/
import Derived.Test.YtcmbdnjcfneinaaGreatDoorMemM
namespace Go.Proofs.YtcmbdnjcfneinaaGreatDoor
abbrev Oct := BitVec 8
/-- The last bytes of a number, the highest first. -/
def be : Nat → Int → List Oct
  | 0, _ => []
  | n + 1, x => be n (x / 256) ++ [BitVec.ofInt 8 x]
theorem be_length (n : Nat) : ∀ x : Int, (be n x).length = n := by
  induction n with
  | zero => intro x; rfl
  | succ n ih => intro x; simp [be, ih]
/-- What bytes say, without a sign. -/
def val (l : List Oct) : Nat := l.foldl (fun v c => 256 * v + c.toNat) 0
theorem val_nil : val [] = 0 := rfl
theorem val_snoc (l : List Oct) (c : Oct) : val (l ++ [c]) = 256 * val l + c.toNat := by simp [val, List.foldl_append]
theorem oct_ofInt (x : Int) : ((BitVec.ofInt 8 x).toNat : Int) = x % 256 := by
  rw [BitVec.toNat_ofInt]
  omega
theorem oct_eq (x : Int) (c : Oct) (h : x % 256 = c.toNat) : BitVec.ofInt 8 x = c := by
  apply BitVec.eq_of_toNat_eq
  have := oct_ofInt x
  omega
theorem snoc_ind {α : Type} {P : List α → Prop} (h0 : P []) (h1 : ∀ l c, P l → P (l ++ [c])) (l : List α) : P l := by
  have : ∀ n (l : List α), l.length = n → P l := by
    intro n
    induction n with
    | zero => intro l h; rw [List.eq_nil_of_length_eq_zero h]; exact h0
    | succ n ih =>
      intro l h
      rcases List.eq_nil_or_concat l with rfl | ⟨m, c, rfl⟩
      · simp at h
      · rw [List.concat_eq_append] at h ⊢
        exact h1 m c (ih m (by simpa using h))
  exact this _ l rfl
theorem val_lt (l : List Oct) : val l < 256 ^ l.length := by
  induction l using snoc_ind with
  | h0 => simp [val]
  | h1 l c ih =>
    rw [val_snoc, List.length_append, List.length_singleton, Nat.pow_succ]
    have := c.isLt
    omega
theorem emod_mul_256 (x m : Int) (hm : 0 < m) : x % (m * 256) = 256 * (x / 256 % m) + x % 256 := by
  have h0 := Int.emod_nonneg (x / 256) (Int.ne_of_gt hm)
  have h1 := Int.emod_lt_of_pos (x / 256) hm
  have h2 := Int.mul_ediv_add_emod (x / 256) m
  have e : x = (256 * (x / 256 % m) + x % 256) + (m * 256) * (x / 256 / m) := by
    have : m * 256 * (x / 256 / m) = 256 * (m * (x / 256 / m)) := by rw [Int.mul_assoc, Int.mul_left_comm]
    omega
  conv => lhs; rw [e]
  rw [Int.add_mul_emod_self_left]
  exact Int.emod_eq_of_lt (by omega) (by omega)
theorem val_be (n : Nat) : ∀ x : Int, (val (be n x) : Int) = x % 256 ^ n := by
  induction n with
  | zero => intro x; simp [be, val]
  | succ n ih =>
    intro x
    rw [be, val_snoc]
    have h1 := ih (x / 256)
    have h2 := oct_ofInt x
    have h3 : x % (256 ^ (n + 1)) = 256 * (x / 256 % 256 ^ n) + x % 256 := by
      rw [Int.pow_succ]
      exact emod_mul_256 x _ (Int.pow_pos (by decide))
    rw [h3]
    omega
theorem be_val (l : List Oct) : be l.length (val l) = l := by
  induction l using snoc_ind with
  | h0 => rfl
  | h1 l c ih =>
    rw [List.length_append, List.length_singleton, be, val_snoc]
    have hc := c.isLt
    rw [show ((256 * val l + c.toNat : Nat) : Int) / 256 = (val l : Int) by omega, ih, oct_eq _ c (by omega)]
theorem val_be_of (n : Nat) (x : Int) (h0 : 0 ≤ x) (h1 : x < 256 ^ n) : (val (be n x) : Int) = x := by
  rw [val_be, Int.emod_eq_of_lt h0 h1]
theorem be_mod (n : Nat) (x y : Int) (h : x % 256 ^ n = y % 256 ^ n) : be n x = be n y := by
  have e : ∀ z, be n z = be n (val (be n z)) := fun z => by
    have := be_val (be n z); rw [be_length] at this; exact this.symm
  rw [e x, e y, val_be, val_be, h]
/-! ### Readers and writers that fit -/
/-- What a reader finds: a fault and its place, or a thing and the place behind it. -/
inductive Rd (α : Type) where
  | bad (i : Nat)
  | ok (a : α) (i : Nat)
abbrev Pr (α : Type) := List Oct → Nat → Rd α
def Pr.ret {α : Type} (a : α) : Pr α := fun _ i => .ok a i
def Pr.andThen {α β : Type} (p : Pr α) (f : α → Pr β) : Pr β := fun b i => match p b i with
  | .bad q => .bad q
  | .ok a j => f a b j
def Pr.map {α β : Type} (p : Pr α) (f : α → β) : Pr β := fun b i => match p b i with
  | .bad q => .bad q
  | .ok a j => .ok (f a) j
/-- A reader, a writer, and which things are written: they fit. -/
structure Codec {α : Type} (p : Pr α) (e : α → List Oct) (g : α → Prop) : Prop where
  sound : ∀ {b : List Oct} {i : Nat} {a : α} {j : Nat}, i ≤ b.length → p b i = .ok a j → g a ∧ j ≤ b.length ∧ j = i + (e a).length ∧ ∃ t, b.drop i = e a ++ t
  whole : ∀ {b : List Oct} {i : Nat} {a : α} {t : List Oct}, i ≤ b.length → g a → b.drop i = e a ++ t → p b i = .ok a (i + (e a).length)
  cut : ∀ {b : List Oct} {i : Nat} {a : α} {t : List Oct}, i ≤ b.length → g a → t ≠ [] → b.drop i ++ t = e a → ∃ q, p b i = .bad q ∧ b.length ≤ q + 3 ∧ q ≤ b.length
  bad : ∀ {b : List Oct} {i q : Nat}, i ≤ b.length → p b i = .bad q → i ≤ q ∧ q ≤ b.length
section
variable {α β : Type}
theorem drop_behind {b : List Oct} {i : Nat} {x t : List Oct} (hi : i ≤ b.length) (h : b.drop i = x ++ t) : i + x.length ≤ b.length ∧ b.drop (i + x.length) = t := by
  have hl := congrArg List.length h
  rw [List.length_drop, List.length_append] at hl
  refine ⟨by omega, ?_⟩
  rw [← List.drop_drop, h, List.drop_left]
theorem Codec.ret (a : α) : Codec (Pr.ret a) (fun _ => []) (fun x => x = a) where
  sound := fun hi h => by
    injection h with h1 h2
    subst h1 h2
    exact ⟨rfl, hi, rfl, _, rfl⟩
  whole := fun _ hg _ => by subst hg; rfl
  cut := fun _ _ ht h => absurd (List.append_eq_nil_iff.1 h).2 ht
  bad := fun _ h => by cases h
theorem Codec.congr {p : Pr α} {e e' : α → List Oct} {g g' : α → Prop} (h : Codec p e g) (he : ∀ a, g a → e a = e' a) (hg : ∀ a, g a ↔ g' a) : Codec p e' g' where
  sound := fun hi hp => by
    obtain ⟨h1, h2, h3, t, h4⟩ := h.sound hi hp
    rw [← he _ h1]
    exact ⟨(hg _).1 h1, h2, h3, t, h4⟩
  whole := fun {b i a t} hi ha hd => by
    have h1 := (hg _).2 ha
    rw [← he _ h1] at hd ⊢
    exact h.whole hi h1 hd
  cut := fun hi ha ht hd => by
    have h1 := (hg _).2 ha
    rw [← he _ h1] at hd
    exact h.cut hi h1 ht hd
  bad := h.bad
theorem Codec.iso {p : Pr α} {e : α → List Oct} {g : α → Prop} (h : Codec p e g) (f : α → β) (e' : β → List Oct) (g' : β → Prop) (h1 : ∀ a, g a → g' (f a) ∧ e' (f a) = e a) (h2 : ∀ c, g' c → ∃ a, g a ∧ f a = c) : Codec (p.map f) e' g' where
  sound := fun {b i c j} hi hp => by
    unfold Pr.map at hp
    split at hp
    · cases hp
    · rename_i a j' e1
      injection hp with ha hj
      subst ha hj
      obtain ⟨ga, hj, he, t, ht⟩ := h.sound hi e1
      rw [(h1 a ga).2]
      exact ⟨(h1 a ga).1, hj, he, t, ht⟩
  whole := fun {b i c t} hi hc hd => by
    obtain ⟨a, ga, rfl⟩ := h2 c hc
    rw [(h1 a ga).2] at hd ⊢
    unfold Pr.map
    rw [h.whole hi ga hd]
  cut := fun {b i c t} hi hc ht hd => by
    obtain ⟨a, ga, rfl⟩ := h2 c hc
    rw [(h1 a ga).2] at hd
    obtain ⟨q, hq, hr⟩ := h.cut hi ga ht hd
    exact ⟨q, by unfold Pr.map; rw [hq], hr⟩
  bad := fun {b i q} hi hp => by
    unfold Pr.map at hp
    split at hp
    · rename_i q' e1
      injection hp with hq
      subst hq
      exact h.bad hi e1
    · cases hp
theorem Codec.seq {p : Pr α} {e : α → List Oct} {g : α → Prop} {p2 : α → Pr β} {e2 : α → β → List Oct} {g2 : α → β → Prop} (h : Codec p e g) (h2 : ∀ a, g a → Codec (p2 a) (e2 a) (g2 a)) :
    Codec (p.andThen fun a => (p2 a).map fun c => (a, c)) (fun x => e x.1 ++ e2 x.1 x.2) (fun x => g x.1 ∧ g2 x.1 x.2) where
  sound := fun {b i x j} hi hp => by
    unfold Pr.andThen at hp
    split at hp
    · cases hp
    · rename_i a j' e1
      obtain ⟨ga, hj, he, t, ht⟩ := h.sound hi e1
      obtain ⟨hl, hd⟩ := drop_behind hi ht
      change Pr.map _ _ b _ = _ at hp
      unfold Pr.map at hp
      split at hp
      · cases hp
      · rename_i c j2 e3
        injection hp with hx hj2
        subst hx hj2
        obtain ⟨gc, hj3, he3, t3, ht3⟩ := (h2 a ga).sound hj e3
        rw [he] at ht3
        rw [hd] at ht3
        refine ⟨⟨ga, gc⟩, hj3, ?_, t3, ?_⟩
        · show _ = i + (e a ++ e2 a c).length
          rw [List.length_append]; omega
        · rw [ht, ht3, List.append_assoc]
  whole := fun {b i x t} hi hg hd => by
    obtain ⟨a, c⟩ := x
    rw [List.append_assoc] at hd
    obtain ⟨hl, hd2⟩ := drop_behind hi hd
    unfold Pr.andThen
    rw [h.whole hi hg.1 hd]
    show Pr.map _ _ b _ = _
    unfold Pr.map
    rw [(h2 a hg.1).whole hl hg.2 hd2]
    show Rd.ok _ _ = Rd.ok _ _
    rw [List.length_append, Nat.add_assoc]
  cut := fun {b i x t} hi hg ht hd => by
    obtain ⟨a, c⟩ := x
    rcases List.append_eq_append_iff.1 hd with ⟨u, hu1, hu2⟩ | ⟨u, hu1, hu2⟩
    · by_cases hu : u = []
      · subst hu
        rw [List.append_nil] at hu1
        rw [List.nil_append] at hu2
        have hd1 : b.drop i = e a ++ [] := by rw [List.append_nil]; exact hu1.symm
        obtain ⟨hl, hd2⟩ := drop_behind hi hd1
        obtain ⟨q, hq, hr⟩ := (h2 a hg.1).cut hl hg.2 ht (by rw [hd2]; exact hu2)
        refine ⟨q, ?_, hr⟩
        unfold Pr.andThen
        rw [h.whole hi hg.1 hd1]
        show Pr.map _ _ b _ = _
        unfold Pr.map
        rw [hq]
      · obtain ⟨q, hq, hr⟩ := h.cut hi hg.1 hu hu1.symm
        exact ⟨q, by unfold Pr.andThen; rw [hq], hr⟩
    · obtain ⟨hl, hd2⟩ := drop_behind hi hu1
      obtain ⟨q, hq, hr⟩ := (h2 a hg.1).cut hl hg.2 ht (by rw [hd2]; exact hu2.symm)
      refine ⟨q, ?_, hr⟩
      unfold Pr.andThen
      rw [h.whole hi hg.1 hu1]
      show Pr.map _ _ b _ = _
      unfold Pr.map
      rw [hq]
  bad := fun {b i q} hi hp => by
    unfold Pr.andThen at hp
    split at hp
    · rename_i q' e1
      injection hp with hq
      subst hq
      exact h.bad hi e1
    · rename_i a j e1
      obtain ⟨ga, hj, he, t, ht⟩ := h.sound hi e1
      change Pr.map _ _ b _ = _ at hp
      unfold Pr.map at hp
      split at hp
      · rename_i q' e3
        injection hp with hq
        subst hq
        have := (h2 a ga).bad hj e3
        exact ⟨by omega, this.2⟩
      · cases hp
/-- So many of a kind. -/
def repP (p : Pr α) : Nat → Pr (List α)
  | 0 => Pr.ret []
  | n + 1 => p.andThen fun a => (repP p n).map fun l => a :: l
theorem map_map {γ : Type} (p : Pr α) (f : α → β) (g : β → γ) : (p.map f).map g = p.map (fun a => g (f a)) := by
  funext b i
  unfold Pr.map
  cases p b i <;> rfl
theorem andThen_map {γ : Type} (p : Pr α) (f : α → Pr β) (g : β → γ) : (p.andThen f).map g = p.andThen (fun a => (f a).map g) := by
  funext b i
  unfold Pr.map Pr.andThen
  cases p b i <;> rfl
theorem Codec.rep {p : Pr α} {e : α → List Oct} {g : α → Prop} (h : Codec p e g) (n : Nat) : Codec (repP p n) (fun l => l.flatMap e) (fun l => l.length = n ∧ ∀ a ∈ l, g a) := by
  induction n with
  | zero =>
    refine (Codec.ret []).congr (fun a ha => by subst ha; rfl) (fun a => ⟨fun ha => by subst ha; simp, fun ha => List.eq_nil_of_length_eq_zero ha.1⟩)
  | succ n ih =>
    have h1 := (h.seq (fun a _ => ih)).iso (fun x => x.1 :: x.2) (fun l => l.flatMap e) (fun l => l.length = n + 1 ∧ ∀ a ∈ l, g a) (fun x hx => ⟨⟨by simp [hx.2.1], fun a ha => by
      rcases List.mem_cons.1 ha with rfl | h
      · exact hx.1
      · exact hx.2.2 a h⟩, by simp⟩) (fun l hl => by
      cases l with
      | nil => simp at hl
      | cons a l => exact ⟨(a, l), ⟨hl.2 a (by simp), by simpa using hl.1, fun c hc => hl.2 c (by simp [hc])⟩, rfl⟩)
    rw [andThen_map] at h1
    simp only [map_map] at h1
    exact h1
/-- A number. -/
def numP (n : Nat) : Pr Int := fun b i => if i + n ≤ b.length then .ok (val ((b.drop i).take n)) (i + n) else .bad i
theorem Codec.num (n : Nat) (h4 : n ≤ 4) : Codec (numP n) (be n) (fun x => 0 ≤ x ∧ x < 256 ^ n) where
  sound := fun {b i a j} hi hp => by
    unfold numP at hp
    split at hp
    · rename_i hl
      injection hp with ha hj
      subst ha hj
      have hlen : ((b.drop i).take n).length = n := by rw [List.length_take, List.length_drop]; omega
      have h1 := val_lt ((b.drop i).take n)
      have h2 := be_val ((b.drop i).take n)
      rw [hlen] at h1 h2
      refine ⟨⟨by omega, ?_⟩, hl, by rw [be_length], (b.drop i).drop n, ?_⟩
      · have e : ((256 ^ n : Nat) : Int) = (256 : Int) ^ n := by simp
        rw [← e]; omega
      · rw [h2, List.take_append_drop]
    · cases hp
  whole := fun {b i a t} hi hg hd => by
    have hl := (drop_behind hi hd).1
    rw [be_length] at hl
    unfold numP
    rw [if_pos hl, hd, List.take_left' (be_length n a), val_be_of n a hg.1 hg.2, be_length]
  cut := fun {b i a t} hi hg ht hd => by
    have hl := congrArg List.length hd
    rw [List.length_append, List.length_drop, be_length] at hl
    have := List.length_pos_iff.2 ht
    refine ⟨i, ?_, by omega, hi⟩
    unfold numP
    rw [if_neg (by omega)]
  bad := fun {b i q} hi hp => by
    unfold numP at hp
    split at hp
    · cases hp
    · injection hp with h
      subst h
      exact ⟨Nat.le_refl _, hi⟩
/-- Of 32 bits, with a sign. -/
def sx32 (v : Int) : Int := if v < 2147483648 then v else v - 4294967296
def s32P : Pr Int := (numP 4).map sx32
theorem Codec.s32 : Codec s32P (be 4) (fun x => -2147483648 ≤ x ∧ x ≤ 2147483647) :=
  (Codec.num 4 (Nat.le_refl _)).iso sx32 _ _ (fun a ha => by
    have e : sx32 a % 256 ^ 4 = a % 256 ^ 4 := by unfold sx32; split <;> omega
    refine ⟨by unfold sx32; split <;> omega, be_mod 4 _ _ e⟩) (fun c hc => ⟨c % 4294967296, by omega, by unfold sx32; split <;> omega⟩)
def sx8 (v : Int) : Int := if v < 128 then v else v - 256
def s8P : Pr Int := (numP 1).map sx8
theorem Codec.s8 : Codec s8P (be 1) (fun x => -128 ≤ x ∧ x ≤ 127) :=
  (Codec.num 1 (by decide)).iso sx8 _ _ (fun a ha => by
    have e : sx8 a % 256 ^ 1 = a % 256 ^ 1 := by unfold sx8; split <;> omega
    refine ⟨by unfold sx8; split <;> omega, be_mod 1 _ _ e⟩) (fun c hc => ⟨c % 256, by omega, by unfold sx8; split <;> omega⟩)
/-- A byte that says no or yes. -/
def flagP : Pr Bool := fun b i => match numP 1 b i with
  | .bad q => .bad q
  | .ok v j => if v = 0 then .ok false j else if v = 1 then .ok true j else .bad i
def bit (c : Bool) : Int := if c then 1 else 0
theorem Codec.flag : Codec flagP (fun c => be 1 (bit c)) (fun _ => True) where
  sound := fun {b i a j} hi hp => by
    unfold flagP at hp
    split at hp
    · cases hp
    · rename_i v j' e1
      obtain ⟨_, hj, he, t, ht⟩ := (Codec.num 1 (by decide)).sound hi e1
      split at hp
      · rename_i h0
        injection hp with h1 h2
        subst h0 h1 h2
        exact ⟨trivial, hj, he, t, ht⟩
      · split at hp
        · rename_i h0
          injection hp with h1 h2
          subst h0 h1 h2
          exact ⟨trivial, hj, he, t, ht⟩
        · cases hp
  whole := fun {b i a t} hi _ hd => by
    have h := (Codec.num 1 (by decide)).whole hi (a := bit a) (by cases a <;> decide) hd
    unfold flagP
    rw [h]
    cases a <;> rfl
  cut := fun {b i a t} hi _ ht hd => by
    obtain ⟨q, hq, hr⟩ := (Codec.num 1 (by decide)).cut hi (a := bit a) (by cases a <;> decide) ht hd
    exact ⟨q, by unfold flagP; rw [hq], hr⟩
  bad := fun {b i q} hi hp => by
    unfold flagP at hp
    split at hp
    · rename_i q' e1
      injection hp with hq
      subst hq
      exact (Codec.num 1 (by decide)).bad hi e1
    · rename_i v j e1
      split at hp
      · cases hp
      · split at hp
        · cases hp
        · injection hp with hq
          subst hq
          exact ⟨Nat.le_refl _, hi⟩
/-- Bytes that are known ahead. -/
def litP : List Oct → Pr Unit
  | [] => Pr.ret ()
  | c :: l => fun b i => if b[i]? = some c then litP l b (i + 1) else .bad i
theorem drop_of_get {b : List Oct} {i : Nat} {c : Oct} (h : b[i]? = some c) : b.drop i = c :: b.drop (i + 1) := by
  obtain ⟨hi, rfl⟩ := List.getElem?_eq_some_iff.1 h
  exact List.drop_eq_getElem_cons hi
theorem get_of_drop {b t : List Oct} {i : Nat} {c : Oct} (h : b.drop i = c :: t) : b[i]? = some c ∧ b.drop (i + 1) = t := by
  have h1 : (b.drop i)[0]? = some c := by rw [h]; rfl
  rw [List.getElem?_drop, Nat.add_zero] at h1
  have h2 := drop_of_get h1
  rw [h] at h2
  injection h2 with _ h2
  exact ⟨h1, h2.symm⟩
theorem Codec.lit (l : List Oct) : Codec (litP l) (fun _ => l) (fun _ => True) := by
  induction l with
  | nil => exact (Codec.ret ()).congr (fun _ _ => rfl) (fun _ => by simp)
  | cons c l ih =>
    refine ⟨fun {b i a j} hi hp => ?_, fun {b i a t} hi _ hd => ?_, fun {b i a t} hi _ ht hd => ?_, fun {b i q} hi hp => ?_⟩
    · unfold litP at hp
      split at hp
      · rename_i h
        have hi' := (List.getElem?_eq_some_iff.1 h).1
        obtain ⟨_, h2, h3, t, h4⟩ := ih.sound hi' hp
        refine ⟨trivial, h2, by rw [List.length_cons]; omega, t, ?_⟩
        rw [drop_of_get h, h4]; rfl
      · cases hp
    · obtain ⟨h1, h2⟩ := get_of_drop hd
      have hi' := (List.getElem?_eq_some_iff.1 h1).1
      unfold litP
      rw [if_pos h1, ih.whole (a := a) hi' trivial h2]
      congr 1
      rw [List.length_cons]; omega
    · unfold litP
      by_cases hb : b.drop i = []
      · have hl := congrArg List.length hb
        rw [List.length_drop, List.length_nil] at hl
        rw [if_neg (by rw [List.getElem?_eq_none (by omega)]; simp)]
        exact ⟨i, rfl, by omega, hi⟩
      · obtain ⟨d, r, hd0⟩ := List.exists_cons_of_ne_nil hb
        obtain ⟨h1, h2⟩ := get_of_drop hd0
        have hi' := (List.getElem?_eq_some_iff.1 h1).1
        rw [hd0, List.cons_append] at hd
        injection hd with e1 e2
        subst e1
        rw [if_pos h1]
        exact ih.cut (a := a) hi' trivial ht (by rw [h2]; exact e2)
    · unfold litP at hp
      split at hp
      · rename_i h
        have hi' := (List.getElem?_eq_some_iff.1 h).1
        have := ih.bad hi' hp
        exact ⟨by omega, this.2⟩
      · injection hp with h
        subst h
        exact ⟨Nat.le_refl _, hi⟩
end
end Go.Proofs.YtcmbdnjcfneinaaGreatDoor
/-
  Readers and writers that fit, numbers of any width among them; sections: the plain laws of chapter 19. Conditions: none.
-/
namespace Go.Proofs.YtcmbdnjcfneinaaGreatDoor
/-- A reader, a writer, and which things are written: they fit (nothing is said of what is cut off). -/
structure Co {α : Type} (p : Pr α) (e : α → List Oct) (g : α → Prop) : Prop where
  sound : ∀ {b : List Oct} {i : Nat} {a : α} {j : Nat}, i ≤ b.length → p b i = .ok a j → g a ∧ j ≤ b.length ∧ j = i + (e a).length ∧ ∃ t, b.drop i = e a ++ t
  whole : ∀ {b : List Oct} {i : Nat} {a : α} {t : List Oct}, i ≤ b.length → g a → b.drop i = e a ++ t → p b i = .ok a (i + (e a).length)
  bad : ∀ {b : List Oct} {i q : Nat}, i ≤ b.length → p b i = .bad q → i ≤ q ∧ q ≤ b.length
section
variable {α β : Type}
theorem Co.ret (a : α) : Co (Pr.ret a) (fun _ => []) (fun x => x = a) where
  sound := fun hi h => by
    injection h with h1 h2
    subst h1 h2
    exact ⟨rfl, hi, rfl, _, rfl⟩
  whole := fun _ hg _ => by subst hg; rfl
  bad := fun _ h => by cases h
theorem Co.congr {p : Pr α} {e e' : α → List Oct} {g g' : α → Prop} (h : Co p e g) (he : ∀ a, g a → e a = e' a) (hg : ∀ a, g a ↔ g' a) : Co p e' g' where
  sound := fun hi hp => by
    obtain ⟨h1, h2, h3, t, h4⟩ := h.sound hi hp
    rw [← he _ h1]
    exact ⟨(hg _).1 h1, h2, h3, t, h4⟩
  whole := fun {b i a t} hi ha hd => by
    have h1 := (hg _).2 ha
    rw [← he _ h1] at hd ⊢
    exact h.whole hi h1 hd
  bad := h.bad
theorem Co.iso {p : Pr α} {e : α → List Oct} {g : α → Prop} (h : Co p e g) (f : α → β) (e' : β → List Oct) (g' : β → Prop) (h1 : ∀ a, g a → g' (f a) ∧ e' (f a) = e a) (h2 : ∀ c, g' c → ∃ a, g a ∧ f a = c) : Co (p.map f) e' g' where
  sound := fun {b i c j} hi hp => by
    unfold Pr.map at hp
    split at hp
    · cases hp
    · rename_i a j' e1
      injection hp with ha hj
      subst ha hj
      obtain ⟨ga, hj, he, t, ht⟩ := h.sound hi e1
      rw [(h1 a ga).2]
      exact ⟨(h1 a ga).1, hj, he, t, ht⟩
  whole := fun {b i c t} hi hc hd => by
    obtain ⟨a, ga, rfl⟩ := h2 c hc
    rw [(h1 a ga).2] at hd ⊢
    unfold Pr.map
    rw [h.whole hi ga hd]
  bad := fun {b i q} hi hp => by
    unfold Pr.map at hp
    split at hp
    · rename_i q' e1
      injection hp with hq
      subst hq
      exact h.bad hi e1
    · cases hp
theorem Co.seq {p : Pr α} {e : α → List Oct} {g : α → Prop} {p2 : α → Pr β} {e2 : α → β → List Oct} {g2 : α → β → Prop} (h : Co p e g) (h2 : ∀ a, g a → Co (p2 a) (e2 a) (g2 a)) :
    Co (p.andThen fun a => (p2 a).map fun c => (a, c)) (fun x => e x.1 ++ e2 x.1 x.2) (fun x => g x.1 ∧ g2 x.1 x.2) where
  sound := fun {b i x j} hi hp => by
    unfold Pr.andThen at hp
    split at hp
    · cases hp
    · rename_i a j' e1
      obtain ⟨ga, hj, he, t, ht⟩ := h.sound hi e1
      obtain ⟨hl, hd⟩ := drop_behind hi ht
      change Pr.map _ _ b _ = _ at hp
      unfold Pr.map at hp
      split at hp
      · cases hp
      · rename_i c j2 e3
        injection hp with hx hj2
        subst hx hj2
        obtain ⟨gc, hj3, he3, t3, ht3⟩ := (h2 a ga).sound hj e3
        rw [he] at ht3
        rw [hd] at ht3
        refine ⟨⟨ga, gc⟩, hj3, ?_, t3, ?_⟩
        · show _ = i + (e a ++ e2 a c).length
          rw [List.length_append]; omega
        · rw [ht, ht3, List.append_assoc]
  whole := fun {b i x t} hi hg hd => by
    obtain ⟨a, c⟩ := x
    rw [List.append_assoc] at hd
    obtain ⟨hl, hd2⟩ := drop_behind hi hd
    unfold Pr.andThen
    rw [h.whole hi hg.1 hd]
    show Pr.map _ _ b _ = _
    unfold Pr.map
    rw [(h2 a hg.1).whole hl hg.2 hd2]
    show Rd.ok _ _ = Rd.ok _ _
    rw [List.length_append, Nat.add_assoc]
  bad := fun {b i q} hi hp => by
    unfold Pr.andThen at hp
    split at hp
    · rename_i q' e1
      injection hp with hq
      subst hq
      exact h.bad hi e1
    · rename_i a j e1
      obtain ⟨ga, hj, he, t, ht⟩ := h.sound hi e1
      change Pr.map _ _ b _ = _ at hp
      unfold Pr.map at hp
      split at hp
      · rename_i q' e3
        injection hp with hq
        subst hq
        have := (h2 a ga).bad hj e3
        exact ⟨by omega, this.2⟩
      · cases hp
theorem Co.rep {p : Pr α} {e : α → List Oct} {g : α → Prop} (h : Co p e g) (n : Nat) : Co (repP p n) (fun l => l.flatMap e) (fun l => l.length = n ∧ ∀ a ∈ l, g a) := by
  induction n with
  | zero =>
    refine (Co.ret []).congr (fun a ha => by subst ha; rfl) (fun a => ⟨fun ha => by subst ha; simp, fun ha => List.eq_nil_of_length_eq_zero ha.1⟩)
  | succ n ih =>
    have h1 := (h.seq (fun a _ => ih)).iso (fun x => x.1 :: x.2) (fun l => l.flatMap e) (fun l => l.length = n + 1 ∧ ∀ a ∈ l, g a) (fun x hx => ⟨⟨by simp [hx.2.1], fun a ha => by
      rcases List.mem_cons.1 ha with rfl | h
      · exact hx.1
      · exact hx.2.2 a h⟩, by simp⟩) (fun l hl => by
      cases l with
      | nil => simp at hl
      | cons a l => exact ⟨(a, l), ⟨hl.2 a (by simp), by simpa using hl.1, fun c hc => hl.2 c (by simp [hc])⟩, rfl⟩)
    rw [andThen_map] at h1
    simp only [map_map] at h1
    exact h1
theorem Co.num (n : Nat) : Co (numP n) (be n) (fun x => 0 ≤ x ∧ x < 256 ^ n) where
  sound := fun {b i a j} hi hp => by
    unfold numP at hp
    split at hp
    · rename_i hl
      injection hp with ha hj
      subst ha hj
      have hlen : ((b.drop i).take n).length = n := by rw [List.length_take, List.length_drop]; omega
      have h1 := val_lt ((b.drop i).take n)
      have h2 := be_val ((b.drop i).take n)
      rw [hlen] at h1 h2
      refine ⟨⟨by omega, ?_⟩, hl, by rw [be_length], (b.drop i).drop n, ?_⟩
      · have e : ((256 ^ n : Nat) : Int) = (256 : Int) ^ n := by simp
        rw [← e]; omega
      · rw [h2, List.take_append_drop]
    · cases hp
  whole := fun {b i a t} hi hg hd => by
    have hl := (drop_behind hi hd).1
    rw [be_length] at hl
    unfold numP
    rw [if_pos hl, hd, List.take_left' (be_length n a), val_be_of n a hg.1 hg.2, be_length]
  bad := fun {b i q} hi hp => by
    unfold numP at hp
    split at hp
    · cases hp
    · injection hp with h
      subst h
      exact ⟨Nat.le_refl _, hi⟩
/-- Of 64 bits, with a sign. -/
def sx64 (v : Int) : Int := if v < 9223372036854775808 then v else v - 18446744073709551616
def s64P : Pr Int := (numP 8).map sx64
theorem Co.s64 : Co s64P (be 8) (fun x => -9223372036854775808 ≤ x ∧ x ≤ 9223372036854775807) :=
  (Co.num 8).iso sx64 _ _ (fun a ha => by
    have e : sx64 a % 256 ^ 8 = a % 256 ^ 8 := by unfold sx64; split <;> omega
    refine ⟨by unfold sx64; split <;> omega, be_mod 8 _ _ e⟩) (fun c hc => ⟨c % 18446744073709551616, by omega, by unfold sx64; split <;> omega⟩)
theorem Co.s8 : Co s8P (be 1) (fun x => -128 ≤ x ∧ x ≤ 127) :=
  (Co.num 1).iso sx8 _ _ (fun a ha => by
    have e : sx8 a % 256 ^ 1 = a % 256 ^ 1 := by unfold sx8; split <;> omega
    refine ⟨by unfold sx8; split <;> omega, be_mod 1 _ _ e⟩) (fun c hc => ⟨c % 256, by omega, by unfold sx8; split <;> omega⟩)
/-- So many bytes, as they are. -/
def takeP (n : Nat) : Pr (List Oct) := fun b i => if i + n ≤ b.length then .ok ((b.drop i).take n) (i + n) else .bad i
theorem Co.take (n : Nat) : Co (takeP n) (fun l => l) (fun l => l.length = n) where
  sound := fun {b i a j} hi hp => by
    unfold takeP at hp
    split at hp
    · rename_i hl
      injection hp with ha hj
      subst ha hj
      have hlen : ((b.drop i).take n).length = n := by rw [List.length_take, List.length_drop]; omega
      exact ⟨hlen, hl, by rw [hlen], (b.drop i).drop n, (List.take_append_drop _ _).symm⟩
    · cases hp
  whole := fun {b i a t} hi hg hd => by
    have hl := (drop_behind hi hd).1
    unfold takeP
    subst hg
    rw [if_pos hl, hd, List.take_left' rfl]
  bad := fun {b i q} hi hp => by
    unfold takeP at hp
    split at hp
    · cases hp
    · injection hp with h
      subst h
      exact ⟨Nat.le_refl _, hi⟩
theorem map_same (p : Pr α) : (p.map fun a => a) = p := by
  funext b i
  unfold Pr.map
  cases p b i <;> rfl
/-- A count ahead of so many. -/
def listP (n : Nat) (p : Pr α) : Pr (List α) := (numP n).andThen fun m => repP p m.toNat
theorem Co.list {p : Pr α} {e : α → List Oct} {g : α → Prop} (h : Co p e g) (n : Nat) : Co (listP n p) (fun l => be n l.length ++ l.flatMap e) (fun l => (l.length : Int) < 256 ^ n ∧ ∀ a ∈ l, g a) := by
  have h1 := ((Co.num n).seq (fun m _ => h.rep m.toNat)).iso Prod.snd (fun l => be n l.length ++ l.flatMap e) (fun l => (l.length : Int) < 256 ^ n ∧ ∀ a ∈ l, g a)
    (fun x hx => by
      obtain ⟨m, l⟩ := x
      obtain ⟨⟨h0, hlt⟩, hl, ha⟩ := hx
      have e : (l.length : Int) = m := by simp only [] at hl; omega
      exact ⟨⟨by show (l.length : Int) < _; rw [e]; exact hlt, ha⟩, by show be n l.length ++ _ = _; rw [e]⟩)
    (fun l hl => ⟨((l.length : Int), l), ⟨⟨by show (0 : Int) ≤ l.length; omega, hl.1⟩, by show l.length = (l.length : Int).toNat; omega, hl.2⟩, rfl⟩)
  rw [andThen_map] at h1
  simp only [map_map, map_same] at h1
  exact h1
/-- A count ahead of so many bytes. -/
def bytesP (n : Nat) : Pr (List Oct) := (numP n).andThen fun m => takeP m.toNat
theorem Co.bytes (n : Nat) : Co (bytesP n) (fun l => be n l.length ++ l) (fun l => (l.length : Int) < 256 ^ n) := by
  have h1 := ((Co.num n).seq (fun m _ => Co.take m.toNat)).iso Prod.snd (fun l => be n l.length ++ l) (fun l => (l.length : Int) < 256 ^ n)
    (fun x hx => by
      obtain ⟨m, l⟩ := x
      obtain ⟨⟨h0, hlt⟩, hl⟩ := hx
      have e : (l.length : Int) = m := by simp only [] at hl; omega
      exact ⟨by show (l.length : Int) < _; rw [e]; exact hlt, by show be n l.length ++ _ = _; rw [e]⟩)
    (fun l hl => ⟨((l.length : Int), l), ⟨⟨by show (0 : Int) ≤ l.length; omega, hl⟩, by show l.length = (l.length : Int).toNat; omega⟩, rfl⟩)
  rw [andThen_map] at h1
  simp only [map_map, map_same] at h1
  exact h1
end
end Go.Proofs.YtcmbdnjcfneinaaGreatDoor
/-
  Packs as bytes: what is written, what is read, and that they fit: the plain laws of chapter 19. Conditions: none.
-/
namespace Go.Proofs.YtcmbdnjcfneinaaGreatDoor
/-- An effect. -/
structure Eff where
  on : Int
  slots : List Int
  bound : Int
  code : List Oct
/-- A kind. -/
structure Knd where
  name : Int
  cost : Int
  power : Int
  health : Int
  tags : List Int
  effs : List Eff
/-- A pack. -/
structure Pk where
  cards : Int
  ints : List Int
  texts : List (List Oct)
  kinds : List Knd
def effE (e : Eff) : List Oct := be 1 e.on ++ ((be 1 e.slots.length ++ e.slots.flatMap (be 1)) ++ (be 8 e.bound ++ (be 2 e.code.length ++ e.code)))
def kndE (k : Knd) : List Oct := be 2 k.name ++ (be 4 k.cost ++ (be 4 k.power ++ (be 4 k.health ++ ((be 1 k.tags.length ++ k.tags.flatMap (be 2)) ++ (be 1 k.effs.length ++ k.effs.flatMap effE)))))
def textE (t : List Oct) : List Oct := be 1 t.length ++ t
def intsE (l : List Int) : List Oct := be 2 l.length ++ l.flatMap (be 8)
def textsE (l : List (List Oct)) : List Oct := be 2 l.length ++ l.flatMap textE
def kindsE (l : List Knd) : List Oct := be 2 l.length ++ l.flatMap kndE
def goodEff (e : Eff) : Prop := (0 ≤ e.on ∧ e.on < 256) ∧ ((e.slots.length : Int) < 256 ∧ ∀ x ∈ e.slots, -128 ≤ x ∧ x ≤ 127) ∧ (-9223372036854775808 ≤ e.bound ∧ e.bound ≤ 9223372036854775807) ∧ (e.code.length : Int) < 65536
def goodKnd (k : Knd) : Prop := (0 ≤ k.name ∧ k.name < 65536) ∧ (0 ≤ k.cost ∧ k.cost < 4294967296) ∧ (0 ≤ k.power ∧ k.power < 4294967296) ∧ (0 ≤ k.health ∧ k.health < 4294967296) ∧ ((k.tags.length : Int) < 256 ∧ ∀ x ∈ k.tags, 0 ≤ x ∧ x < 65536) ∧ ((k.effs.length : Int) < 256 ∧ ∀ x ∈ k.effs, goodEff x)
def goodText (t : List Oct) : Prop := (t.length : Int) < 256
def effP : Pr Eff := (numP 1).andThen fun on => (listP 1 s8P).andThen fun sl => s64P.andThen fun bo => (bytesP 2).map fun co => ⟨on, sl, bo, co⟩
def kndP : Pr Knd := (numP 2).andThen fun n => (numP 4).andThen fun c => (numP 4).andThen fun p => (numP 4).andThen fun h => (listP 1 (numP 2)).andThen fun t => (listP 1 effP).map fun e => ⟨n, c, p, h, t, e⟩
theorem Co.eff : Co effP effE goodEff := by
  have h := ((Co.num 1).seq (fun _ _ => (Co.s8.list 1).seq (fun _ _ => Co.s64.seq (fun _ _ => Co.bytes 2)))).iso (fun x => (⟨x.1, x.2.1, x.2.2.1, x.2.2.2⟩ : Eff)) effE goodEff
    (fun x hx => ⟨hx, rfl⟩) (fun e he => ⟨(e.on, e.slots, e.bound, e.code), he, rfl⟩)
  simp only [andThen_map, map_map] at h
  exact h
theorem Co.knd : Co kndP kndE goodKnd := by
  have h := ((Co.num 2).seq (fun _ _ => (Co.num 4).seq (fun _ _ => (Co.num 4).seq (fun _ _ => (Co.num 4).seq (fun _ _ => ((Co.num 2).list 1).seq (fun _ _ => Co.eff.list 1)))))).iso (fun x => (⟨x.1, x.2.1, x.2.2.1, x.2.2.2.1, x.2.2.2.2.1, x.2.2.2.2.2⟩ : Knd)) kndE goodKnd
    (fun x hx => ⟨hx, rfl⟩) (fun k hk => ⟨(k.name, k.cost, k.power, k.health, k.tags, k.effs), hk, rfl⟩)
  simp only [andThen_map, map_map] at h
  exact h
theorem Co.cards : Co (numP 2) (be 2) (fun x => 0 ≤ x ∧ x < 65536) := Co.num 2
theorem Co.ints : Co (listP 2 s64P) intsE (fun l => (l.length : Int) < 65536 ∧ ∀ a ∈ l, -9223372036854775808 ≤ a ∧ a ≤ 9223372036854775807) := Co.s64.list 2
theorem Co.texts : Co (listP 2 (bytesP 1)) textsE (fun l => (l.length : Int) < 65536 ∧ ∀ a ∈ l, goodText a) := (Co.bytes 1).list 2
theorem Co.kinds : Co (listP 2 kndP) kindsE (fun l => (l.length : Int) < 65536 ∧ ∀ a ∈ l, goodKnd a) := Co.knd.list 2
/-! ### Sections -/
/-- What a reader of sections finds: a fault, its number and its place, or a thing and the place behind it. -/
inductive Rs (α : Type) where
  | bad (e : Nat) (i : Nat)
  | ok (a : α) (i : Nat)
abbrev Ps (α : Type) := List Oct → Nat → Rs α
def Ps.andThen {α β : Type} (p : Ps α) (f : α → Ps β) : Ps β := fun b i => match p b i with
  | .bad e q => .bad e q
  | .ok a j => f a b j
def Ps.map {α β : Type} (p : Ps α) (f : α → β) : Ps β := fun b i => match p b i with
  | .bad e q => .bad e q
  | .ok a j => .ok (f a) j
/-- A section: its number, its length, its body, nothing more. -/
def secP {α : Type} (id : Oct) (p : Pr α) : Ps α := fun b i =>
  if b.length < i + 5 ∨ b[i]? ≠ some id then .bad 54 i else
  let n := val ((b.drop (i + 1)).take 4)
  if b.length < i + 5 + n then .bad 54 i else
  match p (b.take (i + 5 + n)) (i + 5) with
  | .bad q => .bad 50 q
  | .ok a j => if j < i + 5 + n then .bad 55 j else .ok a j
def secE (id : Oct) (l : List Oct) : List Oct := id :: (be 4 l.length ++ l)
theorem secE_length (id : Oct) (l : List Oct) : (secE id l).length = 5 + l.length := by
  unfold secE
  rw [List.length_cons, List.length_append, be_length]; omega
/-- A reader of sections and a writer: they fit. -/
structure Cs {α : Type} (p : Ps α) (e : α → List Oct) (g : α → Prop) : Prop where
  sound : ∀ {b : List Oct} {i : Nat} {a : α} {j : Nat}, i ≤ b.length → p b i = .ok a j → g a ∧ j ≤ b.length ∧ j = i + (e a).length ∧ ∃ t, b.drop i = e a ++ t
  whole : ∀ {b : List Oct} {i : Nat} {a : α} {t : List Oct}, i ≤ b.length → g a → b.drop i = e a ++ t → p b i = .ok a (i + (e a).length)
  bad : ∀ {b : List Oct} {i q n : Nat}, i ≤ b.length → p b i = .bad n q → i ≤ q ∧ q ≤ b.length ∧ n ≠ 0
theorem Cs.sec {α : Type} {p : Pr α} {e : α → List Oct} {g : α → Prop} (h : Co p e g) (id : Oct) : Cs (secP id p) (fun a => secE id (e a)) (fun a => g a ∧ (e a).length < 4294967296) where
  sound := fun {b i a j} hi hp => by
    unfold secP at hp
    split at hp
    · cases hp
    · rename_i h1
      have hlen : i + 5 ≤ b.length := by omega
      have hid : b[i]? = some id := by
        rcases Classical.em (b[i]? = some id) with h2 | h2
        · exact h2
        · exact absurd (.inr h2) h1
      simp only [] at hp
      generalize hn : val ((b.drop (i + 1)).take 4) = n at hp
      split at hp
      · cases hp
      · rename_i h2
        split at hp
        · cases hp
        · rename_i a' j' e1
          split at hp
          · cases hp
          · rename_i h3
            injection hp with h4 h5
            subst h4 h5
            have hlt : (b.take (i + 5 + n)).length = i + 5 + n := by rw [List.length_take]; omega
            obtain ⟨ga, hj, he, t, ht⟩ := h.sound (by rw [hlt]; omega) e1
            rw [hlt] at hj
            have hjj : j' = i + 5 + n := by omega
            have hen : (e a').length = n := by omega
            have h4l : ((b.drop (i + 1)).take 4).length = 4 := by rw [List.length_take, List.length_drop]; omega
            have hb4 : be 4 n = (b.drop (i + 1)).take 4 := by
              have := be_val ((b.drop (i + 1)).take 4)
              rw [h4l, hn] at this
              exact this
            have hnlt : n < 4294967296 := by
              have := val_lt ((b.drop (i + 1)).take 4)
              rw [h4l, hn] at this
              exact this
            have htn : t = [] := by
              have := congrArg List.length ht
              rw [List.length_drop, hlt, List.length_append] at this
              exact List.eq_nil_of_length_eq_zero (by omega)
            rw [htn, List.append_nil] at ht
            refine ⟨⟨ga, by omega⟩, by omega, by rw [secE_length]; omega, b.drop (i + 5 + n), ?_⟩
            unfold secE
            rw [drop_of_get hid, List.cons_append, List.append_assoc, hen, hb4, ← ht]
            congr 1
            have e5 : (b.drop (i + 1)).drop 4 = b.drop (i + 5) := by rw [List.drop_drop]
            have e6 : b.drop (i + 5) = (b.take (i + 5 + n)).drop (i + 5) ++ b.drop (i + 5 + n) := by
              rw [List.drop_take, show i + 5 + n - (i + 5) = n by omega, show b.drop (i + 5 + n) = (b.drop (i + 5)).drop n by rw [List.drop_drop], List.take_append_drop]
            rw [← e6, ← e5, List.take_append_drop]
  whole := fun {b i a t} hi hg hd => by
    have hl := (drop_behind hi hd).1
    rw [secE_length] at hl ⊢
    unfold secE at hd
    rw [List.cons_append, List.append_assoc] at hd
    obtain ⟨h1, h2⟩ := get_of_drop hd
    have h4l : (be 4 (e a).length).length = 4 := be_length _ _
    have hn : val ((b.drop (i + 1)).take 4) = (e a).length := by
      rw [h2, List.take_left' h4l]
      have := val_be_of 4 ((e a).length : Int) (by omega) (by have := hg.2; omega)
      omega
    have h5 : b.drop (i + 5) = e a ++ t := by
      have : (b.drop (i + 1)).drop 4 = b.drop (i + 5) := by rw [List.drop_drop]
      rw [← this, h2, List.drop_left' h4l]
    unfold secP
    rw [if_neg (by rw [h1]; simp; omega)]
    simp only [hn]
    rw [if_neg (by omega)]
    have h6 : (b.take (i + 5 + (e a).length)).drop (i + 5) = e a ++ [] := by
      rw [List.drop_take, show i + 5 + (e a).length - (i + 5) = (e a).length by omega, h5, List.take_left' rfl, List.append_nil]
    rw [h.whole (by rw [List.length_take]; omega) hg.1 h6]
    simp only []
    rw [if_neg (by omega)]
    congr 1
    omega
  bad := fun {b i q n} hi hp => by
    unfold secP at hp
    split at hp
    · injection hp with h1 h2
      subst h1 h2
      exact ⟨Nat.le_refl _, hi, by decide⟩
    · simp only [] at hp
      split at hp
      · injection hp with h1 h2
        subst h1 h2
        exact ⟨Nat.le_refl _, hi, by decide⟩
      · rename_i h1 h2
        generalize val ((b.drop (i + 1)).take 4) = n at *
        have hlt : (b.take (i + 5 + n)).length = i + 5 + n := by rw [List.length_take]; omega
        split at hp
        · rename_i q' e1
          injection hp with h1 h2
          subst h1 h2
          have := h.bad (by rw [hlt]; omega) e1
          rw [hlt] at this
          exact ⟨by omega, by omega, by decide⟩
        · rename_i a j e1
          obtain ⟨_, hj, he, _⟩ := h.sound (by rw [hlt]; omega) e1
          rw [hlt] at hj
          split at hp
          · injection hp with h1 h2
            subst h1 h2
            exact ⟨by omega, by omega, by decide⟩
          · cases hp
theorem Cs.seq {α β : Type} {p : Ps α} {e : α → List Oct} {g : α → Prop} {p2 : Ps β} {e2 : β → List Oct} {g2 : β → Prop} (h : Cs p e g) (h2 : Cs p2 e2 g2) :
    Cs (p.andThen fun a => p2.map fun c => (a, c)) (fun x => e x.1 ++ e2 x.2) (fun x => g x.1 ∧ g2 x.2) where
  sound := fun {b i x j} hi hp => by
    unfold Ps.andThen at hp
    split at hp
    · cases hp
    · rename_i a j' e1
      obtain ⟨ga, hj, he, t, ht⟩ := h.sound hi e1
      obtain ⟨hl, hd⟩ := drop_behind hi ht
      change Ps.map _ _ b _ = _ at hp
      unfold Ps.map at hp
      split at hp
      · cases hp
      · rename_i c j2 e3
        injection hp with hx hj2
        subst hx hj2
        obtain ⟨gc, hj3, he3, t3, ht3⟩ := h2.sound hj e3
        rw [he] at ht3
        rw [hd] at ht3
        refine ⟨⟨ga, gc⟩, hj3, ?_, t3, ?_⟩
        · show _ = i + (e a ++ e2 c).length
          rw [List.length_append]; omega
        · rw [ht, ht3, List.append_assoc]
  whole := fun {b i x t} hi hg hd => by
    obtain ⟨a, c⟩ := x
    rw [List.append_assoc] at hd
    obtain ⟨hl, hd2⟩ := drop_behind hi hd
    unfold Ps.andThen
    rw [h.whole hi hg.1 hd]
    show Ps.map _ _ b _ = _
    unfold Ps.map
    rw [h2.whole hl hg.2 hd2]
    show Rs.ok _ _ = Rs.ok _ _
    rw [List.length_append, Nat.add_assoc]
  bad := fun {b i q n} hi hp => by
    unfold Ps.andThen at hp
    split at hp
    · rename_i e' q' e1
      injection hp with hq hq2
      subst hq hq2
      exact h.bad hi e1
    · rename_i a j e1
      obtain ⟨ga, hj, he, t, ht⟩ := h.sound hi e1
      change Ps.map _ _ b _ = _ at hp
      unfold Ps.map at hp
      split at hp
      · rename_i e' q' e3
        injection hp with hq hq2
        subst hq hq2
        have := h2.bad hj e3
        exact ⟨by omega, this.2⟩
      · cases hp
/-- The four sections. -/
def secsP : Ps (Int × List Int × List (List Oct) × List Knd) := (secP 1#8 (numP 2)).andThen fun a => ((secP 2#8 (listP 2 s64P)).andThen fun b => ((secP 3#8 (listP 2 (bytesP 1))).andThen fun c => (secP 4#8 (listP 2 kndP)).map fun d => (c, d)).map fun d => (b, d)).map fun d => (a, d)
def headP : List Oct := [84#8, 66#8, 76#8, 88#8, 1#8]
def secsE (p : Pk) : List Oct := secE 1#8 (be 2 p.cards) ++ (secE 2#8 (intsE p.ints) ++ (secE 3#8 (textsE p.texts) ++ secE 4#8 (kindsE p.kinds)))
structure GoodPk (p : Pk) : Prop where
  cards : 0 ≤ p.cards ∧ p.cards < 65536
  ints : (p.ints.length : Int) < 65536 ∧ ∀ a ∈ p.ints, -9223372036854775808 ≤ a ∧ a ≤ 9223372036854775807
  texts : (p.texts.length : Int) < 65536 ∧ ∀ a ∈ p.texts, goodText a
  kinds : (p.kinds.length : Int) < 65536 ∧ ∀ a ∈ p.kinds, goodKnd a
  len1 : (be 2 p.cards).length < 4294967296
  len2 : (intsE p.ints).length < 4294967296
  len3 : (textsE p.texts).length < 4294967296
  len4 : (kindsE p.kinds).length < 4294967296
def toPk (x : Int × List Int × List (List Oct) × List Knd) : Pk := ⟨x.1, x.2.1, x.2.2.1, x.2.2.2⟩
theorem Cs.secs : Cs secsP (fun x => secsE (toPk x)) (fun x => GoodPk (toPk x)) := by
  have h := (Cs.sec Co.cards 1#8).seq ((Cs.sec Co.ints 2#8).seq ((Cs.sec Co.texts 3#8).seq (Cs.sec Co.kinds 4#8)))
  refine ⟨fun hi hp => ?_, fun hi hg hd => ?_, fun hi hp => h.bad hi hp⟩
  · obtain ⟨⟨⟨g1, l1⟩, ⟨g2, l2⟩, ⟨g3, l3⟩, g4, l4⟩, r⟩ := h.sound hi hp
    exact ⟨⟨g1, g2, g3, g4, l1, l2, l3, l4⟩, r⟩
  · exact h.whole hi ⟨⟨hg.cards, hg.len1⟩, ⟨hg.ints, hg.len2⟩, ⟨hg.texts, hg.len3⟩, hg.kinds, hg.len4⟩ hd
end Go.Proofs.YtcmbdnjcfneinaaGreatDoor
/-
  The plain law of sums: what the steps of CRC-32 do to words of 32 bits: they are linear, they can be turned back, eight of them are one look into the table, and a product of powers does many of them at once. Conditions: none.
-/
namespace Go.Proofs.YtcmbdnjcfneinaaGreatDoor.Crc

abbrev W := BitVec 32
def poly : W := 3988292384#32

/-- One shift. -/
def sh (x : W) : W := (x >>> 1) ^^^ (if x.getLsbD 0 then poly else 0#32)
/-- n shifts. -/
def shn : Nat → W → W
  | 0, x => x
  | n + 1, x => shn n (sh x)

theorem sh_xor (x y : W) : sh (x ^^^ y) = sh x ^^^ sh y := by
  unfold sh
  rw [BitVec.ushiftRight_xor_distrib, BitVec.getLsbD_xor]
  generalize x >>> 1 = a
  generalize y >>> 1 = b
  cases x.getLsbD 0 <;> cases y.getLsbD 0 <;> simp only [Bool.xor_false, Bool.xor_true, Bool.not_false, Bool.not_true, Bool.false_eq_true, if_true, if_false, BitVec.xor_zero]
  · ac_rfl
  · ac_rfl
  · rw [show a ^^^ poly ^^^ (b ^^^ poly) = (a ^^^ b) ^^^ (poly ^^^ poly) from by ac_rfl, BitVec.xor_self, BitVec.xor_zero]
theorem sh_zero : sh 0#32 = 0#32 := by decide
theorem shn_xor (n : Nat) : ∀ x y : W, shn n (x ^^^ y) = shn n x ^^^ shn n y := by
  induction n with
  | zero => intro x y; rfl
  | succ n ih => intro x y; simp only [shn]; rw [sh_xor, ih]
theorem shn_zero (n : Nat) : shn n 0#32 = 0#32 := by
  induction n with
  | zero => rfl
  | succ n ih => simp only [shn]; rw [sh_zero, ih]
theorem shn_add (m n : Nat) : ∀ x : W, shn (m + n) x = shn n (shn m x) := by
  induction m with
  | zero => intro x; simp [shn]
  | succ m ih => intro x; rw [Nat.succ_add]; simp only [shn]; exact ih _
theorem shn_succ' (n : Nat) (x : W) : shn (n + 1) x = sh (shn n x) := by rw [shn_add n 1]; rfl
theorem shn_comm (m n : Nat) (x : W) : shn m (shn n x) = shn n (shn m x) := by rw [← shn_add, ← shn_add, Nat.add_comm]
theorem shn_mul (m n : Nat) (x : W) : shn (m * (n + 1)) x = shn (m * n) (shn m x) := by
  rw [show m * (n + 1) = m + m * n by rw [Nat.mul_succ, Nat.add_comm], shn_add]

/-- Two linear maps that agree on each single bit are one. -/
theorem lin_ext (L M : W → W) (hL : ∀ x y, L (x ^^^ y) = L x ^^^ L y) (hM : ∀ x y, M (x ^^^ y) = M x ^^^ M y)
    (h : ∀ k, k < 32 → L (BitVec.twoPow 32 k) = M (BitVec.twoPow 32 k)) : ∀ x, L x = M x := by
  have h0 : ∀ (F : W → W), (∀ x y, F (x ^^^ y) = F x ^^^ F y) → F 0#32 = 0#32 := fun F hF => by
    have := hF 0#32 0#32
    simp only [BitVec.xor_self] at this
    exact this
  have key : ∀ m, m ≤ 32 → ∀ x : W, (∀ i, m ≤ i → x.getLsbD i = false) → L x = M x := by
    intro m
    induction m with
    | zero =>
      intro _ x hx
      have e : x = 0#32 := by
        apply BitVec.eq_of_getLsbD_eq
        intro i _
        rw [hx i (Nat.zero_le _)]; simp
      rw [e, h0 L hL, h0 M hM]
    | succ m ih =>
      intro hm x hx
      by_cases hb : x.getLsbD m = true
      · have e : x = (x ^^^ BitVec.twoPow 32 m) ^^^ BitVec.twoPow 32 m := by rw [BitVec.xor_assoc, BitVec.xor_self, BitVec.xor_zero]
        have hlow : ∀ i, m ≤ i → (x ^^^ BitVec.twoPow 32 m).getLsbD i = false := by
          intro i hi
          rw [BitVec.getLsbD_xor, BitVec.getLsbD_twoPow]
          rcases Nat.eq_or_lt_of_le hi with rfl | hlt
          · simp [hb]; omega
          · rw [hx i hlt]; simp; omega
        rw [e, hL, hM, ih (by omega) _ hlow, h m (by omega)]
      · refine ih (by omega) x ?_
        intro i hi
        rcases Nat.eq_or_lt_of_le hi with rfl | hlt
        · simpa using hb
        · exact hx i hlt
  intro x
  exact key 32 (Nat.le_refl _) x (fun i hi => BitVec.getLsbD_of_ge x i hi)

/-- Eight shifts are one look into the table. -/
theorem shn8_look (x : W) : shn 8 x = shn 8 (x &&& 255#32) ^^^ (x >>> 8) := by
  refine lin_ext (fun x => shn 8 x) (fun x => shn 8 (x &&& 255#32) ^^^ (x >>> 8)) (shn_xor 8) ?_ (by decide +kernel) x
  intro a b
  show shn 8 ((a ^^^ b) &&& 255#32) ^^^ ((a ^^^ b) >>> 8) = _
  have e : (a ^^^ b) &&& 255#32 = (a &&& 255#32) ^^^ (b &&& 255#32) := by
    apply BitVec.eq_of_getLsbD_eq
    intro i _
    simp only [BitVec.getLsbD_and, BitVec.getLsbD_xor]
    cases a.getLsbD i <;> cases b.getLsbD i <;> cases (255#32 : W).getLsbD i <;> rfl
  rw [BitVec.ushiftRight_xor_distrib, e, shn_xor]
  ac_rfl

/-- A byte as a word. -/
def wide (c : BitVec 8) : W := c.setWidth 32
theorem wide_toNat (c : BitVec 8) : (wide c).toNat = c.toNat := by
  unfold wide; rw [BitVec.toNat_setWidth]; exact Nat.mod_eq_of_lt (by have := c.isLt; omega)
theorem wide_high (c : BitVec 8) : wide c >>> 8 = 0#32 := by
  apply BitVec.eq_of_toNat_eq
  rw [BitVec.toNat_ushiftRight, wide_toNat]
  have := c.isLt
  simp [Nat.shiftRight_eq_div_pow]; omega

/-- One byte more. -/
def byte (x : W) (c : BitVec 8) : W := shn 8 (x ^^^ wide c)
theorem byte_look (x : W) (c : BitVec 8) : byte x c = shn 8 ((x ^^^ wide c) &&& 255#32) ^^^ (x >>> 8) := by
  unfold byte
  rw [shn8_look, BitVec.ushiftRight_xor_distrib, wide_high, BitVec.xor_zero]
theorem look_toNat (x : W) (c : BitVec 8) : ((x ^^^ wide c) &&& 255#32).toNat = (x.toNat % 256) ^^^ c.toNat := by
  rw [BitVec.toNat_and, BitVec.toNat_xor, wide_toNat, show (255#32 : W).toNat = 2 ^ 8 - 1 from rfl, Nat.and_two_pow_sub_one_eq_mod, Nat.xor_mod_two_pow, show (2 : Nat) ^ 8 = 256 from rfl]
  have := c.isLt
  rw [Nat.mod_eq_of_lt this]

/-- All bytes of a text. -/
def run (x : W) (b : List (BitVec 8)) : W := b.foldl byte x
theorem run_append (x : W) (a b : List (BitVec 8)) : run x (a ++ b) = run (run x a) b := by unfold run; rw [List.foldl_append]
theorem run_snoc (x : W) (a : List (BitVec 8)) (c : BitVec 8) : run x (a ++ [c]) = byte (run x a) c := by unfold run; rw [List.foldl_append]; rfl
theorem byte_xor (x y : W) (c d : BitVec 8) : byte (x ^^^ y) (c ^^^ d) = byte x c ^^^ byte y d := by
  unfold byte
  rw [← shn_xor]
  congr 1
  unfold wide
  rw [BitVec.setWidth_xor]
  ac_rfl
/-- What comes first, and what comes behind, are put together. -/
theorem run_split (b : List (BitVec 8)) : ∀ x : W, run x b = shn (8 * b.length) x ^^^ run 0#32 b := by
  induction b with
  | nil => intro x; simp [run, shn]
  | cons c b ih =>
    intro x
    show run (byte x c) b = _ ^^^ run (byte 0#32 c) b
    rw [ih (byte x c), ih (byte 0#32 c)]
    have e : byte x c = shn 8 x ^^^ byte 0#32 c := by
      unfold byte; rw [shn_xor, BitVec.zero_xor]
    rw [e, shn_xor, List.length_cons, shn_mul]
    simp only [BitVec.xor_assoc]

/-- The sum goes on. -/
def goOn (s : W) (b : List (BitVec 8)) : W := ~~~ run (~~~ s) b
def crc (b : List (BitVec 8)) : W := goOn 0#32 b
theorem goOn_append (s : W) (a b : List (BitVec 8)) : goOn s (a ++ b) = goOn (goOn s a) b := by
  unfold goOn; rw [run_append, BitVec.not_not]
theorem not_eq_xor (x : W) : ~~~ x = x ^^^ 4294967295#32 := by
  apply BitVec.eq_of_getLsbD_eq
  intro i hi
  rw [BitVec.getLsbD_not, BitVec.getLsbD_xor]
  have : (4294967295#32 : W).getLsbD i = true := by
    have h : ∀ k, k < 32 → (4294967295#32 : W).getLsbD k = true := by decide
    exact h i hi
  rw [this]; simp [hi]
/-- Sums are joined. -/
def join (a b : W) (n : Nat) : W := shn (8 * n) a ^^^ b
theorem join_crc (a : W) (b : List (BitVec 8)) : join a (crc b) b.length = goOn a b := by
  unfold join crc goOn
  rw [run_split b (~~~ a), run_split b (~~~ 0#32), not_eq_xor a, shn_xor, BitVec.not_zero]
  simp only [not_eq_xor]
  rw [show BitVec.allOnes 32 = 4294967295#32 from rfl]
  have e : ∀ p q r o : W, p ^^^ (q ^^^ r ^^^ o) = p ^^^ q ^^^ r ^^^ o := fun p q r o => by simp only [BitVec.xor_assoc]
  rw [e]
theorem join_assoc (x y z : W) (m n : Nat) : join (join x y m) z n = join x (join y z n) (m + n) := by
  unfold join
  rw [shn_xor, ← shn_add, Nat.mul_add, BitVec.xor_assoc]

/-! The shifts can be turned back. -/
theorem sh_inj0 (x : W) (h : sh x = 0#32) : x = 0#32 := by
  unfold sh at h
  have h31 : ∀ y : W, (y >>> 1).getLsbD 31 = false := by intro y; rw [BitVec.getLsbD_ushiftRight]; exact BitVec.getLsbD_of_ge y _ (by omega)
  have hx0 : x.getLsbD 0 = false := by
    cases hb : x.getLsbD 0 with
    | false => rfl
    | true =>
      have := congrArg (fun y => BitVec.getLsbD y 31) h
      simp only [hb, if_true] at this
      rw [BitVec.getLsbD_xor, h31] at this
      have hp : poly.getLsbD 31 = true := by decide
      rw [hp] at this
      simp at this
  rw [hx0] at h
  simp only [Bool.false_eq_true, if_false, BitVec.xor_zero] at h
  apply BitVec.eq_of_getLsbD_eq
  intro i _
  cases i with
  | zero => rw [hx0]; simp
  | succ i =>
    have := congrArg (fun y => BitVec.getLsbD y i) h
    simp only [BitVec.getLsbD_ushiftRight] at this
    rw [Nat.add_comm] at this
    rw [this]; simp
theorem shn_inj0 (n : Nat) : ∀ x : W, shn n x = 0#32 → x = 0#32 := by
  induction n with
  | zero => intro x h; exact h
  | succ n ih => intro x h; exact sh_inj0 x (ih _ h)

/-- A bit more. -/
def bitStep (x : W) (d : Bool) : W := sh (x ^^^ (if d then 1#32 else 0#32))
def bitRun (x : W) (l : List Bool) : W := l.foldl bitStep x
theorem bitRun_append (x : W) (a b : List Bool) : bitRun x (a ++ b) = bitRun (bitRun x a) b := by unfold bitRun; rw [List.foldl_append]
/-- Bits as a word, the first one the lowest. -/
def val : List Bool → W
  | [] => 0#32
  | d :: l => (val l <<< 1) ^^^ (if d then 1#32 else 0#32)
theorem sh_shl (v : W) (h : v.getLsbD 31 = false) : sh (v <<< 1) = v := by
  unfold sh
  have h0 : (v <<< 1).getLsbD 0 = false := by rw [BitVec.getLsbD_shiftLeft]; simp
  rw [h0]
  simp only [Bool.false_eq_true, if_false, BitVec.xor_zero]
  apply BitVec.eq_of_getLsbD_eq
  intro i hi
  rw [BitVec.getLsbD_ushiftRight, BitVec.getLsbD_shiftLeft]
  by_cases h31 : i = 31
  · subst h31; rw [h]; simp
  · have : 1 + i < 32 := by omega
    simp [this]
theorem val_high (l : List Bool) : ∀ i, l.length ≤ i → (val l).getLsbD i = false := by
  induction l with
  | nil => intro i _; simp [val]
  | cons d l ih =>
    intro i hi
    simp only [val, List.length_cons] at *
    rw [BitVec.getLsbD_xor, BitVec.getLsbD_shiftLeft]
    have h1 : (val l).getLsbD (i - 1) = false := ih (i - 1) (by omega)
    have h2 : (if d then 1#32 else 0#32 : W).getLsbD i = false := by
      cases d with
      | false => simp
      | true =>
        simp only [if_true]
        rw [BitVec.getLsbD_one]
        have : i ≠ 0 := by omega
        simp [this]
    rw [h1, h2]; simp
theorem bitRun_val (l : List Bool) : ∀ x : W, l.length ≤ 32 → bitRun x l = shn l.length (x ^^^ val l) := by
  induction l with
  | nil => intro x _; simp [bitRun, val, shn]
  | cons d l ih =>
    intro x hl
    simp only [List.length_cons] at hl
    show bitRun (bitStep x d) l = shn (l.length + 1) _
    rw [ih _ (by omega)]
    simp only [shn]
    congr 1
    unfold bitStep
    have e : sh (val l <<< 1) = val l := sh_shl _ (val_high l 31 (by omega))
    simp only [val]
    rw [← BitVec.xor_assoc, BitVec.xor_assoc x, BitVec.xor_comm (val l <<< 1), ← BitVec.xor_assoc, sh_xor (x ^^^ _), e]
theorem val_zero (l : List Bool) (h : l.length ≤ 32) (hv : val l = 0#32) : ∀ d ∈ l, d = false := by
  induction l with
  | nil => intro d hd; cases hd
  | cons d l ih =>
    simp only [List.length_cons] at h
    simp only [val] at hv
    have hd : d = false := by
      have := congrArg (fun y => BitVec.getLsbD y 0) hv
      simp only [BitVec.getLsbD_xor, BitVec.getLsbD_shiftLeft] at this
      cases d with
      | false => rfl
      | true => simp at this
    subst hd
    simp only [Bool.false_eq_true, if_false, BitVec.xor_zero] at hv
    have hl : val l = 0#32 := by
      have e := sh_shl (val l) (val_high l 31 (by omega))
      rw [hv, sh_zero] at e
      exact e.symm
    intro x hx
    rcases List.mem_cons.1 hx with rfl | hx
    · rfl
    · exact ih (by omega) hl x hx
theorem bitRun_zeros (n : Nat) : ∀ x : W, bitRun x (List.replicate n false) = shn n x := by
  induction n with
  | zero => intro x; rfl
  | succ n ih =>
    intro x
    rw [List.replicate_succ]
    show bitRun (bitStep x false) _ = _
    rw [ih]
    simp [bitStep, shn]
/-- A burst of 32 bits at most, wherever it stands, is seen. -/
theorem burst_seen (m n : Nat) (l : List Bool) (hl : l.length ≤ 32) (h : bitRun 0#32 (List.replicate m false ++ l ++ List.replicate n false) = 0#32) : ∀ d ∈ l, d = false := by
  rw [bitRun_append, bitRun_append, bitRun_zeros, bitRun_zeros, shn_zero] at h
  have h1 := shn_inj0 _ _ h
  rw [bitRun_val l _ hl, BitVec.zero_xor] at h1
  exact val_zero l hl (shn_inj0 _ _ h1)

/-- The bits of a byte, the lowest one first. -/
def bitsOf (c : BitVec 8) : List Bool := (List.range 8).map c.getLsbD
def allBits (b : List (BitVec 8)) : List Bool := b.flatMap bitsOf
theorem val_bitsOf : ∀ c : BitVec 8, val (bitsOf c) = wide c := by decide +kernel
theorem byte_bits (x : W) (c : BitVec 8) : byte x c = bitRun x (bitsOf c) := by
  rw [bitRun_val _ _ (by simp [bitsOf]), val_bitsOf]; rfl
theorem run_bits (b : List (BitVec 8)) : ∀ x : W, run x b = bitRun x (allBits b) := by
  induction b with
  | nil => intro x; rfl
  | cons c b ih =>
    intro x
    show run (byte x c) b = bitRun x (bitsOf c ++ allBits b)
    rw [ih, bitRun_append, byte_bits]
theorem allBits_length (b : List (BitVec 8)) : (allBits b).length = 8 * b.length := by
  induction b with
  | nil => rfl
  | cons c b ih =>
    show (bitsOf c ++ allBits b).length = _
    rw [List.length_append, ih]
    simp [bitsOf]; omega
end Go.Proofs.YtcmbdnjcfneinaaGreatDoor.Crc
/-
  Packs: what may be written, what is read, and what follows of both: the plain laws of chapter 19. Conditions: none.
-/
namespace Go.Proofs.YtcmbdnjcfneinaaGreatDoor
/-- Is a text below another one? -/
def bel : List Oct → List Oct → Bool
  | [], [] => false
  | [], _ :: _ => true
  | _ :: _, [] => false
  | a :: l, b :: m => if a = b then bel l m else decide (a.toNat < b.toNat)
/-- Each one greater than the one ahead? -/
def ascI : List Int → Bool
  | a :: b :: l => decide (a < b) && ascI (b :: l)
  | _ => true
def textsGo : Option (List Oct) → List (List Oct) → Nat
  | _, [] => 0
  | q, t :: l => if 64 < t.length then 56 else if q.any (fun p => !bel p t) then 57 else textsGo (some t) l
def textsC (l : List (List Oct)) : Nat := if 4096 < l.length then 56 else textsGo none l
def effOk (e : Eff) : Bool := decide (0 ≤ e.on) && decide (e.on ≤ 4) && decide (e.slots.length ≤ 32) && decide (0 ≤ e.bound) && decide (e.bound ≤ 4611686018427387904) && decide (e.code.length ≤ 65535) && e.slots.all (fun x => decide (1 ≤ x) && decide (x ≤ 6))
def effC (e : Eff) : Nat := if effOk e then 0 else 56
/-- The first that is not zero. -/
def firstN : List Nat → Nat
  | [] => 0
  | 0 :: l => firstN l
  | (n + 1) :: _ => n + 1
def tagsGo (n : Nat) : Option Int → List Int → Nat
  | _, [] => 0
  | q, t :: l => if t < 0 ∨ (n : Int) ≤ t then 42 else if q.any (fun p => decide (t ≤ p)) then 57 else tagsGo n (some t) l
def statOk (x : Int) : Bool := decide (0 ≤ x) && decide (x ≤ 1000000000)
def kndC (n : Nat) (k : Knd) : Nat :=
  if k.name < 0 ∨ (n : Int) ≤ k.name then 42 else
  if !(statOk k.cost && statOk k.power && statOk k.health) then 56 else
  if 16 < k.tags.length then 56 else
  if tagsGo n none k.tags ≠ 0 then tagsGo n none k.tags else
  if 8 < k.effs.length then 56 else firstN (k.effs.map effC)
def effSize (e : Eff) : Nat := 12 + e.slots.length + e.code.length
def kndSize (k : Knd) : Nat := 16 + 2 * k.tags.length + (k.effs.map effSize).sum
def sizeP (p : Pk) : Nat := 37 + 8 * p.ints.length + (p.texts.map fun t => 1 + t.length).sum + (p.kinds.map kndSize).sum
def poolsC (p : Pk) : Nat := if p.cards < 1 ∨ 256 < p.cards ∨ 4096 < p.ints.length then 56 else if !ascI p.ints then 57 else textsC p.texts
/-- What is wrong with a pack; 0: nothing. -/
def chk (p : Pk) : Nat :=
  if poolsC p ≠ 0 then poolsC p else
  if 256 < p.kinds.length then 56 else
  if firstN (p.kinds.map (kndC p.texts.length)) ≠ 0 then firstN (p.kinds.map (kndC p.texts.length)) else
  if 1048576 < sizeP p then 20 else 0
/-! ### What is written may be read -/
theorem firstN_zero {l : List Nat} (h : firstN l = 0) : ∀ x ∈ l, x = 0 := by
  induction l with
  | nil => intro x hx; cases hx
  | cons a l ih =>
    cases a with
    | zero =>
      intro x hx
      rcases List.mem_cons.1 hx with rfl | hx
      · rfl
      · exact ih h x hx
    | succ n => cases h
theorem textsGo_zero {l : List (List Oct)} : ∀ {q}, textsGo q l = 0 → ∀ t ∈ l, t.length ≤ 64 := by
  induction l with
  | nil => intro q _ t ht; cases ht
  | cons a l ih =>
    intro q h t ht
    unfold textsGo at h
    split at h
    · cases h
    · rename_i h1
      split at h
      · cases h
      · rcases List.mem_cons.1 ht with rfl | ht
        · omega
        · exact ih h t ht
theorem tagsGo_zero {n : Nat} {l : List Int} : ∀ {q}, tagsGo n q l = 0 → ∀ t ∈ l, 0 ≤ t ∧ t < n := by
  induction l with
  | nil => intro q _ t ht; cases ht
  | cons a l ih =>
    intro q h t ht
    unfold tagsGo at h
    split at h
    · cases h
    · rename_i h1
      split at h
      · cases h
      · rcases List.mem_cons.1 ht with rfl | ht
        · omega
        · exact ih h t ht
theorem effC_zero {e : Eff} (h : effC e = 0) : goodEff e := by
  unfold effC at h
  split at h
  · rename_i h1
    unfold effOk at h1
    simp only [Bool.and_eq_true, decide_eq_true_eq, List.all_eq_true] at h1
    obtain ⟨⟨⟨⟨⟨⟨h1, h2⟩, h3⟩, h4⟩, h5⟩, h6⟩, h7⟩ := h1
    exact ⟨⟨by omega, by omega⟩, ⟨by omega, fun x hx => by have := h7 x hx; omega⟩, ⟨by omega, by omega⟩, by omega⟩
  · cases h
theorem statOk_iff {x : Int} (h : statOk x = true) : 0 ≤ x ∧ x < 4294967296 := by
  unfold statOk at h
  simp only [Bool.and_eq_true, decide_eq_true_eq] at h
  omega
theorem kndC_zero {n : Nat} {k : Knd} (hn : n ≤ 4096) (h : kndC n k = 0) : goodKnd k := by
  unfold kndC at h
  split at h
  · cases h
  · rename_i h1
    split at h
    · cases h
    · rename_i h2
      split at h
      · cases h
      · rename_i h3
        split at h
        · rename_i h4; exact absurd h h4
        · rename_i h4
          split at h
          · cases h
          · rename_i h5
            have h4' : tagsGo n none k.tags = 0 := Classical.not_not.1 h4
            simp only [Bool.not_eq_true', Bool.not_eq_false, Bool.and_eq_true] at h2
            refine ⟨⟨by omega, by omega⟩, statOk_iff h2.1.1, statOk_iff h2.1.2, statOk_iff h2.2, ⟨by omega, fun x hx => by have := tagsGo_zero h4' x hx; omega⟩, by omega, fun x hx => effC_zero (firstN_zero h _ (List.mem_map_of_mem hx))⟩
theorem flat_be (n : Nat) (l : List Int) : (l.flatMap (be n)).length = n * l.length := by
  induction l with
  | nil => rfl
  | cons a l ih => rw [List.flatMap_cons, List.length_append, be_length, ih, List.length_cons, Nat.mul_add]; omega
theorem effE_length (e : Eff) : (effE e).length = effSize e := by
  unfold effE effSize
  simp only [List.length_append, be_length, flat_be]; omega
theorem effs_length (l : List Eff) : (l.flatMap effE).length = (l.map effSize).sum := by
  induction l with
  | nil => rfl
  | cons a l ih => rw [List.flatMap_cons, List.length_append, effE_length, ih, List.map_cons, List.sum_cons]
theorem kndE_length (k : Knd) : (kndE k).length = kndSize k := by
  unfold kndE kndSize
  simp only [List.length_append, be_length, flat_be, effs_length]; omega
theorem kinds_length (l : List Knd) : (l.flatMap kndE).length = (l.map kndSize).sum := by
  induction l with
  | nil => rfl
  | cons a l ih => rw [List.flatMap_cons, List.length_append, kndE_length, ih, List.map_cons, List.sum_cons]
theorem texts_length (l : List (List Oct)) : (l.flatMap textE).length = (l.map fun t => 1 + t.length).sum := by
  induction l with
  | nil => rfl
  | cons a l ih =>
    rw [List.flatMap_cons, List.length_append, ih, List.map_cons, List.sum_cons]
    unfold textE
    rw [List.length_append, be_length]
theorem secsE_length (p : Pk) : (secsE p).length + 9 = sizeP p := by
  unfold secsE sizeP intsE textsE kindsE
  simp only [List.length_append, secE_length, be_length, flat_be, texts_length, kinds_length]; omega
theorem good_of_chk {p : Pk} (h : chk p = 0) (hi : ∀ a ∈ p.ints, -9223372036854775808 ≤ a ∧ a ≤ 9223372036854775807) : GoodPk p ∧ sizeP p ≤ 1048576 := by
  unfold chk at h
  split at h
  · rename_i h1; exact absurd h h1
  · rename_i h1
    split at h
    · cases h
    · rename_i h2
      split at h
      · rename_i h3; exact absurd h h3
      · rename_i h3
        split at h
        · cases h
        · rename_i h4
          have h1' : poolsC p = 0 := Classical.not_not.1 h1
          have h3' : firstN (p.kinds.map (kndC p.texts.length)) = 0 := Classical.not_not.1 h3
          clear h h1 h3
          unfold poolsC at h1'
          split at h1'
          · cases h1'
          · rename_i h5
            split at h1'
            · cases h1'
            · unfold textsC at h1'
              split at h1'
              · cases h1'
              · rename_i h6
                have hs := secsE_length p
                have hs' := hs
                unfold secsE at hs'
                simp only [List.length_append, secE_length] at hs'
                exact ⟨⟨⟨by omega, by omega⟩, ⟨by omega, hi⟩, ⟨by omega, fun t ht => by have := textsGo_zero h1' t ht; unfold goodText; omega⟩, ⟨by omega, fun k hk => kndC_zero (by omega) (firstN_zero h3' _ (List.mem_map_of_mem hk))⟩, by omega, by omega, by omega, by omega⟩, by omega⟩
end Go.Proofs.YtcmbdnjcfneinaaGreatDoor
/-
  Packs with their sum behind them: what is read, and what follows: back, cut, more, a burst: the plain laws of chapter 19. Conditions: none.
-/
namespace Go.Proofs.YtcmbdnjcfneinaaGreatDoor
/-- A sum as bytes, the lowest first. -/
def le4 (x : Crc.W) : List Oct := [x.setWidth 8, (x >>> 8).setWidth 8, (x >>> 16).setWidth 8, (x >>> 24).setWidth 8]
def sealedL (b : List Oct) : List Oct := b ++ le4 (Crc.crc b)
theorem sealedL_length (b : List Oct) : (sealedL b).length = b.length + 4 := by unfold sealedL le4; simp
theorem sealedL_take (b : List Oct) : (sealedL b).take b.length = b := List.take_left' rfl
theorem sealedL_drop (b : List Oct) : (sealedL b).drop b.length = le4 (Crc.crc b) := List.drop_left' rfl
def zeroPk : Pk := ⟨0, [], [], []⟩
def packE (p : Pk) : List Oct := sealedL (headP ++ secsE p)
/-- What stands ahead of the sections, and the sum. -/
def headC (b : List Oct) : Nat × Nat :=
  if 1048576 < b.length then (20, 1048576) else
  if b.length < 9 then (50, b.length) else
  if b[0]? ≠ some 84#8 then (51, 0) else
  if b[1]? ≠ some 66#8 then (51, 1) else
  if b[2]? ≠ some 76#8 then (51, 2) else
  if b[3]? ≠ some 88#8 then (51, 3) else
  if b[4]? ≠ some 1#8 then (52, 4) else
  if b.drop (b.length - 4) ≠ le4 (Crc.crc (b.take (b.length - 4))) then (53, b.length - 4) else (0, 0)
/-- A pack that is read; a fault and its place. -/
def decP (b : List Oct) : Pk × Nat × Nat :=
  if (headC b).1 ≠ 0 then (zeroPk, headC b) else
  match secsP (b.take (b.length - 4)) 5 with
  | .bad e q => (zeroPk, e, q)
  | .ok x j => if j ≠ b.length - 4 then (zeroPk, 55, j) else if chk (toPk x) ≠ 0 then (zeroPk, chk (toPk x), 5) else (toPk x, 0, 0)
/-- A pack that is written. -/
def encP (p : Pk) : List Oct × Nat := if chk p ≠ 0 then ([], chk p) else (packE p, 0)
/-- Its ints are of 64 bits. -/
def Ints64 (p : Pk) : Prop := ∀ a ∈ p.ints, -9223372036854775808 ≤ a ∧ a ≤ 9223372036854775807
theorem packE_length (p : Pk) : (packE p).length = sizeP p := by
  unfold packE
  rw [sealedL_length, List.length_append, ← secsE_length]
  show 5 + _ + 4 = _
  omega
/-- A head as it should be, and its sum. -/
theorem headC_of {l : List Oct} {b : List Oct} (hb : b = sealedL (headP ++ l)) (hl : b.length ≤ 1048576) : headC b = (0, 0) := by
  have hlen : b.length = (headP ++ l).length + 4 := by rw [hb, sealedL_length]
  have h5 : (headP ++ l).length = 5 + l.length := by rw [List.length_append]; rfl
  have hg : ∀ i, i < 5 → b[i]? = headP[i]? := fun i hi => by
    rw [hb]
    unfold sealedL
    rw [List.append_assoc, List.getElem?_append_left (by show i < 5; exact hi)]
  unfold headC
  rw [if_neg (by omega), if_neg (by omega), hg 0 (by decide), hg 1 (by decide), hg 2 (by decide), hg 3 (by decide), hg 4 (by decide)]
  have e : b.length - 4 = (headP ++ l).length := by omega
  rw [e, hb, sealedL_take, sealedL_drop]
  simp [headP]
/-- What the head says where nothing is wrong. -/
theorem headC_ok {b : List Oct} (h : (headC b).1 = 0) : b.length ≤ 1048576 ∧ 9 ≤ b.length ∧ (∃ l, b.take (b.length - 4) = headP ++ l) ∧ b = sealedL (b.take (b.length - 4)) := by
  unfold headC at h
  split at h
  · cases h
  split at h
  · cases h
  split at h
  · cases h
  split at h
  · cases h
  split at h
  · cases h
  split at h
  · cases h
  split at h
  · cases h
  split at h
  · cases h
  rename_i h1 h2 g0 g1 g2 g3 g4 hs
  have hs := Classical.not_not.1 hs
  refine ⟨by omega, by omega, ⟨(b.drop 5).take (b.length - 9), ?_⟩, ?_⟩
  · have e5 : b = headP ++ b.drop 5 := by
      rw [← List.drop_zero (l := b), drop_of_get (Classical.not_not.1 g0), drop_of_get (Classical.not_not.1 g1), drop_of_get (Classical.not_not.1 g2), drop_of_get (Classical.not_not.1 g3), drop_of_get (Classical.not_not.1 g4)]
      rfl
    have e : b.length - 4 = headP.length + (b.length - 9) := by show b.length - 4 = 5 + _; omega
    rw [e]
    generalize b.length - 9 = n
    conv => lhs; rw [e5]
    rw [List.take_length_add_append]
  · unfold sealedL
    rw [← hs, List.take_append_drop]
theorem headC_bad (b : List Oct) : (headC b).2 ≤ b.length := by
  unfold headC
  split
  · show 1048576 ≤ _; omega
  rename_i h1
  split
  · exact Nat.le_refl _
  rename_i h2
  split
  · exact Nat.zero_le _
  split
  · show 1 ≤ _; omega
  split
  · show 2 ≤ _; omega
  split
  · show 3 ≤ _; omega
  split
  · show 4 ≤ _; omega
  split
  · show _ - 4 ≤ _; omega
  · exact Nat.zero_le _
/-! ### The laws -/
theorem secs_of {p : Pk} (h : GoodPk p) (l : List Oct) : secsP (headP ++ (secsE p ++ l)) 5 = .ok (p.cards, p.ints, p.texts, p.kinds) (5 + (secsE p).length) := by
  have := Cs.secs.whole (b := headP ++ (secsE p ++ l)) (i := 5) (a := (p.cards, p.ints, p.texts, p.kinds)) (t := l) (by rw [List.length_append]; show 5 ≤ 5 + _; omega) h rfl
  exact this
/-- What is written is read as itself. -/
theorem dec_enc {p : Pk} (h : chk p = 0) (hi : Ints64 p) : decP (packE p) = (p, 0, 0) ∧ (packE p).length ≤ 1048576 := by
  obtain ⟨hg, hs⟩ := good_of_chk h hi
  have hl := packE_length p
  have h0 := headC_of (l := secsE p) (b := packE p) rfl (by omega)
  refine ⟨?_, by omega⟩
  have e : (packE p).length - 4 = (headP ++ secsE p).length := by unfold packE; rw [sealedL_length]; omega
  unfold decP
  rw [h0, if_neg (by simp), e]
  have e2 : (packE p).take (headP ++ secsE p).length = headP ++ (secsE p ++ []) := by rw [List.append_nil]; exact sealedL_take _
  rw [e2, secs_of hg]
  have e3 : (headP ++ secsE p).length = 5 + (secsE p).length := by rw [List.length_append]; rfl
  have e4 : toPk (p.cards, p.ints, p.texts, p.kinds) = p := rfl
  simp only [e3, e4, h]
  simp
/-- What is read without a fault is written as itself. -/
theorem enc_dec {b : List Oct} (h : (decP b).2.1 = 0) : chk (decP b).1 = 0 ∧ packE (decP b).1 = b ∧ (decP b).2.2 = 0 ∧ GoodPk (decP b).1 := by
  unfold decP at h ⊢
  split at h
  · rename_i h1; exact absurd h h1
  rename_i h1
  obtain ⟨hl, h9, ⟨l, hh⟩, hs⟩ := headC_ok (Classical.not_not.1 h1)
  rw [if_neg h1]
  have h5 : 5 ≤ (b.take (b.length - 4)).length := by rw [List.length_take]; omega
  split at h
  · rename_i e q e1
    exact absurd h (Cs.secs.bad h5 e1).2.2
  · rename_i x j e1
    obtain ⟨hg, hj, he, t, ht⟩ := Cs.secs.sound h5 e1
    split at h
    · cases h
    · rename_i h2
      split at h
      · rename_i h3; exact absurd h h3
      · rename_i h3
        rw [if_neg h2, if_neg h3]
        refine ⟨Classical.not_not.1 h3, ?_, rfl, hg⟩
        show packE (toPk x) = b
        have hlt : (b.take (b.length - 4)).length = b.length - 4 := by rw [List.length_take]; omega
        have htn : t = [] := by
          have := congrArg List.length ht
          rw [List.length_drop, hlt, List.length_append] at this
          exact List.eq_nil_of_length_eq_zero (by omega)
        have hd : (b.take (b.length - 4)).drop 5 = l := by rw [hh]; rfl
        rw [htn, List.append_nil, hd] at ht
        unfold packE
        rw [← ht, ← hh, ← hs]
/-- A fault stands within the bytes, and nothing is read. -/
theorem dec_bad {b : List Oct} (h : (decP b).2.1 ≠ 0) : (decP b).1 = zeroPk ∧ (decP b).2.2 ≤ b.length := by
  unfold decP at h ⊢
  split at h
  · rename_i h1
    rw [if_pos h1]
    exact ⟨rfl, headC_bad b⟩
  rename_i h1
  obtain ⟨hl, h9, _, hs⟩ := headC_ok (Classical.not_not.1 h1)
  rw [if_neg h1]
  have h5 : 5 ≤ (b.take (b.length - 4)).length := by rw [List.length_take]; omega
  have hlt : (b.take (b.length - 4)).length = b.length - 4 := by rw [List.length_take]; omega
  split at h
  · rename_i e q e1
    have := (Cs.secs.bad h5 e1).2.1
    exact ⟨rfl, by show q ≤ _; omega⟩
  · rename_i x j e1
    obtain ⟨hg, hj, he, t, ht⟩ := Cs.secs.sound h5 e1
    split
    · exact ⟨rfl, by show j ≤ _; omega⟩
    · rename_i h2
      split
      · exact ⟨rfl, by show 5 ≤ _; omega⟩
      · rename_i h3
        rw [if_neg h2, if_neg h3] at h
        exact absurd rfl h
/-- What is written begins nothing else that is written. -/
theorem secs_ahead {p q : Pk} (hp : GoodPk p) (hq : GoodPk q) {l m : List Oct} (h : secsE p ++ l = secsE q ++ m) : p = q := by
  have h1 := secs_of hp l
  have h2 := secs_of hq m
  rw [h, h2] at h1
  injection h1 with h1 _
  injection h1 with a b
  injection b with b c
  injection c with c d
  cases p; cases q
  simp only [] at a b c d
  subst a b c d
  rfl
/-- A beginning of what is written is refused. -/
theorem dec_cut {p : Pk} (h : chk p = 0) (hi : Ints64 p) {cut : Nat} (hc : cut < (packE p).length) : (decP ((packE p).take cut)).2.1 ≠ 0 := by
  intro hd
  obtain ⟨hg, hs⟩ := good_of_chk h hi
  obtain ⟨_, he, _, hgq⟩ := enc_dec hd
  generalize (decP ((packE p).take cut)).1 = q at he hgq
  have h1 : packE p = packE q ++ (packE p).drop cut := by rw [he, List.take_append_drop]
  unfold packE sealedL at h1
  simp only [List.append_assoc] at h1
  have h2 := secs_ahead hg hgq (List.append_cancel_left h1)
  subst h2
  have := congrArg List.length he
  rw [List.length_take] at this
  omega
/-- What stands between the sections and the sum is seen. -/
theorem dec_more {p : Pk} (h : chk p = 0) (hi : Ints64 p) {more : List Oct} (hm : more ≠ []) (hl : (packE p).length + more.length ≤ 1048576) :
    decP (sealedL ((packE p).take ((packE p).length - 4) ++ more)) = (zeroPk, 55, (packE p).length - 4) := by
  obtain ⟨hg, hs⟩ := good_of_chk h hi
  have hpl : (packE p).length = (headP ++ secsE p).length + 4 := by unfold packE; rw [sealedL_length]
  have e0 : (packE p).take ((packE p).length - 4) = headP ++ secsE p := by
    rw [hpl, Nat.add_sub_cancel]; exact sealedL_take _
  rw [e0, List.append_assoc]
  have h0 := headC_of (l := secsE p ++ more) (b := sealedL (headP ++ (secsE p ++ more))) rfl (by
    rw [sealedL_length, ← List.append_assoc, List.length_append]; omega)
  have e : (sealedL (headP ++ (secsE p ++ more))).length - 4 = (headP ++ (secsE p ++ more)).length := by rw [sealedL_length]; omega
  unfold decP
  rw [h0, if_neg (by simp), e, sealedL_take, secs_of hg]
  have e3 : (headP ++ secsE p).length = 5 + (secsE p).length := by rw [List.length_append]; rfl
  have e5 : (headP ++ (secsE p ++ more)).length = 5 + (secsE p).length + more.length := by rw [List.length_append, List.length_append]; show 5 + _ = _; omega
  have := List.length_pos_iff.2 hm
  simp only []
  rw [if_pos (by omega), hpl, Nat.add_sub_cancel, e3]
end Go.Proofs.YtcmbdnjcfneinaaGreatDoor
