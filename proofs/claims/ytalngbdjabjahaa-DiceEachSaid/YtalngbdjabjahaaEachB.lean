/-
  DiceEach: Shuffle over an asker, as the law uses it. Conditions: none.
-/
import Derived.Test.YtalngbdjabjahaaEachA
import Derived.Test.YtalngbdjabjahaaShufA
import Derived.Test.YtalngbdjabjahaaDiceL
namespace Go.Proofs.Ytalngbdjabjahaa
open Go.RowKit
def jl (js : List Int) : List (Int × Bool) := js.map fun j => (j, false)
theorem jl_length (js : List Int) : (jl js).length = js.length := by simp [jl]
theorem lans_at (js : List Int) (s : List Int) (k : Nat) (h : s.length < js.length) : lans (jl js) s k = (js.getD s.length 0, true) := by
  unfold lans
  have e : (jl js)[s.length]? = some (js.getD s.length 0, false) := by
    unfold jl
    rw [List.getElem?_map, List.getD_eq_getElem?_getD, List.getElem?_eq_getElem h]; rfl
  rw [e]; rfl
theorem shuf_lans (js : List Int) : ∀ (i : Nat) (l s : List Int), s.length + i = js.length →
    (shuf (lans (jl js)) lnxt i l s).1 = shL i l (js.drop s.length) ∧ ((shL i l (js.drop s.length)).isSome = true → (shuf (lans (jl js)) lnxt i l s).2.length = s.length + i)
  | 0, l, s, _ => ⟨rfl, fun _ => rfl⟩
  | i + 1, l, s, h => by
    have hlt : s.length < js.length := by omega
    have hd : js.drop s.length = js.getD s.length 0 :: js.drop (s.length + 1) := by
      rw [getD_get hlt]; exact List.drop_eq_getElem_cons hlt
    have ha := lans_at js s (i + 2) hlt
    rw [hd, shL]
    generalize js.getD s.length 0 = j at *
    by_cases hj : 0 ≤ j ∧ j ≤ ((i + 1 : Nat) : Int)
    · have hok : okAns (lans (jl js) s (i + 2)) (i + 1) = true := by rw [ha]; simp [okAns]; omega
      rw [shuf_yes _ _ hok, if_pos hj, ha]
      have hn : (lnxt s (i + 2)).length = s.length + 1 := by simp [lnxt]
      have ih := shuf_lans js i (swp l (i + 1) j.toNat) (lnxt s (i + 2)) (by omega)
      rw [hn] at ih
      exact ⟨ih.1, fun h => by rw [ih.2 h]; omega⟩
    · have hok : okAns (lans (jl js) s (i + 2)) (i + 1) = false := by
        rw [ha]
        simp [okAns]
        omega
      rw [shuf_no _ _ hok, if_neg hj]
      exact ⟨rfl, fun h => by cases h⟩
theorem ansCells_get : ∀ (js : List Int) (k : Nat), k < js.length → (ansCells js)[k * 2]? = some (.int .i64 (js.getD k 0)) ∧ (ansCells js)[k * 2 + 1]? = some (.bool false)
  | [], _, h => absurd h (Nat.not_lt_zero _)
  | j :: js, 0, _ => ⟨rfl, rfl⟩
  | j :: js, k + 1, h => by
    have ih := ansCells_get js k (by simpa using h)
    have e1 : (k + 1) * 2 = k * 2 + 1 + 1 := by omega
    have e2 : (k + 1) * 2 + 1 = k * 2 + 1 + 1 + 1 := by omega
    rw [e1, show k * 2 + 1 + 1 + 1 = (k * 2 + 1) + 1 + 1 by omega]
    exact ih
theorem ansCells_set : ∀ (js : List Int) (k : Nat) (o : Int), k < js.length → (ansCells js).set (k * 2) (.int .i64 o) = ansCells (js.set k o)
  | [], _, _, h => absurd h (Nat.not_lt_zero _)
  | j :: js, 0, _, _ => rfl
  | j :: js, k + 1, o, h => by
    have ih := ansCells_set js k o (by simpa using h)
    have e1 : (k + 1) * 2 = k * 2 + 1 + 1 := by omega
    rw [e1]
    show Value.int .i64 j :: Value.bool false :: (ansCells js).set (k * 2) (.int .i64 o) = _
    rw [ih]; rfl
theorem ans_lies {w : World} {base : Nat} {A : Option Addr} {cap : Nat} {js : List Int} (h : w.ownsRow base 43 2 (.slice A js.length cap) js.length (ansCells js)) : AnsLies w (fun g => g < w.heap.size) A (jl js) := by
  intro k p hp
  have hk : k < js.length := by
    rcases Nat.lt_or_ge k (jl js).length with h | h
    · rw [jl_length] at h; exact h
    · rw [List.getElem?_eq_none h] at hp; cases hp
  have hpe : p = (js.getD k 0, false) := by
    unfold jl at hp
    rw [List.getElem?_map, List.getElem?_eq_getElem hk] at hp
    injection hp with hp
    rw [← hp, getD_get hk]
  subst hpe
  rcases h.2 with ⟨_, h0⟩ | ⟨g, cap', cur, hv, hb, hh, hc, _, hs, ht⟩
  · omega
  · injection hv with h1 h2 h3
    have hlt : g < w.heap.size := by
      rcases Nat.lt_or_ge g w.heap.size with h | h
      · exact h
      · rw [Array.getElem?_eq_none h] at hh; cases hh
    obtain ⟨c0, c1⟩ := ansCells_get js k hk
    have hw : Whole w g 43 cur := hh
    refine ⟨g, 0, h1, hlt, hlt, ?_, ?_⟩
    · rw [Nat.zero_add, hw.cellAt, ← Array.getElem?_toList, ← c0, ← ht, List.getElem?_take, if_pos (by omega)]
    · rw [Nat.zero_add, hw.cellAt, ← Array.getElem?_toList, ← c1, ← ht, List.getElem?_take, if_pos (by omega)]
/-- Shuffle over an asker that has not been asked. -/
theorem ask_shuffle (a n cap : Nat) (F : Nat → Prop) (A : Option Addr) (js : List Int) (w : World) (hF : ∀ g, F g → g ≠ a ∧ g < w.heap.size) (hW : Whole w a 34 #[.slice A js.length cap, .slice none 0 0]) (hL : AnsLies w F A (jl js)) (hn : n ≤ 65536) :
    Calls Try.prog 14 #[.int .i64 n, .func (.func 15) #[.pointer (some ⟨a, 0, none⟩)] #[]] w fun e w' => ShPost (fun s w' => AskAt a (w.heap.size + 1) F A (jl js) cap s w') (fun b => b = a ∨ w.heap.size < b) n w (shuf (lans (jl js)) lnxt (n - 1) (rng n) []) e w' := by
  have ha := hW.inside
  refine shuffleA_any (lans (jl js)) lnxt (fun s w' => AskAt a (w.heap.size + 1) F A (jl js) cap s w') (fun b => b = a ∨ w.heap.size < b) n _ [] w hn (fun s i => s.length + i = n ∨ i ≤ 1) (Lib.hid (.inl (by simp))) (Lib.hid fun s i h => by
    rcases h with h | h
    · exact .inl (by simp [lnxt]; omega)
    · omega) ?_ ?_ ?_ _ (Lib.hid rfl)
  · intro s k w1 h2 hk hP hI hs
    refine (ask_any a (w.heap.size + 1) F A (jl js) cap s w1 k (fun g hg => ⟨(hF g hg).1, by have := (hF g hg).2; omega⟩) (by omega) hI (by omega)).mono ?_
    intro e w2 ⟨he, hI2, hK⟩
    exact ⟨he, hI2, hK.mono (fun b _ h => by omega)⟩
  · intro s w1 w2 hI hK
    exact hI.keeps hK (Nat.lt_succ_self _) (Nat.ne_of_lt ha) (fun b hb => Nat.ne_of_lt (hF b hb).2)
  · refine ⟨by simp, ?_, none, 0, ?_, World.ownsRow_nil _ _ _ _⟩
    · exact hL.keeps ((Keeps.refl (fun _ => False) w).alloc _) (fun _ _ h => h)
    · rw [jl_length]; exact hW.alloc _
theorem ask_yes (a n cap : Nat) (F : Nat → Prop) (A : Option Addr) (js l : List Int) (w : World) (hjl : js.length = n - 1) (hF : ∀ g, F g → g ≠ a ∧ g < w.heap.size) (hW : Whole w a 34 #[.slice A js.length cap, .slice none 0 0]) (hL : AnsLies w F A (jl js)) (hn : n ≤ 65536) (hs : shL (n - 1) (rng n) js = some l) :
    Calls Try.prog 14 #[.int .i64 n, .func (.func 15) #[.pointer (some ⟨a, 0, none⟩)] #[]] w fun e w' => e = .returned (.tuple #[.slice (some ⟨w.heap.size, 0, none⟩) n n, .bool true]) ∧ Whole w' w.heap.size 3 (ints l) ∧ l.length = n ∧ (∃ A2 c2, w'.cell? ⟨a, 1, none⟩ = some (.slice A2 js.length c2)) ∧ Keeps (fun b => b = a) w w' := by
  have hsl := shuf_lans js (n - 1) (rng n) [] (by simp; omega)
  rw [show js.drop ([] : List Int).length = js from rfl, hs] at hsl
  refine (ask_shuffle a n cap F A js w hF hW hL hn).mono ?_
  intro e w' ⟨hI, hK, _, hm⟩
  have hc : ∃ A2 c2, w'.cell? ⟨a, 1, none⟩ = some (.slice A2 js.length c2) := by
    obtain ⟨_, _, As, cs, hWa, _⟩ := hI
    have hlen : (shuf (lans (jl js)) lnxt (n - 1) (rng n) []).2.length = js.length := by rw [hsl.2 rfl, hjl]; simp
    rw [hlen] at hWa
    exact ⟨As, cs, by have := hWa.cellAt 1; simpa using this⟩
  rw [hsl.1] at hm
  obtain ⟨he, hw, hl⟩ := hm
  exact ⟨he, hw, hl, hc, hK.mono (fun b hb h => by omega)⟩
theorem ask_no (a n cap : Nat) (F : Nat → Prop) (A : Option Addr) (js : List Int) (w : World) (hjl : js.length = n - 1) (hF : ∀ g, F g → g ≠ a ∧ g < w.heap.size) (hW : Whole w a 34 #[.slice A js.length cap, .slice none 0 0]) (hL : AnsLies w F A (jl js)) (hn : n ≤ 65536) (hs : shL (n - 1) (rng n) js = none) :
    Calls Try.prog 14 #[.int .i64 n, .func (.func 15) #[.pointer (some ⟨a, 0, none⟩)] #[]] w fun e w' => e = .returned (.tuple #[.slice none 0 0, .bool false]) ∧ Keeps (fun b => b = a) w w' := by
  have hsl := shuf_lans js (n - 1) (rng n) [] (by simp; omega)
  rw [show js.drop ([] : List Int).length = js from rfl, hs] at hsl
  refine (ask_shuffle a n cap F A js w hF hW hL hn).mono ?_
  intro e w' ⟨hI, hK, _, hm⟩
  rw [hsl.1] at hm
  exact ⟨hm, hK.mono (fun b hb h => by omega)⟩
theorem isOrder_n (n : Nat) (l : List Int) (hn : l.length = n) (b : Bool) (hb : b = true ↔ IsOrd l) (A : Option Addr) (B cap : Nat) (w : World) (hl : Lies w B A (l.map (Value.int .i64))) (hB : B ≤ w.heap.size) (hm : n ≤ 140737488351232) :
    Calls Try.prog 12 #[.slice A n cap] w fun e w' => e = .returned (.bool b) ∧ Keeps (fun _ => False) w w' := by
  subst hn; exact isOrder_any l b hb A B cap w hl hB hm
theorem equal_n (n n' : Nat) (x y : List Int) (hx' : x.length = n) (hy' : y.length = n') (b : Bool) (hb : decide (x = y) = b) (A A' : Option Addr) (B B' cap cap' : Nat) (w : World) (hx : Lies w B A (x.map (Value.int .i64))) (hy : Lies w B' A' (y.map (Value.int .i64))) (hm : n ≤ 9223372036854775807) :
    Calls Try.prog 16 #[.slice A n cap, .slice A' n' cap'] w fun e w' => e = .returned (.bool b) ∧ ∃ n, w' = w.drewN n := by
  subst hx' hy' hb; exact equal_any x y A A' B B' cap cap' w hx hy hm
theorem own_keepS {S : Nat → Prop} {w w' : World} {base : Nat} {e : TypeId} {size : Nat} {v : Value} {n : Nat} {xs : List Value} (h : w.ownsRow base e size v n xs) (hk : Keeps S w w') (hn : ∀ b, b < w.heap.size → v.ownBlock = some b → ¬ S b) : w'.ownsRow base e size v n xs := by
  refine ⟨h.1, ?_⟩
  rcases h.2 with h0 | ⟨g, cap, cur, h1, h2, h3, h4⟩
  · exact .inl h0
  · have hg : g < w.heap.size := by
      rcases Nat.lt_or_ge g w.heap.size with h | h
      · exact h
      · rw [Array.getElem?_eq_none h] at h3; cases h3
    exact .inr ⟨g, cap, cur, h1, h2, (hk.block g hg (hn g hg (by rw [h1]; rfl))).trans h3, h4⟩
theorem ans_form {w : World} {base : Nat} {A : Option Addr} {cap : Nat} {js : List Int} (h : w.ownsRow base 43 2 (.slice A js.length cap) js.length (ansCells js)) {p : Nat} (hp : p < js.length) :
    ∃ g, A = some ⟨g, 0, none⟩ ∧ base ≤ g ∧ g < w.heap.size ∧ w.cell? ⟨g, p * 2, none⟩ = some (.int .i64 (js.getD p 0)) ∧ w.frozen? ⟨g, p * 2, none⟩ = false ∧ ∀ x : Int, (w.setCell ⟨g, p * 2, none⟩ (.int .i64 x)).ownsRow base 43 2 (.slice A (js.set p x).length cap) (js.set p x).length (ansCells (js.set p x)) := by
  rcases h.2 with ⟨_, h0⟩ | ⟨g, cap', cur, hv, hb, hh, _⟩
  · omega
  · injection hv with h1 h2 h3
    subst h1
    have hlt : g < w.heap.size := (h.lt g rfl).2
    refine ⟨g, rfl, hb, hlt, ?_, h.frozenAt _, fun x => ?_⟩
    · rw [h.cellAt (p * 2) (by omega)]; exact (ansCells_get js p hp).1
    · have := (h.stored (p * 2) (.int .i64 x)).1
      rw [ansCells_set js p x hp] at this
      rw [List.length_set]
      exact this
/-! ### The plain law -/
theorem ord_back {o : List Int} (h : IsOrd o) : shL (o.length - 1) (rng o.length) (backL (o.length - 1) (rng o.length) o) = some o := by
  by_cases h0 : o.length = 0
  · have : o = [] := List.length_eq_zero_iff.1 h0
    subst this; rfl
  · refine shL_back _ _ _ (by rw [rng_length]; omega) (ord_rng h).symm h.2 (fun k hk => ?_)
    rw [List.getElem?_eq_none (by rw [rng_length]; omega), List.getElem?_eq_none (by omega)]
theorem each_valid {o js : List Int} (hjs : js.length = o.length - 1) (hs : shL (o.length - 1) (rng o.length) js = some o) (at_ : Nat) (x : Int) (ha : at_ < js.length) :
    (shL (o.length - 1) (rng o.length) (js.set at_ x)).isSome = (decide (0 ≤ x) && decide (x < (o.length : Int) - at_)) := by
  have h1 := (shL_some (o.length - 1) (rng o.length) js hjs).1 (by rw [hs]; rfl)
  have h2 := shL_some (o.length - 1) (rng o.length) (js.set at_ x) (by simpa using hjs)
  have hgd : ∀ k, (js.set at_ x).getD k 0 = if at_ = k then x else js.getD k 0 := fun k => by
    rw [List.getD_eq_getElem?_getD, List.getElem?_set]
    by_cases e : at_ = k
    · subst e; rw [if_pos rfl, if_pos ha, if_pos rfl]; rfl
    · rw [if_neg e, if_neg e, List.getD_eq_getElem?_getD]
  rw [Bool.eq_iff_iff, h2]
  simp only [Bool.and_eq_true, decide_eq_true_eq]
  constructor
  · intro h
    have := h at_ (by omega)
    rw [hgd, if_pos rfl] at this
    omega
  · intro hx k hk
    rw [hgd]
    by_cases e : at_ = k
    · subst e; rw [if_pos rfl]; omega
    · rw [if_neg e]; exact h1 k hk
theorem each_other {o js r : List Int} (hjs : js.length = o.length - 1) (hs : shL (o.length - 1) (rng o.length) js = some o) (at_ : Nat) (x : Int) (ha : at_ < js.length) (hne : js.getD at_ 0 ≠ x) (hr : shL (o.length - 1) (rng o.length) (js.set at_ x) = some r) : r ≠ o := fun e =>
  shL_turn (o.length - 1) (rng o.length) js o r at_ x (by rw [rng_length]; omega) (rng_nodup _) ha (by omega) hne hs hr e.symm
theorem ordFrom_perm : ∀ (i : Nat) (l : List Int) (z : Nat), (i < l.length ∨ i = 0) → (ordFrom i l z).Perm l
  | 0, l, _, _ => List.Perm.refl _
  | i + 1, l, z, h => by
    have hi : i + 1 < l.length := by omega
    have hk := @phi_le z i
    unfold ordFrom
    generalize phi (mix (adv z)) (i + 2) = k at *
    exact (ordFrom_perm i _ _ (by rw [swp_length]; omega)).trans (swp_perm hi (by omega))
theorem ordOf_ord (z n : Nat) : IsOrd (ordOf z n) := by
  unfold ordOf
  refine ord_perm (ordFrom_perm (n - 1) (rng n) z ?_) (rng_ord n)
  rw [rng_length]; omega
end Go.Proofs.Ytalngbdjabjahaa
