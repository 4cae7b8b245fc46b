/-
  Chapter 04: lists of pairs: plain laws of memory; Find, samePairs: the walks. Conditions: lengths within 10 ^ 9.
-/
import Derived.Test.YtbfhbekocgdceaaRsA
import Derived.Test.YtbfhbekocgdceaaRoB
import Derived.Test.YtbfhbekocgdceaaGcP
import Derived.Test.YtbfhbekocgdceaaBagP
namespace Go.Proofs.Ytbfhbekocgdceaa
open Go.RowKit
def prC (x : Int × ByteArray) : List Value := [.int .i8 x.1, .string x.2]
theorem prC_length (x : Int × ByteArray) : (prC x).length = 2 := rfl
theorem flat_snoc {α : Type} (f : α → List Value) (l : List α) (x : α) : flat f (l ++ [x]) = flat f l ++ f x := by simp [flat]
theorem flat_append {α : Type} (f : α → List Value) (l m : List α) : flat f (l ++ m) = flat f l ++ flat f m := by simp [flat]
theorem flat_take {α : Type} {f : α → List Value} {s : Nat} (hf : ∀ a, (f a).length = s) (l : List α) (m : Nat) : flat f (l.take m) = (flat f l).take (m * s) := by
  induction l generalizing m with
  | nil => simp [flat]
  | cons a l ih =>
    cases m with
    | zero => simp [flat]
    | succ m =>
      have := ih m
      unfold flat at this ⊢
      rw [List.take_succ_cons, List.flatMap_cons, List.flatMap_cons, this]
      have e1 : (m + 1) * s = (f a).length + m * s := by rw [hf, Nat.succ_mul]; omega
      rw [e1, List.take_length_add_append]
theorem flat_drop {α : Type} {f : α → List Value} {s : Nat} (hf : ∀ a, (f a).length = s) (l : List α) (m : Nat) : flat f (l.drop m) = (flat f l).drop (m * s) := by
  induction l generalizing m with
  | nil => simp [flat]
  | cons a l ih =>
    cases m with
    | zero => simp [flat]
    | succ m =>
      have := ih m
      unfold flat at this ⊢
      rw [List.drop_succ_cons, List.flatMap_cons, this]
      have e1 : (m + 1) * s = (f a).length + m * s := by rw [hf, Nat.succ_mul]; omega
      rw [e1, List.drop_length_add_append]
theorem one_pairs (l : List (Int × ByteArray)) : ∀ u ∈ flat prC l, u.oneCell' = true := fun u hu => by
  obtain ⟨x, _, h⟩ := List.mem_flatMap.1 hu
  simp [prC] at h
  rcases h with rfl | rfl <;> rfl
theorem PrLies.cells {w : World} {B : Nat} {A : Option Addr} {l : List (Int × ByteArray)} (h : PrLies w B A l) : Lies w B A (flat prC l) := fun k u hu => by
  have hk := (List.getElem?_eq_some_iff.1 hu).1
  rw [flat_length (k := 2) prC_length] at hk
  have hi : k / 2 < l.length := by omega
  obtain ⟨g, off, e, hg, h0, h1⟩ := h (k / 2) l[k / 2] (List.getElem?_eq_getElem hi)
  have hf := flat_get (k := 2) prC_length l (k / 2) l[k / 2] (List.getElem?_eq_getElem hi) (k % 2) (by omega)
  rw [show k / 2 * 2 + k % 2 = k by omega, hu] at hf
  refine ⟨g, off, e, hg, ?_⟩
  rcases (show k % 2 = 0 ∨ k % 2 = 1 by omega) with hm | hm
  · rw [hm] at hf
    rw [show off + k = off + k / 2 * 2 by omega, h0]
    exact hf.symm
  · rw [hm] at hf
    rw [show off + k = off + k / 2 * 2 + 1 by omega, h1]
    exact hf.symm
theorem PrLies.of {w : World} {B : Nat} {A : Option Addr} {l : List (Int × ByteArray)} (h : Lies w B A (flat prC l)) : PrLies w B A l := fun j x hx => by
  have h0 := flat_get (k := 2) prC_length l j x hx 0 (by decide)
  have h1 := flat_get (k := 2) prC_length l j x hx 1 (by decide)
  obtain ⟨g, off, e, hg, c0⟩ := h _ _ h0
  obtain ⟨g', off', e', _, c1⟩ := h _ _ h1
  obtain ⟨rfl, rfl⟩ : g = g' ∧ off = off' := by rw [e] at e'; injection e' with e'; injection e' with e1 e2; exact ⟨e1, e2⟩
  exact ⟨g, off, e, hg, by rw [← Nat.add_zero (j * 2)]; exact c0, c1⟩
/-- What a call that makes a row of pairs answers. -/
structure MadeP (w w' : World) (A : Option Addr) (c : Nat) (l : List (Int × ByteArray)) : Prop where
  own : w'.ownsRow w.heap.size 49 2 (.slice A l.length c) l.length (flat prC l)
  keeps : Keeps (fun _ => False) w w'
theorem own_flat_lies {w : World} {base n size cap : Nat} {e : TypeId} {xs : List Value} {A : Option Addr} (h : w.ownsRow base e size (.slice A n cap) n xs) : Lies w w.heap.size A xs := by
  intro k u hu
  have hk : k < n * size := by
    rcases Nat.lt_or_ge k xs.length with h1 | h1
    · rw [← h.1]; exact h1
    · rw [List.getElem?_eq_none h1] at hu; cases hu
  rcases h.2 with ⟨_, h0⟩ | ⟨g, cap', cur, hv, _, hh, _⟩
  · rw [h0] at hk; omega
  · injection hv with h1 h2 h3
    subst h1
    exact ⟨g, 0, rfl, (Array.getElem?_eq_some_iff.1 hh).1, by rw [Nat.zero_add, own_cells h rfl hk, hu]⟩
theorem MadeP.later {w w1 w2 : World} {A : Option Addr} {c : Nat} {l : List (Int × ByteArray)} (h : MadeP w w1 A c l) (hk : Keeps (fun _ => False) w1 w2) : PrLies w2 w2.heap.size A l :=
  PrLies.of (own_flat_lies (own_keepsS h.own hk (fun _ _ h => h)))
theorem MadeP.cap {w w1 : World} {A : Option Addr} {c : Nat} {l : List (Int × ByteArray)} (h : MadeP w w1 A c l) : l.length ≤ c ∧ (A = none → c = 0) := by
  rcases h.own.2 with ⟨hv, h0⟩ | ⟨g, cap', cur, hv, _, hh, hc, _⟩
  · injection hv with h1 h2 h3
    exact ⟨by omega, fun _ => h3⟩
  · injection hv with h1 h2 h3
    subst h3
    exact ⟨hc, fun h => by rw [h1] at h; cases h⟩
/-- Where a pair stands first. -/
def findP (xs : List (Int × ByteArray)) (x : Int × ByteArray) : Int := match xs.findIdx? (fun y => decide (y = x)) with
  | some i => i
  | none => -1
theorem findP_at {xs : List (Int × ByteArray)} {x : Int × ByteArray} {k : Nat} (hk : k < xs.length) (h : xs[k] = x) (hn : ∀ j (hj : j < k), xs[j]'(by omega) ≠ x) : findP xs x = k := by
  unfold findP
  have : xs.findIdx? (fun y => decide (y = x)) = some k := by
    rw [List.findIdx?_eq_some_iff_getElem]
    exact ⟨hk, by simp [h], fun j hj => by simp [hn j hj]⟩
  rw [this]
theorem findP_none {xs : List (Int × ByteArray)} {x : Int × ByteArray} (hn : ∀ j (hj : j < xs.length), xs[j] ≠ x) : findP xs x = -1 := by
  unfold findP
  have : xs.findIdx? (fun y => decide (y = x)) = none := by
    rw [List.findIdx?_eq_none_iff]
    intro y hy
    obtain ⟨j, hj, rfl⟩ := List.mem_iff_getElem.1 hy
    simp [hn j hj]
  rw [this]
theorem eq_pair (c c' : Int × ByteArray) (w : World) : (binOp .eql 49 (.agg #[.int .i8 c.1, .string c.2]) (.agg #[.int .i8 c'.1, .string c'.2])).run Try.prog w = .ok (.bool (decide (c = c'))) w := by
  rw [run_eql_struct, run_equalIn_struct _ _ _ _ _ (by kernel_rfl) (by kernel_rfl)]
  have hu := Try.underlying49
  simp [Program.fieldsOf, hu, Op.eqFields, go_sem, Try.underlying47, Try.underlying9]
  clear hu
  by_cases h : c = c'
  · subst h; simp
  · rw [decide_eq_false h]
    repeat' split
    all_goals first
      | rfl
      | (refine absurd (?_ : c = c') h
         obtain ⟨a, b⟩ := c
         obtain ⟨a', b'⟩ := c'
         simp only [Prod.mk.injEq]
         exact ⟨by assumption, bytes_inj (by assumption)⟩)
set_option maxRecDepth 100000 in
set_option maxHeartbeats 2000000 in
theorem rfindP_any (xs : List (Int × ByteArray)) (x : Int × ByteArray) (A : Option Addr) (cap : Nat) (w : World) (hx : PrLies w w.heap.size A xs) (hl : xs.length ≤ 1000000000) :
    Calls Try.prog 55 #[.slice A xs.length cap, .agg #[.int .i8 x.1, .string x.2]] w fun e w' => e = .returned (.int .i64 (findP xs x)) ∧ Keeps (fun _ => False) w w' := by
  have HX := Lib.hid hx; clear hx
  go_enter Try.func55, Try.ntmps55
  go_wp2_with fail
  have WX0 : Hid (Whole (w.alloc (.cells #[.int .i8 x.1, .string x.2] 49)) w.heap.size 49 #[.int .i8 x.1, .string x.2]) := Lib.hid (Whole.made _ _ _)
  have KX0 : Hid (Keeps (fun _ => False) w (w.alloc (.cells #[.int .i8 x.1, .string x.2] 49))) := Lib.hid ((Keeps.refl _ _).alloc _)
  go_loopw [9] (fun v wr => ∃ k : Nat, k ≤ xs.length ∧ v = .int .i64 k ∧ Hid (∀ j (hj : j < k) (h : j < xs.length), xs[j] ≠ x) ∧ Hid (Whole wr w.heap.size 49 #[.int .i8 x.1, .string x.2]) ∧ Hid (Keeps (fun _ => False) w wr)) (fun v _ => xs.length - (intOf v).toNat)
  case atStart => exact ⟨0, by omega, rfl, Lib.hid (fun _ h => absurd h (Nat.not_lt_zero _)), WX0, KX0⟩
  case round =>
    clear WX0 KX0
    obtain ⟨k, hk, rfl, HN, HW, HK⟩ := hrel
    obtain ⟨wr, rfl⟩ : ∃ z, z = wr := ⟨_, rfl⟩
    by_cases hlt : k < xs.length
    · obtain ⟨g, off, rfl, hg, c0, c1⟩ := HX.out k xs[k] (List.getElem?_eq_getElem hlt)
      have b0 := (HK.out.cell hg id).trans c0
      have b1 := (HK.out.cell hg id).trans c1
      have x0 : wr.cell? ⟨w.heap.size, 0, none⟩ = some (.int .i8 x.1) := HW.out.cellAt 0
      have x1 : wr.cell? ⟨w.heap.size, 1, none⟩ = some (.string x.2) := HW.out.cellAt 1
      have y0 : ∀ o, (wr.alloc o).cell? ⟨w.heap.size, 0, none⟩ = some (.int .i8 x.1) := fun o => (HW.out.alloc o).cellAt 0
      have y1 : ∀ o, (wr.alloc o).cell? ⟨w.heap.size, 1, none⟩ = some (.string x.2) := fun o => (HW.out.alloc o).cellAt 1
      have HW2 := Lib.hid (fun o => HW.out.alloc o)
      have HK2 := Lib.hid (fun o => HK.out.alloc o)
      clear c0 c1
      by_cases he : xs[k] = x
      · have HF := Lib.hid (findP_at hlt he (fun j hj => HN.out j hj (by omega)))
        have hq : ∀ w, (binOp .eql 49 (.agg #[.int .i8 xs[k].1, .string xs[k].2]) (.agg #[.int .i8 x.1, .string x.2])).run Try.prog w = .ok (.bool true) w := fun w => by rw [eq_pair, decide_eq_true he]
        clear HN HX he
        generalize xs[k] = y at *
        go_wp2_with fail
        go_ret
        exact ⟨by rw [HF.out]; rfl, HK2.out _⟩
      · have hq : ∀ w, (binOp .eql 49 (.agg #[.int .i8 xs[k].1, .string xs[k].2]) (.agg #[.int .i8 x.1, .string x.2])).run Try.prog w = .ok (.bool false) w := fun w => by rw [eq_pair, decide_eq_false he]
        have HN2 : Hid (∀ j (hj : j < k + 1) (h : j < xs.length), xs[j] ≠ x) := Lib.hid (fun j hj h => by
          by_cases e : j = k
          · subst e; exact he
          · exact HN.out j (by omega) h)
        clear HN he
        generalize xs[k] = y at *
        go_wp2_with fail
        go_roundw
        case rel => exact ⟨k + 1, by omega, by go_num, HN2, Lib.hid (HW2.out _), Lib.hid (HK2.out _)⟩
        case measure => simp [intOf]; omega
    · obtain rfl : k = xs.length := by omega
      have HF := Lib.hid (findP_none (fun j hj => HN.out j hj hj))
      clear HN HX
      go_wp2_with fail
      go_ret
      exact ⟨by rw [HF.out]; rfl, HK.out⟩
set_option maxHeartbeats 1000000 in
theorem samePairs_any (x y : List (Int × ByteArray)) (A A' : Option Addr) (B B' cap cap' : Nat) (w : World) (hx : PrLies w B A x) (hy : PrLies w B' A' y) (hm : x.length ≤ 1000000000) :
    Calls Try.prog 51 #[.slice A x.length cap, .slice A' y.length cap'] w fun e w' => e = .returned (.bool (decide (x = y))) ∧ ∃ n, w' = w.drewN n := by
  by_cases hlen : x.length = y.length
  · go_enter Try.func51, Try.ntmps51
    go_wp2
    go_loopw [5] (fun i wr => ∃ k d : Nat, k ≤ x.length ∧ i = .int .i64 k ∧ x.take k = y.take k ∧ wr = w.drewN d) (fun i _ => x.length - (intOf i).toNat)
    case atStart => exact ⟨0, 0, by omega, rfl, rfl, rfl⟩
    case round =>
      obtain ⟨k, d, hk, rfl, heq, rfl⟩ := hrel
      have HE := Lib.hid heq; clear heq
      by_cases hlt : k < x.length
      · have hlt' : k < y.length := by omega
        obtain ⟨g, off, rfl, _, k0, k1⟩ := hx k x[k] (List.getElem?_eq_getElem hlt)
        obtain ⟨g', off', rfl, _, l0, l1⟩ := hy k y[k] (List.getElem?_eq_getElem hlt')
        by_cases hxy : x[k] = y[k]
        · have hs : Hid (x.take (k + 1) = y.take (k + 1)) := Lib.hid (by rw [List.take_succ_eq_append_getElem hlt, List.take_succ_eq_append_getElem hlt', HE.out, hxy])
          have ht : (!decide (x[k] = y[k])) = false := by rw [decide_eq_true hxy]; rfl
          have hq := fun w => ne_pair x[k] y[k] w
          rw [ht] at hq
          clear hxy ht
          generalize x[k] = c at *
          generalize y[k] = c' at *
          go_wp2_with fail
          go_quiet (fail)
          go_wp2
          go_roundw
          case rel => exact ⟨k + 1, _, by omega, by go_num, hs.out, rfl⟩
          case measure => simp [intOf]; omega
        · have hne : x ≠ y := fun e => hxy (by subst e; rfl)
          have ht : (!decide (x[k] = y[k])) = true := by rw [decide_eq_false hxy]; rfl
          have hq := fun w => ne_pair x[k] y[k] w
          rw [ht] at hq
          clear hxy ht
          generalize x[k] = c at *
          generalize y[k] = c' at *
          go_wp2_with fail
          go_quiet (fail)
          go_wp2
          go_ret
          exact ⟨by simp [hne], _, World.drewN_drewN _ _ _⟩
      · obtain rfl : k = x.length := by omega
        have he : x = y := by have := HE.out; rw [List.take_length, hlen, List.take_length] at this; exact this
        have HF := Lib.hid he; clear he
        go_wp2
        go_ret
        exact ⟨by simp [HF.out], _, rfl⟩
  · have hne : x ≠ y := fun e => hlen (by rw [e])
    go_enter Try.func51, Try.ntmps51
    go_wp2
    go_ret
    exact ⟨by simp [hne], 0, rfl⟩
end Go.Proofs.Ytbfhbekocgdceaa
