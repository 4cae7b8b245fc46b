/-
  RowsStacks: two new stacks of one bound; a list of lists held; apart of none. Conditions: none.
-/
import Derived.Test.YtbfhbekocgdceaaRtG
import Derived.Test.YtbfhbekocgdceaaRtO
import Derived.Test.YtbfhbekocgdceaaSoI
namespace Go.Proofs.Ytbfhbekocgdceaa
open Go.RowKit
/-- A new stack, or none. -/
def NewI (w' : World) (m : Int) (p : Option Addr) (B B' : Nat) : Prop := (m < 0 ∧ p = none) ∨ (0 ≤ m ∧ ∃ sp, p = some ⟨sp, 0, none⟩ ∧ B ≤ sp ∧ sp < B' ∧ StackI w' sp none 0 [] 0 m)
def NewR (w' : World) (m : Int) (p : Option Addr) (B B' : Nat) : Prop := (m < 0 ∧ p = none) ∨ (0 ≤ m ∧ ∃ sp, p = some ⟨sp, 0, none⟩ ∧ B ≤ sp ∧ sp < B' ∧ RefS w' sp m none 0 [] none 0 [])
theorem NewI.calm {w w' : World} {m : Int} {p : Option Addr} {B B' : Nat} (h : NewI w m p B B') (hk : Keeps (fun _ => False) w w') : NewI w' m p B B' := by
  rcases h with h | ⟨h0, sp, h1, h2, h4, h3⟩
  · exact .inl h
  · exact .inr ⟨h0, sp, h1, h2, h4, h3.calm hk (fun h => h) (fun _ _ h => h)⟩
theorem NewR.calm {w w' : World} {m : Int} {p : Option Addr} {B B' : Nat} (h : NewR w m p B B') (hk : Keeps (fun _ => False) w w') : NewR w' m p B B' := by
  rcases h with h | ⟨h0, sp, h1, h2, h4, h3⟩
  · exact .inl h
  · exact .inr ⟨h0, sp, h1, h2, h4, h3.calm hk (fun h => h) (fun _ _ h => h) (fun _ _ h => h)⟩
theorem newI_val (m : Int) (w : World) :
    Calls Try.prog 38 #[.int .i64 m] w fun e w' => ∃ p, e = .returned (.pointer p) ∧ NewI w' m p w.heap.size w'.heap.size ∧ Keeps (fun _ => False) w w' := by
  by_cases h : m < 0
  · refine (newStackI_neg m w h).mono ?_
    rintro e w' ⟨rfl, rfl⟩
    exact ⟨none, rfl, .inl ⟨h, rfl⟩, Keeps.refl _ _⟩
  · refine (newStackI_any m w (by omega)).mono ?_
    rintro e w' ⟨rfl, h1, h2⟩
    exact ⟨_, rfl, .inr ⟨by omega, _, rfl, Nat.le_refl _, h1.box.inside, h1⟩, h2⟩
theorem newR_val (m : Int) (w : World) :
    Calls Try.prog 39 #[.int .i64 m] w fun e w' => ∃ p, e = .returned (.pointer p) ∧ NewR w' m p w.heap.size w'.heap.size ∧ Keeps (fun _ => False) w w' := by
  by_cases h : m < 0
  · refine (refNew_neg m w h).mono ?_
    rintro e w' ⟨rfl, rfl⟩
    exact ⟨none, rfl, .inl ⟨h, rfl⟩, Keeps.refl _ _⟩
  · refine (refNew_any m w (by omega)).mono ?_
    rintro e w' ⟨rfl, h1, h2⟩
    exact ⟨_, rfl, .inr ⟨by omega, _, rfl, Nat.le_refl _, h1.box.inside, h1⟩, h2⟩
theorem NewI.side {w : World} {m : Int} {p q : Option Addr} {B1 B2 B3 B4 : Nat} (h : NewI w m p B1 B2) (h' : NewR w m q B3 B4) (hB : B2 ≤ B3) : (p = none ∧ q = none ∨ p ≠ none ∧ q ≠ none) ∧ ∃ F : Nat → Prop, Side w (.pointer p) (.pointer q) 0 F ∧ ∀ b, F b → (B1 ≤ b ∧ b < B2) ∨ (B3 ≤ b ∧ b < B4) := by
  rcases h with ⟨h0, rfl⟩ | ⟨h0, sp, rfl, h1, h2, h3⟩
  · rcases h' with ⟨h0', rfl⟩ | ⟨h0', _⟩
    · exact ⟨.inl ⟨rfl, rfl⟩, fun _ => False, .inl ⟨rfl, rfl, fun _ h => h⟩, fun _ h => h.elim⟩
    · omega
  · rcases h' with ⟨h0', _⟩ | ⟨h0', rp, rfl, h1', h2', h3'⟩
    · omega
    · refine ⟨.inr ⟨by simp, by simp⟩, PairS.foot sp rp none none none, .inr ⟨sp, rp, none, 0, [], 0, m, none, 0, none, 0, rfl, rfl, ⟨h3, h3', by omega, (fun b h => by cases h), (fun b h => by cases h), (fun b h => by cases h)⟩, Nat.le_refl _, by simpa using h0, fun b => Iff.rfl⟩, fun b hb => ?_⟩
      rcases hb with rfl | rfl | hb | hb | hb
      · exact .inl ⟨h1, h2⟩
      · exact .inr ⟨h1', h2'⟩
      · cases hb
      · cases hb
      · cases hb
/-- What stands between two calls of the script. -/
structure StAt (w0 w : World) (bs br hb : Nat) (p0 p1 q0 q1 : Option Addr) (m : Nat) (F0 F1 : Nat → Prop) (rows : List Sl) (HA : Option Addr) (hc : Nat) : Prop where
  s0 : Side w (.pointer p0) (.pointer q0) m F0
  s1 : Side w (.pointer p1) (.pointer q1) m F1
  held : HeldIn w hb rows HA hc
  d01 : ∀ b, F0 b → ¬ F1 b
  d0h : ∀ b, F0 b → ¬ HeldIn.foot hb HA rows b
  d1h : ∀ b, F1 b → ¬ HeldIn.foot hb HA rows b
  ws : Whole w bs 71 #[.pointer p0, .pointer p1]
  wr : Whole w br 74 #[.pointer q0, .pointer q1]
  far : ∀ b, F0 b ∨ F1 b ∨ HeldIn.foot hb HA rows b → w0.heap.size ≤ b ∧ b ≠ bs ∧ b ≠ br
  low : w0.heap.size ≤ bs ∧ w0.heap.size ≤ br
  keeps : Keeps (fun b => w0.heap.size ≤ b) w0 w
  len : rows.length ≤ m
theorem StAt.step0 {w0 w w' : World} {bs br hb : Nat} {p0 p1 q0 q1 : Option Addr} {m : Nat} {F0 F1 F' : Nat → Prop} {rows rows' : List Sl} {HA HA' : Option Addr} {hc hc' : Nat} (h : StAt w0 w bs br hb p0 p1 q0 q1 m F0 F1 rows HA hc) (hd : DoesTo w w' (.pointer p0) (.pointer q0) m F0 F' hb rows rows' HA HA' hc') :
    StAt w0 w' bs br hb p0 p1 q0 q1 (m + 1) F' F1 rows' HA' hc' := by
  have hsz := h.keeps.size
  have hws := h.ws.inside
  have hwr := h.wr.inside
  refine ⟨hd.side, (h.s1.calm hd.keeps (fun b h1 h2 => ?_)).more (Nat.le_succ _), hd.held, fun b h1 h2 => ?_, hd.dis, fun b h1 h2 => ?_, h.ws.keeps hd.keeps (fun h1 => ?_), h.wr.keeps hd.keeps (fun h1 => ?_), fun b h1 => ?_, h.low, h.keeps.and hd.keeps (fun b _ h1 => ?_), by have := hd.len; have := h.len; omega⟩
  · rcases h2 with h2 | h2
    · exact h.d01 b h2 h1
    · exact h.d1h b h1 h2
  · rcases hd.newF b h1 with h3 | h3
    · exact h.d01 b h3 h2
    · have := h.s1.lt h2; omega
  · rcases hd.newH b h2 with h3 | h3
    · exact h.d1h b h1 h3
    · have := h.s1.lt h1; omega
  · rcases h1 with h1 | h1
    · exact (h.far _ (.inl h1)).2.1 rfl
    · exact (h.far _ (.inr (.inr h1))).2.1 rfl
  · rcases h1 with h1 | h1
    · exact (h.far _ (.inl h1)).2.2 rfl
    · exact (h.far _ (.inr (.inr h1))).2.2 rfl
  · rcases h1 with h1 | h1 | h1
    · rcases hd.newF b h1 with h3 | h3
      · exact h.far b (.inl h3)
      · exact ⟨by omega, by omega, by omega⟩
    · exact h.far b (.inr (.inl h1))
    · rcases hd.newH b h1 with h3 | h3
      · exact h.far b (.inr (.inr h3))
      · exact ⟨by omega, by omega, by omega⟩
  · rcases h1 with h1 | h1
    · exact (h.far _ (.inl h1)).1
    · exact (h.far _ (.inr (.inr h1))).1
theorem StAt.step1 {w0 w w' : World} {bs br hb : Nat} {p0 p1 q0 q1 : Option Addr} {m : Nat} {F0 F1 F' : Nat → Prop} {rows rows' : List Sl} {HA HA' : Option Addr} {hc hc' : Nat} (h : StAt w0 w bs br hb p0 p1 q0 q1 m F0 F1 rows HA hc) (hd : DoesTo w w' (.pointer p1) (.pointer q1) m F1 F' hb rows rows' HA HA' hc') :
    StAt w0 w' bs br hb p0 p1 q0 q1 (m + 1) F0 F' rows' HA' hc' := by
  have hsz := h.keeps.size
  have hws := h.ws.inside
  have hwr := h.wr.inside
  refine ⟨(h.s0.calm hd.keeps (fun b h1 h2 => ?_)).more (Nat.le_succ _), hd.side, hd.held, fun b h1 h2 => ?_, fun b h1 h2 => ?_, hd.dis, h.ws.keeps hd.keeps (fun h1 => ?_), h.wr.keeps hd.keeps (fun h1 => ?_), fun b h1 => ?_, h.low, h.keeps.and hd.keeps (fun b _ h1 => ?_), by have := hd.len; have := h.len; omega⟩
  · rcases h2 with h2 | h2
    · exact h.d01 b h1 h2
    · exact h.d0h b h1 h2
  · rcases hd.newF b h2 with h3 | h3
    · exact h.d01 b h1 h3
    · have := h.s0.lt h1; omega
  · rcases hd.newH b h2 with h3 | h3
    · exact h.d0h b h1 h3
    · have := h.s0.lt h1; omega
  · rcases h1 with h1 | h1
    · exact (h.far _ (.inr (.inl h1))).2.1 rfl
    · exact (h.far _ (.inr (.inr h1))).2.1 rfl
  · rcases h1 with h1 | h1
    · exact (h.far _ (.inr (.inl h1))).2.2 rfl
    · exact (h.far _ (.inr (.inr h1))).2.2 rfl
  · rcases h1 with h1 | h1 | h1
    · exact h.far b (.inl h1)
    · rcases hd.newF b h1 with h3 | h3
      · exact h.far b (.inr (.inl h3))
      · exact ⟨by omega, by omega, by omega⟩
    · rcases hd.newH b h1 with h3 | h3
      · exact h.far b (.inr (.inr h3))
      · exact ⟨by omega, by omega, by omega⟩
  · rcases h1 with h1 | h1
    · exact (h.far _ (.inr (.inl h1))).1
    · exact (h.far _ (.inr (.inr h1))).1
set_option maxRecDepth 100000 in
theorem rapart_none (w : World) :
    Calls Try.prog 31 #[.slice none 0 0] w fun e w' => e = .returned (.bool true) ∧ Keeps (fun _ => False) w w' := by
  go_enter Try.func31, Try.ntmps31
  go_wp2_with fail
  go_loopw [4] (fun v wr => v = .int .i64 0 ∧ wr = w) (fun _ _ => 0)
  case atStart => exact ⟨rfl, rfl⟩
  case round =>
    obtain ⟨rfl, rfl⟩ := hrel
    go_wp2_with fail
    go_loopw [3, 6] (fun vm v wr' => vm = .slice none 0 0 ∧ v = .int .i64 0 ∧ wr' = wr) (fun _ _ _ => 0)
    case atStart => exact ⟨rfl, rfl, rfl⟩
    case round =>
      obtain ⟨rfl, rfl, rfl⟩ := hrel
      go_wp2_with fail
      go_loopw [9] (fun v wq => v = .int .i64 0 ∧ wq = wr) (fun _ _ => 0)
      case atStart => exact ⟨rfl, rfl⟩
      case round =>
        obtain ⟨rfl, rfl⟩ := hrel
        go_wp2_with fail
        go_ret
        exact ⟨rfl, Keeps.refl _ _⟩
end Go.Proofs.Ytbfhbekocgdceaa
